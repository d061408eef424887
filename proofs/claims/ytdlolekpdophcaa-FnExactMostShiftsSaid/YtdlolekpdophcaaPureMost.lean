/- The most shifts: the program's stable sort and one pass, the reference's repeated least end: both choose the same. -/
import Derived.Test.YtdlolekpdophcaaShift
import Derived.Sort.LotA
namespace Go.Proofs.Ytdlolekpdophcaa.Pure
set_option linter.unusedVariables false
set_option linter.unusedSimpArgs false
open Go.RowKit Go.Proofs.Ytdlolekpdophcaa.PEM Go.Proofs.Ytdlolekpdophcaa.Base Go.Proofs.YtdlolekpdophcaaW.PrintWords Go.Proofs.YtdlolekpdophcaaW.PrintLast

abbrev ShM := S39
def shB (x : ShM) : Bool := inB 0 167 x.f0 && inB (wrap64 (x.f0 + 1)) (wrap64 (x.f0 + 12)) x.f1
theorem sh_specM (a b : Int) : spec_l22Ok.f a b = some (shB ⟨a, b⟩) := by
  simp only [spec_l22Ok.f, spec_in, Option.bind_some, shB]
  cases inB 0 167 a <;> simp
theorem shB_iff (x : ShM) : shB x = true ↔ (0 ≤ x.f0 ∧ x.f0 ≤ 167) ∧ x.f0 + 1 ≤ x.f1 ∧ x.f1 ≤ x.f0 + 12 := by
  unfold shB
  simp only [Bool.and_eq_true, inB_iff]
  constructor
  · rintro ⟨h1, h2⟩
    rw [w64 (by omega) (by omega), w64 (by omega) (by omega)] at h2
    exact ⟨h1, h2⟩
  · rintro ⟨h1, h2⟩
    refine ⟨h1, ?_⟩
    rw [w64 (by omega) (by omega), w64 (by omega) (by omega)]
    exact h2
def Fr (l : List ShM) (i : Int) : Int := (rd_T39 l i).f0
def En (l : List ShM) (i : Int) : Int := (rd_T39 l i).f1
/-- i comes ahead of j: its end is sooner, or as soon and its place is lesser. -/
def Lx (l : List ShM) (i j : Int) : Prop := En l i < En l j ∨ (En l i = En l j ∧ i < j)
theorem Lx.trans {l : List ShM} {i j k : Int} (h1 : Lx l i j) (h2 : Lx l j k) : Lx l i k := by
  unfold Lx at *
  omega

/-! ### the sort -/
structure InO (l : List ShM) (m i : Nat) (d : Array (Fin (m + 1))) : Prop where
  sz : d.size = m + 1
  srt : ∀ p q, p < q → q < i → Lx l (d[p]!.val : Int) (d[q]!.val : Int)
  lo : ∀ p, p < i → d[p]!.val < i
  hi : ∀ q, i ≤ q → q < m + 1 → d[q]!.val = q
structure InI (l : List ShM) (m j i : Nat) (d : Array (Fin (m + 1))) : Prop where
  sz : d.size = m + 1
  at_ : d[j]!.val = i
  rest : ∀ p q, p < q → q ≤ i → p ≠ j → q ≠ j → Lx l (d[p]!.val : Int) (d[q]!.val : Int)
  right : ∀ q, j < q → q ≤ i → En l (d[j]!.val : Int) < En l (d[q]!.val : Int)
  lo : ∀ p, p ≤ i → p ≠ j → d[p]!.val < i
  hi : ∀ q, i < q → q < m + 1 → d[q]!.val = q
theorem InI.stop {l : List ShM} {m j i : Nat} {d : Array (Fin (m + 1))} (h : InI l m j i d) (hji : j ≤ i) (hs : j = 0 ∨ ¬ En l (d[j]!.val : Int) < En l (d[j - 1]!.val : Int)) : InO l m (i + 1) d := by
  have hl : ∀ p, p < j → Lx l (d[p]!.val : Int) (d[j]!.val : Int) := fun p hp => by
    rcases hs with hs | hs
    · omega
    · have h1 : Lx l (d[j - 1]!.val : Int) (d[j]!.val : Int) := by
        have hlo := h.lo (j - 1) (by omega) (by omega)
        have hat := h.at_
        unfold Lx
        omega
      by_cases e : p = j - 1
      · rw [e]; exact h1
      · exact (h.rest p (j - 1) (by omega) (by omega) (by omega) (by omega)).trans h1
  refine ⟨h.sz, fun p q hpq hq => ?_, fun p hp => ?_, fun q h1 h2 => h.hi q (by omega) h2⟩
  · by_cases e1 : q = j
    · subst e1; exact hl p hpq
    · by_cases e2 : p = j
      · subst e2; exact Or.inl (h.right q hpq (by omega))
      · exact h.rest p q hpq (by omega) e2 e1
  · by_cases e : p = j
    · rw [e, h.at_]; omega
    · have := h.lo p (by omega) e; omega
theorem InI.step {l : List ShM} {m j i : Nat} {d : Array (Fin (m + 1))} (h : InI l m (j + 1) i d) (hji : j + 1 ≤ i) (him : i < m + 1) (hs : En l (d[j + 1]!.val : Int) < En l (d[j]!.val : Int)) : InI l m j i (Go.Sort.swp d (j + 1) j) := by
  have hsz := h.sz
  have g : ∀ k, (Go.Sort.swp d (j + 1) j)[k]! = if k = j + 1 then d[j]! else if k = j then d[j + 1]! else d[k]! := fun k => by
    by_cases e1 : k = j + 1
    · rw [if_pos e1, e1, Go.Sort.swp_left d (j + 1) j (by omega) (by omega)]
    · rw [if_neg e1]
      by_cases e2 : k = j
      · rw [if_pos e2, e2, Go.Sort.swp_right d (j + 1) j (by omega)]
      · rw [if_neg e2, Go.Sort.swp_other d (j + 1) j k e1 e2]
  refine ⟨by rw [Go.Sort.swp_size]; exact hsz, ?_, ?_, ?_, ?_, ?_⟩
  · rw [g, if_neg (by omega), if_pos rfl]; exact h.at_
  · intro p q hpq hqi hp hq
    rw [g p, g q, if_neg hp, if_neg hq]
    by_cases e1 : p = j + 1
    · rw [if_pos e1, if_neg (show ¬ q = j + 1 by omega)]
      exact h.rest j q (by omega) hqi (by omega) (by omega)
    · rw [if_neg e1]
      by_cases e2 : q = j + 1
      · rw [if_pos e2]
        exact h.rest p j (by omega) (by omega) e1 (by omega)
      · rw [if_neg e2]
        exact h.rest p q hpq hqi e1 e2
  · intro q hq hqi
    rw [g j, g q, if_neg (show ¬ j = j + 1 by omega), if_pos rfl]
    by_cases e : q = j + 1
    · rw [if_pos e]; exact hs
    · rw [if_neg e, if_neg (show ¬ q = j by omega)]
      exact h.right q (by omega) hqi
  · intro p hp hpj
    rw [g p]
    by_cases e : p = j + 1
    · rw [if_pos e]; exact h.lo j (by omega) (by omega)
    · rw [if_neg e, if_neg hpj]; exact h.lo p hp e
  · intro q h1 h2
    rw [g q, if_neg (by omega), if_neg (by omega)]
    exact h.hi q h1 h2
/-- The ends are small numbers. -/
def SmallE (l : List ShM) (m : Nat) : Prop := ∀ x : Fin (m + 1), 0 ≤ En l (x.val : Int) ∧ En l (x.val : Int) ≤ 1000
theorem lt_is (l : List ShM) (m : Nat) (hS : SmallE l m) (x y : Fin (m + 1)) : ltOf (most_cf l m) x y = decide (En l (x.val : Int) < En l (y.val : Int)) := by
  have h1 := hS x
  have h2 := hS y
  unfold ltOf most_cf
  unfold En at *
  rw [w64 (by omega) (by omega)]
  apply decide_eq_decide.2
  omega
theorem ins_in (l : List ShM) (m : Nat) (hS : SmallE l m) (i : Nat) (him : i < m + 1) : ∀ (j : Nat) (d : Array (Fin (m + 1))), j ≤ i → InI l m j i d → InO l m (i + 1) (Go.Sort.insInner (ltOf (most_cf l m)) 0 j d)
  | 0, d, hj, h => by
    unfold Go.Sort.insInner
    exact h.stop hj (Or.inl rfl)
  | j + 1, d, hj, h => by
    unfold Go.Sort.insInner
    rw [lt_is l m hS]
    by_cases c : En l (d[j + 1]!.val : Int) < En l (d[j]!.val : Int)
    · rw [if_pos (by simp [c])]
      exact ins_in l m hS i him j _ (by omega) (h.step hj him c)
    · rw [if_neg (by simp [c])]
      exact h.stop hj (Or.inr c)
theorem ins_out (l : List ShM) (m : Nat) (hS : SmallE l m) : ∀ (n i : Nat) (d : Array (Fin (m + 1))), m + 1 - i = n → i ≤ m + 1 → InO l m i d → InO l m (m + 1) (Go.Sort.insOuter (ltOf (most_cf l m)) 0 (m + 1) i d) := by
  intro n
  induction n with
  | zero =>
    intro i d hn hi h
    unfold Go.Sort.insOuter
    rw [if_neg (by omega)]
    obtain rfl : i = m + 1 := by omega
    exact h
  | succ n ih =>
    intro i d hn hi h
    unfold Go.Sort.insOuter
    rw [if_pos (by omega)]
    refine ih (i + 1) _ (by omega) (by omega) (ins_in l m hS i (by omega) i d (Nat.le_refl _) ?_)
    exact ⟨h.sz, h.hi i (Nat.le_refl _) (by omega), fun p q hpq hq hp hq' => h.srt p q hpq (by omega), fun q h1 h2 => absurd h1 (by omega), fun p hp hp' => h.lo p (by omega), fun q h1 h2 => h.hi q (by omega) h2⟩
theorem ar_is (l : List ShM) (m : Nat) (hS : SmallE l m) : InO l m (m + 1) (most_ar l m) := by
  unfold most_ar Go.Sort.insertionSort
  have g : ∀ q, q < m + 1 → (Array.ofFn (fun i : Fin (m + 1) => i))[q]!.val = q := fun q hq => by
    rw [getElem!_pos _ q (by simpa using hq)]
    simp
  refine ins_out l m hS _ 1 _ rfl (by omega) ⟨by simp, fun p q h1 h2 => absurd h1 (by omega), fun p hp => ?_, fun q _ h2 => g q h2⟩
  obtain rfl : p = 0 := by omega
  rw [g 0 (by omega)]
  omega
theorem ix_pw (l : List ShM) (hS : ∀ x : Nat, x < l.length → 0 ≤ En l (x : Int) ∧ En l (x : Int) ≤ 1000) : (most_ix l).Pairwise (Lx l) := by
  unfold most_ix
  split
  · exact List.Pairwise.nil
  · rename_i m hm
    have h := ar_is l m (fun x => hS x.val (by omega))
    rw [List.pairwise_iff_getElem]
    intro p q hp hq hpq
    simp only [Array.toList_map, List.length_map, Array.length_toList] at hp hq
    have hh := h.srt p q hpq (by rw [← h.sz]; exact hq)
    rw [getElem!_pos _ p hp, getElem!_pos _ q hq] at hh
    simpa using hh
theorem ix_mem (l : List ShM) (hS : ∀ x : Nat, x < l.length → 0 ≤ En l (x : Int) ∧ En l (x : Int) ≤ 1000) (x : Nat) (hx : x < l.length) : (x : Int) ∈ most_ix l := by
  unfold most_ix
  split
  · omega
  · rename_i m hm
    have hlt := lt_is l m (fun x => hS x.val (by omega))
    have hw : Go.Sort.SWO (ltOf (most_cf l m)) := ⟨fun a => by rw [hlt]; simp, fun a b c => by simp only [hlt, decide_eq_true_eq]; omega, fun a b c => by simp only [hlt, decide_eq_false_iff_not]; omega⟩
    have hp := (Go.Sort.insertionSort_holds hw (Array.ofFn (fun i : Fin (m + 1) => i)) 0 (m + 1) (Nat.zero_le _) (by simp)).1
    have hp2 := hp.2.2
    have e1 : (most_ar l m).extract 0 (m + 1) = most_ar l m := by
      apply Array.extract_eq_self_of_le
      exact Nat.le_of_eq (most_sz l m)
    have e2 : (Array.ofFn (fun i : Fin (m + 1) => i)).extract 0 (m + 1) = Array.ofFn (fun i : Fin (m + 1) => i) := by
      apply Array.extract_eq_self_of_le
      simp
    change ((most_ar l m).extract 0 (m + 1)).toList.Perm _ at hp2
    rw [e1, e2] at hp2
    simp only [Array.toList_map, List.mem_map]
    refine ⟨⟨x, by omega⟩, hp2.mem_iff.2 ?_, rfl⟩
    rw [Array.toList_ofFn]
    exact List.mem_ofFn.2 ⟨_, rfl⟩

/-! ### the reference's choice -/
def Used (l : List ShM) (u : List Bool) (free : Int) : Prop := ∀ x : Nat, x < l.length → rdOf false u (x : Int) = true → Fr l (x : Int) < free
theorem scan_none (l : List ShM) (a : Int) (hn : l.length ≤ 20) (out : List Int) (free : Int) (u : List Bool) (hu : u.length = l.length) (hno : ∀ x : Nat, x < l.length → Fr l (x : Int) < free) :
    ∀ (d k kk : Nat), kk + d = l.length → d < k → spec_MostShifts.l2 k l a out free u (-1) (kk : Int) = some out := by
  intro d
  induction d with
  | zero =>
    intro k kk hk hd
    obtain ⟨k, rfl⟩ : ∃ m, k = m + 1 := ⟨k - 1, by omega⟩
    simp only [spec_MostShifts.l2]
    rw [if_neg (by omega), if_pos (by omega)]
  | succ d ih =>
    intro k kk hk hd
    obtain ⟨k, rfl⟩ : ∃ m, k = m + 1 := ⟨k - 1, by omega⟩
    have h := hno kk (by omega)
    unfold Fr at h
    simp only [spec_MostShifts.l2]
    rw [if_pos (by omega), if_pos (by omega), if_pos (by omega), wn kk (by omega)]
    split
    · exact ih k (kk + 1) (by omega) (by omega)
    · rw [if_neg (by omega)]
      exact ih k (kk + 1) (by omega) (by omega)
theorem scan_min (l : List ShM) (a : Int) (hn : l.length ≤ 20) (out : List Int) (ho : out.length ≤ 20) (free : Int) (u : List Bool) (hu : u.length = l.length) (i : Nat) (hi : i < l.length) (hui : rdOf false u (i : Int) = false) (hfi : Fr l (i : Int) ≥ free)
    (hmin : ∀ x : Nat, x < l.length → Fr l (x : Int) ≥ free → x ≠ i → Lx l (i : Int) (x : Int)) (R : List Int) (K : Nat) (hR : ∀ k, K ≤ k → spec_MostShifts.l1 k l a (out ++ [(i : Int)]) (wrap64 (En l (i : Int) + a)) (u.set i true) = some R) :
    ∀ (d k kk : Nat) (best : Int), kk + d = l.length → K + d < k → ((kk ≤ i ∧ (best = -1 ∨ (0 ≤ best ∧ best < (l.length : Int) ∧ En l (i : Int) < En l best))) ∨ (i < kk ∧ best = (i : Int))) → spec_MostShifts.l2 k l a out free u best (kk : Int) = some R := by
  intro d
  induction d with
  | zero =>
    intro k kk best hk hd hb
    obtain ⟨k, rfl⟩ : ∃ m, k = m + 1 := ⟨k - 1, by omega⟩
    obtain rfl : best = (i : Int) := by omega
    simp only [spec_MostShifts.l2]
    rw [if_neg (by omega), if_neg (by omega), if_pos (by omega), if_pos (by omega), if_pos (by omega), if_pos (by omega), Int.toNat_natCast]
    exact hR k (by omega)
  | succ d ih =>
    intro k kk best hk hd hb
    obtain ⟨k, rfl⟩ : ∃ m, k = m + 1 := ⟨k - 1, by omega⟩
    have hx := hmin kk (by omega)
    simp only [spec_MostShifts.l2]
    rw [if_pos (by omega), if_pos (by omega), if_pos (by omega), wn kk (by omega)]
    have e1 : (rd_T39 l (kk : Int)).f0 = Fr l (kk : Int) := rfl
    have e2 : (rd_T39 l (kk : Int)).f1 = En l (kk : Int) := rfl
    have e3 : (rd_T39 l best).f1 = En l best := rfl
    rw [e1, e2, e3]
    by_cases hki : kk = i
    · subst hki
      rw [hui, if_neg (by decide), if_pos hfi]
      rcases hb with ⟨_, hb | ⟨b0, b1, b2⟩⟩ | hb
      · subst hb
        rw [if_pos (by omega)]
        exact ih k (kk + 1) _ (by omega) (by omega) (Or.inr ⟨by omega, rfl⟩)
      · rw [if_neg (by omega), if_pos b0, if_pos b1, if_pos b2]
        exact ih k (kk + 1) _ (by omega) (by omega) (Or.inr ⟨by omega, rfl⟩)
      · omega
    · split
      · exact ih k (kk + 1) best (by omega) (by omega) (by omega)
      · by_cases hf : Fr l (kk : Int) ≥ free
        · have hL := hx hf hki
          unfold Lx at hL
          rw [if_pos hf]
          by_cases hb0 : best < 0
          · rw [if_pos hb0]
            exact ih k (kk + 1) (kk : Int) (by omega) (by omega) (Or.inl ⟨by omega, Or.inr ⟨by omega, by omega, by omega⟩⟩)
          · rw [if_neg hb0, if_pos (by omega), if_pos (by omega)]
            by_cases hlt : En l (kk : Int) < En l best
            · rw [if_pos hlt]
              rcases hb with hb | ⟨hb, e⟩
              · exact ih k (kk + 1) (kk : Int) (by omega) (by omega) (Or.inl ⟨by omega, Or.inr ⟨by omega, by omega, by omega⟩⟩)
              · subst e; omega
            · rw [if_neg hlt]
              exact ih k (kk + 1) best (by omega) (by omega) (by omega)
        · rw [if_neg hf]
          exact ih k (kk + 1) best (by omega) (by omega) (by omega)
theorem rdOf_set (u : List Bool) (i x : Nat) (hi : i < u.length) : rdOf false (u.set i true) (x : Int) = true → x = i ∨ rdOf false u (x : Int) = true := by
  unfold rdOf
  simp only [Int.toNat_natCast, List.getD_eq_getElem?_getD]
  by_cases e : x = i
  · intro _; exact Or.inl e
  · rw [List.getElem?_set_ne (by omega)]
    exact fun h => Or.inr h
/-- The free time behind what is chosen. -/
def FreeOf (l : List ShM) (a : Int) (out : List Int) (free : Int) : Prop := (out.length = 0 ∧ free = 0) ∨ (out.length ≠ 0 ∧ free = wrap64 (En l (rd out (wrap64 ((out.length : Int) - 1))) + a))
theorem rd_last (out : List Int) (x : Int) (h : out.length ≤ 1000) : rd (out ++ [x]) (wrap64 (((out ++ [x]).length : Int) - 1)) = x := by
  have e : wrap64 (((out ++ [x]).length : Int) - 1) = (out.length : Int) := by
    rw [List.length_append, List.length_singleton, w64 (by omega) (by omega)]
    omega
  rw [e, rd_get _ out.length (by simp)]
  simp
theorem go_spec (l : List ShM) (a : Int) (hn : l.length ≤ 20) (ha : 0 ≤ a ∧ a ≤ 24) (hok : ∀ x : Nat, x < l.length → (0 ≤ Fr l (x : Int) ∧ Fr l (x : Int) ≤ 167) ∧ Fr l (x : Int) + 1 ≤ En l (x : Int) ∧ En l (x : Int) ≤ Fr l (x : Int) + 12) :
    ∀ (is out : List Int) (free : Int) (u : List Bool), is.Pairwise (Lx l) → (∀ x ∈ is, 0 ≤ x ∧ x < (l.length : Int)) → out.length + is.length ≤ 20 → u.length = l.length → Used l u free → FreeOf l a out free → (∀ x : Nat, x < l.length → (x : Int) ∉ is → Fr l (x : Int) < free) → 0 ≤ free →
      ∃ K, ∀ k, K ≤ k → spec_MostShifts.l1 k l a out free u = some (most_go l a is out) := by
  intro is
  induction is with
  | nil =>
    intro out free u _ _ hlen hu _ _ hno _
    refine ⟨l.length + 2, fun k hk => ?_⟩
    obtain ⟨k, rfl⟩ : ∃ m, k = m + 1 := ⟨k - 1, by omega⟩
    simp only [spec_MostShifts.l1, most_go]
    exact scan_none l a hn out free u hu (fun x hx => hno x hx (by simp)) l.length k 0 (Nat.zero_add _) (by omega)
  | cons i is ih =>
    intro out free u hpw hin hlen hu hus hfr hno hf0
    obtain ⟨hi0, hi1⟩ := hin i (by simp)
    obtain ⟨I, rfl⟩ : ∃ I : Nat, i = (I : Int) := ⟨i.toNat, by omega⟩
    have hI : I < l.length := by omega
    rw [List.pairwise_cons] at hpw
    rw [List.length_cons] at hlen
    have hoI := hok I hI
    have hcond : (out.length = 0 ∨ (rd_T39 l (I : Int)).f0 ≥ wrap64 ((rd_T39 l (rd out (wrap64 ((out.length : Int) - 1)))).f1 + a)) ↔ Fr l (I : Int) ≥ free := by
      rcases hfr with ⟨h1, h2⟩ | ⟨h1, h2⟩
      · rw [h2]
        exact ⟨fun _ => hoI.1.1, fun _ => Or.inl h1⟩
      · rw [h2]
        exact ⟨fun h => h.elim (fun h => absurd h h1) id, Or.inr⟩
    simp only [most_go]
    by_cases hf : Fr l (I : Int) ≥ free
    · rw [if_pos (hcond.2 hf)]
      have hw : wrap64 (En l (I : Int) + a) = En l (I : Int) + a := w64 (by omega) (by omega)
      have hlt : free < wrap64 (En l (I : Int) + a) := by rw [hw]; omega
      obtain ⟨K, hK⟩ := ih (out ++ [(I : Int)]) (wrap64 (En l (I : Int) + a)) (u.set I true) hpw.2 (fun x hx => hin x (by simp [hx])) (by simp; omega) (by simpa using hu)
        (fun x hx hux => by
          rcases rdOf_set u I x (by omega) hux with e | e
          · subst e; rw [hw]; omega
          · have := hus x hx e; omega)
        (Or.inr ⟨by simp, by rw [rd_last out _ (by omega)]⟩)
        (fun x hx hxi => by
          by_cases e : x = I
          · subst e; rw [hw]; omega
          · have := hno x hx (by
              rw [List.mem_cons]
              rintro (h | h)
              · omega
              · exact hxi h)
            omega)
        (by omega)
      refine ⟨K + l.length + 5, fun k hk => ?_⟩
      obtain ⟨k, rfl⟩ : ∃ m, k = m + 1 := ⟨k - 1, by omega⟩
      simp only [spec_MostShifts.l1]
      have hui : rdOf false u (I : Int) = false := by
        cases q : rdOf false u (I : Int) with
        | false => rfl
        | true => have := hus I hI q; omega
      refine scan_min l a hn out (by omega) free u hu I hI hui hf (fun x hx hfx hxi => ?_) _ K hK l.length k 0 (-1) (Nat.zero_add _) (by omega) (Or.inl ⟨Nat.zero_le _, Or.inl rfl⟩)
      rcases Classical.em ((x : Int) ∈ is) with hm | hm
      · exact hpw.1 _ hm
      · have := hno x hx (by
          rw [List.mem_cons]
          rintro (h | h)
          · omega
          · exact hm h)
        omega
    · rw [if_neg (fun h => hf (hcond.1 h))]
      exact ih out free u hpw.2 (fun x hx => hin x (by simp [hx])) (by omega) hu hus hfr (fun x hx hxi => by
        by_cases e : x = I
        · subst e; omega
        · exact hno x hx (by
            rw [List.mem_cons]
            rintro (h | h)
            · omega
            · exact hxi h)) hf0
theorem rdM (l : List ShM) (n : Nat) (h : n < l.length) : rd_T39 l (n : Int) = l[n] := by simp [rd_T39, h]
/-- What both compute. -/
def mostV (l : List ShM) (a : Int) : List Int := if 20 < l.length then [] else if (l.any fun s => !most_b s) = true then [] else if inB 0 24 a = true then most_go l a (most_ix l) [] else []
theorem mb (s : ShM) : most_b s = shB s := rfl
theorem spec_l0 (l : List ShM) (a : Int) (hn : l.length ≤ 20) (R : List Int) (K : Nat) (hR : (∀ x : Nat, ∀ h : x < l.length, shB l[x] = true) → ∀ k, K ≤ k → spec_MostShifts.l1 k l a [] 0 (List.replicate l.length false) = some R) (hbad : (∃ x : Nat, ∃ h : x < l.length, shB l[x] = false) → R = []) :
    ∀ (d k kk : Nat), kk + d = l.length → K + d + 1 < k → (∀ x : Nat, ∀ h : x < l.length, x < kk → shB l[x] = true) → spec_MostShifts.l0 k l a [] (kk : Int) = some R := by
  intro d
  induction d with
  | zero =>
    intro k kk hk hd hp
    obtain ⟨k, rfl⟩ : ∃ m, k = m + 1 := ⟨k - 1, by omega⟩
    simp only [spec_MostShifts.l0]
    rw [if_neg (by omega), if_pos (by omega), if_pos (by rw [Int.toNat_natCast]; omega), Int.toNat_natCast]
    exact hR (fun x h => hp x h (by omega)) k (by omega)
  | succ d ih =>
    intro k kk hk hd hp
    obtain ⟨k, rfl⟩ : ∃ m, k = m + 1 := ⟨k - 1, by omega⟩
    have hlt : kk < l.length := by omega
    simp only [spec_MostShifts.l0, rdM l kk hlt, sh_specM, Option.bind_some]
    rw [if_pos (by omega), if_pos (by omega), wn kk (by omega)]
    cases q : shB ⟨l[kk].f0, l[kk].f1⟩ with
    | true =>
      rw [if_pos rfl]
      refine ih k (kk + 1) (by omega) (by omega) (fun x h hx => ?_)
      by_cases e : x = kk
      · subst e; exact q
      · exact hp x h (by omega)
    | false =>
      rw [if_neg (by decide), hbad ⟨kk, hlt, q⟩]
theorem most_spec (l : List ShM) (a : Int) : ∃ K, ∀ k, K ≤ k → spec_MostShifts.f k l a = some (mostV l a) := by
  by_cases hn : 20 < l.length
  · refine ⟨2, fun k hk => ?_⟩
    obtain ⟨k, rfl⟩ : ∃ m, k = m + 1 := ⟨k - 1, by omega⟩
    simp only [spec_MostShifts.f, Option.bind_some, mostV]
    rw [if_pos (by omega), if_pos hn]
    simp [spec_MostShifts.j0]
  · have hn' : l.length ≤ 20 := by omega
    cases hi : inB 0 24 a with
    | false =>
      refine ⟨2, fun k hk => ?_⟩
      obtain ⟨k, rfl⟩ : ∃ m, k = m + 1 := ⟨k - 1, by omega⟩
      simp only [spec_MostShifts.f, Option.bind_some, mostV, spec_in, hi]
      rw [if_neg (by omega), if_neg hn]
      simp [spec_MostShifts.j0]
    | true =>
      have ha := (inB_iff _ _ _).1 hi
      have key : ∃ K, (∀ x : Nat, ∀ h : x < l.length, shB l[x] = true) → ∀ k, K ≤ k → spec_MostShifts.l1 k l a [] 0 (List.replicate l.length false) = some (mostV l a) := by
        by_cases hall : ∀ x : Nat, ∀ h : x < l.length, shB l[x] = true
        · have hok : ∀ x : Nat, x < l.length → (0 ≤ Fr l (x : Int) ∧ Fr l (x : Int) ≤ 167) ∧ Fr l (x : Int) + 1 ≤ En l (x : Int) ∧ En l (x : Int) ≤ Fr l (x : Int) + 12 := fun x hx => by
            unfold Fr En
            rw [rdM l x hx]
            exact (shB_iff _).1 (hall x hx)
          have hS : ∀ x : Nat, x < l.length → 0 ≤ En l (x : Int) ∧ En l (x : Int) ≤ 1000 := fun x hx => by have := hok x hx; omega
          have hany : (l.any fun s => !most_b s) = false := by
            rw [List.any_eq_false]
            intro s hs
            obtain ⟨x, hx, rfl⟩ := List.getElem_of_mem hs
            rw [mb, hall x hx]
            decide
          obtain ⟨K, hK⟩ := go_spec l a hn' ha hok (most_ix l) [] 0 (List.replicate l.length false) (ix_pw l hS) (most_ixi l) (by rw [most_ixl]; simpa using hn') (by simp) (fun x hx h => by
              unfold rdOf at h
              simp [hx] at h) (Or.inl ⟨rfl, rfl⟩) (fun x hx hxi => absurd (ix_mem l hS x hx) hxi) (Int.le_refl _)
          refine ⟨K, fun _ k hk => ?_⟩
          rw [hK k hk]
          unfold mostV
          rw [if_neg hn, hany, if_neg (by decide), hi, if_pos rfl]
        · exact ⟨0, fun h => absurd h hall⟩
      obtain ⟨K, hK⟩ := key
      refine ⟨K + 50, fun k hk => ?_⟩
      obtain ⟨k, rfl⟩ : ∃ m, k = m + 1 := ⟨k - 1, by omega⟩
      simp only [spec_MostShifts.f, Option.bind_some, spec_in, hi, Bool.not_true]
      rw [if_neg (by omega)]
      simp only [spec_MostShifts.j0]
      rw [if_neg (by simp)]
      refine spec_l0 l a hn' (mostV l a) K hK (fun ⟨x, hx, hb⟩ => ?_) l.length k 0 (Nat.zero_add _) (by omega) (fun x _ h => absurd h (by omega))
      unfold mostV
      rw [if_neg hn, if_pos]
      rw [List.any_eq_true]
      exact ⟨l[x], List.getElem_mem hx, by rw [mb, hb]; rfl⟩
theorem go_len (l : List ShM) (a : Int) : ∀ (is out : List Int), (most_go l a is out).length ≤ out.length + is.length
  | [], out => by simp [most_go]
  | i :: is, out => by
    simp only [most_go]
    split
    · have := go_len l a is (out ++ [i])
      simp at this ⊢
      omega
    · have := go_len l a is out
      simp
      omega
theorem mostV_len (l : List ShM) (a : Int) : (mostV l a).length ≤ 20 := by
  unfold mostV
  split
  · simp
  · split
    · simp
    · split
      · have := go_len l a (most_ix l) []
        rw [most_ixl] at this
        simp at this
        omega
      · simp
end Go.Proofs.Ytdlolekpdophcaa.Pure
