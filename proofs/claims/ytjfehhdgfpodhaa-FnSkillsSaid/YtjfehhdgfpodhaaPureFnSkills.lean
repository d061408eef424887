/- Skills learned one after another: the law. -/
import Derived.Test.YtjfehhdgfpodhaaPureSk
import Derived.Test.YtjfehhdgfpodhaaDraw
import Derived.Test.YtjfehhdgfpodhaaPFLx5
namespace Go.Proofs.Ytjfehhdgfpodhaa.Pure
set_option linter.unusedVariables false
set_option linter.unusedSimpArgs false
open Go.RowKit Go.Proofs.Ytjfehhdgfpodhaa.PFL Go.Proofs.Ytjfehhdgfpodhaa.Base Go.Proofs.YtjfehhdgfpodhaaW.PrintWords Go.Proofs.YtjfehhdgfpodhaaW.PrintLast

/-! ### what is drawn -/
def SubN (needs : List Int) (n : Nat) : Prop := (∀ x ∈ needs, 0 ≤ x ∧ x < (n : Int)) ∧ needs.Pairwise (· < ·)
def OneS (s : Sk) (j : Nat) : Prop := (1 ≤ s.f1 ∧ s.f1 ≤ 30) ∧ SubN s.f0 j
def Ds (l : List Sk) : Prop := ∀ (j : Nat) (s : Sk), l[j]? = some s → OneS s j
theorem subN_len (needs : List Int) (n : Nat) (h : SubN needs n) : needs.length ≤ n := pig n needs (h.2.imp (fun h => by omega)) h.1
theorem once_is (code : List Int) (i h : Int) (hl : code.length ≤ 1048576) (hc : Cur code i) : ∃ b i' h', spec_l01Once.f code i h 3 = some (b, i', h') ∧ Cur code i' := by
  obtain ⟨v, i', h', e, _, _, c⟩ := below_is code i h 3 hl hc (by omega)
  exact ⟨_, i', h', by unfold spec_l01Once.f; rw [e]; rfl, c⟩
theorem draw_l1 (code : List Int) (hl : code.length ≤ 1048576) (acc : List Sk) (N : Int) (n : Nat) (hn : n ≤ 8) (hacc : acc.length = n) (days : Int) : ∀ (d i : Nat) (needs : List Int) (ci h : Int), i + d = n → SubN needs i → Cur code ci →
    ∃ needs' ci' h', SubN needs' n ∧ Cur code ci' ∧ ∀ k' R, spec_l23List.l0 k' (acc ++ [⟨needs', days⟩]) N ((n + 1 : Nat) : Int) code ci' h' = some R → spec_l23List.l1 (k' + d + 1) acc N (n : Int) (i : Int) code ci h needs days = some R := by
  intro d
  induction d with
  | zero =>
    intro i needs ci h hi hs hc
    obtain rfl : i = n := by omega
    refine ⟨needs, ci, h, hs, hc, fun k' R hR => ?_⟩
    simp only [Nat.add_zero, spec_l23List.l1]
    rw [if_neg (by omega), if_pos (by omega), wn i (by omega)]
    exact hR
  | succ d ih =>
    intro i needs ci h hi hs hc
    obtain ⟨b, ci1, h1, e, c1⟩ := once_is code ci h hl hc
    have hlen := subN_len needs i hs
    cases b with
    | true =>
      obtain ⟨needs', ci', h', g1, g2, g3⟩ := ih (i + 1) (needs ++ [(i : Int)]) ci1 h1 (by omega) ⟨fun x hx => by
        rcases List.mem_append.1 hx with hx | hx
        · have := hs.1 x hx; omega
        · rw [List.mem_singleton] at hx; omega, by
        rw [List.pairwise_append]
        refine ⟨hs.2, by simp, fun x hx y hy => ?_⟩
        rw [List.mem_singleton] at hy
        have := hs.1 x hx
        omega⟩ c1
      refine ⟨needs', ci', h', g1, g2, fun k' R hR => ?_⟩
      have q := g3 k' R hR
      obtain ⟨M, hM⟩ : ∃ M, M = k' + d + 1 := ⟨_, rfl⟩
      rw [← hM] at q
      rw [show k' + (d + 1) + 1 = M + 1 by omega]
      simp only [spec_l23List.l1, e, Option.bind_some, if_true]
      rw [if_pos (by omega), if_pos (by omega), wn i (by omega)]
      exact q
    | false =>
      obtain ⟨needs', ci', h', g1, g2, g3⟩ := ih (i + 1) needs ci1 h1 (by omega) ⟨fun x hx => by have := hs.1 x hx; omega, hs.2⟩ c1
      refine ⟨needs', ci', h', g1, g2, fun k' R hR => ?_⟩
      have q := g3 k' R hR
      obtain ⟨M, hM⟩ : ∃ M, M = k' + d + 1 := ⟨_, rfl⟩
      rw [← hM] at q
      rw [show k' + (d + 1) + 1 = M + 1 by omega]
      simp only [spec_l23List.l1, e, Option.bind_some, Bool.false_eq_true, if_false]
      rw [if_pos (by omega), wn i (by omega)]
      exact q
theorem draw_l0 (code : List Int) (hl : code.length ≤ 1048576) (N : Nat) (hN : N ≤ 8) : ∀ (d n : Nat) (acc : List Sk) (ci h : Int), n + d = N → acc.length = n → Ds acc → Cur code ci →
    ∃ K L ci' h', spec_l23List.l0 K acc (N : Int) (n : Int) code ci h = some (L, ci', h') ∧ L.length = N ∧ Ds L := by
  intro d
  induction d with
  | zero =>
    intro n acc ci h hn ha hD hc
    refine ⟨1, acc, ci, h, ?_, by omega, hD⟩
    simp only [spec_l23List.l0]
    rw [if_neg (by omega)]
  | succ d ih =>
    intro n acc ci h hn ha hD hc
    obtain ⟨v, ci1, h1, e, b0, b1, c1⟩ := below_is code ci h 30 hl hc (by omega)
    obtain ⟨needs, ci2, h2, g1, g2, g3⟩ := draw_l1 code hl acc (N : Int) n (by omega) ha (1 + v) n 0 [] ci1 h1 (Nat.zero_add _) ⟨fun x hx => (by cases hx), List.Pairwise.nil⟩ c1
    obtain ⟨K, L, ci', h', q1, q2, q3⟩ := ih (n + 1) (acc ++ [⟨needs, 1 + v⟩]) ci2 h2 (by omega) (by simp [ha]) (fun j s hj => by
      rcases Nat.lt_or_ge j acc.length with hlt | hge
      · rw [List.getElem?_append_left hlt] at hj
        exact hD j s hj
      · have hj2 := (List.getElem?_eq_some_iff.1 hj).1
        rw [List.length_append, List.length_singleton] at hj2
        obtain rfl : j = acc.length := by omega
        rw [List.getElem?_append_right (Nat.le_refl _), Nat.sub_self] at hj
        obtain rfl : (⟨needs, 1 + v⟩ : Sk) = s := by simpa using hj
        exact ⟨⟨by show 1 ≤ 1 + v; omega, by show 1 + v ≤ 30; omega⟩, by rw [ha]; exact g1⟩) g2
    refine ⟨(K + n + 1) + 1, L, ci', h', ?_, q2, q3⟩
    simp only [spec_l23List.l0, e, Option.bind_some]
    rw [if_pos (by omega), w64 (by omega) (by omega)]
    exact g3 K _ q1
theorem draw_is (code : List Int) (hl : code.length ≤ 1048576) : ∃ L, (1 ≤ L.length ∧ L.length ≤ 8 ∧ Ds L) ∧ Ev (fun k => spec_DrawSkills.f k code) L := by
  obtain ⟨h, e⟩ := new_is code (code.length + 1) hl (by omega)
  obtain ⟨v, i1, h1, e1, b0, b1, c1⟩ := below_is code 0 h 8 hl (cur0 code) (by omega)
  obtain ⟨N, hN⟩ : ∃ N : Nat, 1 + v = (N : Int) := ⟨(1 + v).toNat, by omega⟩
  obtain ⟨K, L, i', h', g1, g2, g3⟩ := draw_l0 code hl N (by omega) N 0 [] i1 h1 (by omega) rfl (fun j s hj => by simp at hj) c1
  refine ⟨L, ⟨by omega, by omega, g3⟩, code.length + K + 2, fun k hk => ?_⟩
  have e3 := up_to (fun k => spec_l01New.mono code k) e (show code.length + 1 ≤ k by omega)
  have g1' := up_to (g := fun k => spec_l23List.l0 k [] (N : Int) ((0 : Nat) : Int) code i1 h1) (fun k => (spec_l23List.mono_l k).1 _ _ _ _ _ _) g1 (show K ≤ k by omega)
  have g2' : spec_l23List.l0 k [] (N : Int) 0 code i1 h1 = some (L, i', h') := g1'
  simp only [spec_DrawSkills.f, e3, Option.bind_some, spec_l23List.f, e1]
  rw [w64 (by omega) (by omega), hN, g2']
  rfl
theorem lhas_l (l : List Int) (a : Int) (hb : l.length ≤ 9223372036854775800) : ∀ (d k n : Nat), n + d = l.length → d < k → laws_has.l0 k l a (n : Int) = some ((l.drop n).contains a) := by
  intro d
  induction d with
  | zero =>
    intro k n hn hk
    obtain ⟨k, rfl⟩ : ∃ m, k = m + 1 := ⟨k - 1, by omega⟩
    simp only [laws_has.l0]
    rw [if_neg (by omega), List.drop_of_length_le (by omega)]
    rfl
  | succ d ih =>
    intro k n hn hk
    obtain ⟨k, rfl⟩ : ∃ m, k = m + 1 := ⟨k - 1, by omega⟩
    have hn' : n < l.length := by omega
    simp only [laws_has.l0]
    rw [if_pos (by omega), if_pos (by omega), rd_get l n hn', wn n (by omega), ih k (n + 1) (by omega) (by omega), List.drop_eq_getElem_cons hn', List.contains_cons]
    by_cases e : l[n] = a
    · rw [if_pos e, e]; simp
    · rw [if_neg e]
      have : (a == l[n]) = false := by simp; exact fun h => e h.symm
      rw [this]; simp
theorem lhas_is (l : List Int) (a : Int) (k : Nat) (hb : l.length ≤ 100) (hk : 100 < k) : laws_has.f k l a = some (l.contains a) := by
  have := lhas_l l a (by omega) l.length k 0 (by omega) (by omega)
  simpa [laws_has.f] using this

/-! ### in the order of their numbers -/
theorem mem_rng (t : Nat) (x : Int) : x ∈ rng t ↔ 0 ≤ x ∧ x < (t : Int) := by
  simp only [rng, List.mem_map, List.mem_range]
  constructor
  · rintro ⟨i, hi, rfl⟩; omega
  · rintro ⟨h0, h1⟩; exact ⟨x.toNat, by omega, by omega⟩
theorem rng_at (t j : Nat) (hj : j < (rng t).length) : (rng t)[j] = (j : Int) := by simp [rng]
theorem ds_at (l : List Sk) (h1 : 1 ≤ l.length) (h8 : l.length ≤ 8) (hD : Ds l) (j : Nat) (hj : j < l.length) : OneS l[j] j := hD j _ (List.getElem?_eq_getElem hj)
theorem ds_short (l : List Sk) (h1 : 1 ≤ l.length) (h8 : l.length ≤ 8) (hD : Ds l) : ∀ s ∈ l, s.f0.length ≤ 1048576 := fun s hs => by
  obtain ⟨j, hj, rfl⟩ := List.getElem_of_mem hs
  have := subN_len _ j (ds_at l h1 h8 hD j hj).2
  omega
theorem ds_in (l : List Sk) (h1 : 1 ≤ l.length) (h8 : l.length ≤ 8) (hD : Ds l) : ∀ s ∈ l, ∀ x ∈ s.f0, 0 ≤ x ∧ x < (l.length : Int) := fun s hs x hx => by
  obtain ⟨j, hj, rfl⟩ := List.getElem_of_mem hs
  have := (ds_at l h1 h8 hD j hj).2.1 x hx
  omega
theorem ds_days (l : List Sk) (h1 : 1 ≤ l.length) (h8 : l.length ≤ 8) (hD : Ds l) : ∀ s ∈ l, 1 ≤ s.f1 ∧ s.f1 ≤ 100 := fun s hs => by
  obtain ⟨j, hj, rfl⟩ := List.getElem_of_mem hs
  have := (ds_at l h1 h8 hD j hj).1
  omega
theorem can_rng (l : List Sk) (h1 : 1 ≤ l.length) (h8 : l.length ≤ 8) (hD : Ds l) (t j : Nat) (hj : j < l.length) : (j < t → canNext l (rng t) (j : Int) = false) ∧ (t = j → canNext l (rng t) (j : Int) = true) := by
  rw [can_at l (rng t) j hj]
  constructor
  · intro h
    have : (rng t).contains (j : Int) = true := by rw [List.contains_iff_mem, mem_rng]; omega
    rw [this]; rfl
  · rintro rfl
    have e : (rng t).contains (t : Int) = false := by
      cases q : (rng t).contains (t : Int) with
      | false => rfl
      | true => rw [List.contains_iff_mem, mem_rng] at q; omega
    rw [e, Bool.not_false, Bool.true_and, List.all_eq_true]
    intro x hx
    rw [List.contains_iff_mem, mem_rng]
    exact (ds_at l h1 h8 hD t hj).2.1 x hx
theorem learned_rng (l : List Sk) (h1 : 1 ≤ l.length) (h8 : l.length ≤ 8) (hD : Ds l) : ∀ (m t : Nat), t + m = l.length → learnedL l m (rng t) = rng l.length
  | 0, t, h => by
    obtain rfl : t = l.length := by omega
    rfl
  | m + 1, t, h => by
    have ht : t < l.length := by omega
    have e : Hand.ixf (canNext l (rng t)) (rng l.length) = t := by
      refine Hand.ixf_hit _ _ t (by rw [rng_length]; exact ht) ?_ (fun j hj hjt => ?_)
      · rw [rng_at]; exact (can_rng l h1 h8 hD t t ht).2 rfl
      · rw [rng_at]; exact (can_rng l h1 h8 hD t j (by omega)).1 hjt
    simp only [learnedL, e]
    rw [if_neg (by omega), ← rng_succ]
    exact learned_rng l h1 h8 hD m (t + 1) (by omega)
theorem learned_all (l : List Sk) (h1 : 1 ≤ l.length) (h8 : l.length ≤ 8) (hD : Ds l) : learnedL l l.length [] = rng l.length := learned_rng l h1 h8 hD l.length 0 (Nat.zero_add _)
theorem up_of (l : List Sk) (h1 : 1 ≤ l.length) (h8 : l.length ≤ 8) (hD : Ds l) (ys : List Int) (h : ys.Pairwise (· < ·)) : Up ys 0 := fun j hj _ h0 => List.pairwise_iff_getElem.1 h (j - 1) j (by omega) hj (by omega)
theorem ds_good (l : List Sk) (h1 : 1 ≤ l.length) (h8 : l.length ≤ 8) (hD : Ds l) : Good l := by
  refine ⟨by omega, fun s hs => ?_, by rw [learned_all l h1 h8 hD, rng_length]⟩
  obtain ⟨j, hj, rfl⟩ := List.getElem_of_mem hs
  have h := ds_at l h1 h8 hD j hj
  exact ⟨ds_days l h1 h8 hD _ hs, ds_in l h1 h8 hD _ hs, up_of l h1 h8 hD _ h.2.2⟩
theorem ok_i (l : List Sk) (h1 : 1 ≤ l.length) (h8 : l.length ≤ 8) (hD : Ds l) (k : Nat) (hk : 1048600 < k) : impl_SkillsOk.f k l = some true := by
  obtain ⟨r, g, hr⟩ := impl_ok l (by omega) (ds_short l h1 h8 hD) k (by omega)
  rw [g, hr.2 (ds_good l h1 h8 hD)]
theorem asc_i (l : List Sk) (h1 : 1 ≤ l.length) (h8 : l.length ≤ 8) (hD : Ds l) (t : Nat) (ht : t ≤ l.length) (k : Nat) (hk : 1048600 < k) : impl_ascending.f k (rng t) (l.length : Int) = some true := by
  obtain ⟨r, _, g, hr⟩ := asc_both (rng t) l.length k (by omega) (by rw [rng_length]; omega) (by rw [rng_length]; omega)
  rw [g, hr.2]
  refine ⟨fun x hx => by rw [mem_rng] at hx; omega, up_of l h1 h8 hD _ ?_⟩
  rw [List.pairwise_iff_getElem]
  intro i j hi hj hij
  rw [rng_at, rng_at]
  omega
theorem order_i (l : List Sk) (h1 : 1 ≤ l.length) (h8 : l.length ≤ 8) (hD : Ds l) (k : Nat) (hk : 1048600 < k) : impl_LearnOrder.f k l = some (rng l.length) := by
  simp only [impl_LearnOrder.f, ok_i l h1 h8 hD k hk, Option.bind_some, if_true, impl_learned.f, learned_all l h1 h8 hD]
  rw [if_pos (by omega)]
  rfl
theorem can_i (l : List Sk) (h1 : 1 ≤ l.length) (h8 : l.length ≤ 8) (hD : Ds l) (t : Nat) (ht : t ≤ l.length) (k : Nat) (hk : 1048600 < k) : impl_CanLearn.f k l (rng t) = some (cFrom l (rng t) l.length 0) := by
  have h2 := asc_i l h1 h8 hD t ht k hk
  have h3 := ok_i l h1 h8 hD k hk
  obtain ⟨k, rfl⟩ : ∃ m, k = m + 1 := ⟨k - 1, by omega⟩
  have g := can_il l (rng t) (by omega) l.length 0 k [] (Nat.zero_add _) (by omega) (by simp)
  simp only [List.nil_append] at g
  simp only [impl_CanLearn.f, h3, h2, Option.bind_some, if_true, Bool.not_true, impl_CanLearn.j0]
  rw [if_neg (by simp)]
  exact g
theorem cfrom_skip (l : List Sk) (h1 : 1 ≤ l.length) (h8 : l.length ≤ 8) (hD : Ds l) (t : Nat) : ∀ (d m : Nat), m + d = l.length → m ≤ t → t ≤ l.length → cFrom l (rng t) d m = cFrom l (rng t) (l.length - t) t
  | 0, m, hm, h2, h3 => by
    obtain rfl : m = t := by omega
    rw [show l.length - m = 0 by omega]
  | d + 1, m, hm, h2, h3 => by
    by_cases e : m = t
    · subst e
      rw [show l.length - m = d + 1 by omega]
    · simp only [cFrom]
      rw [(can_rng l h1 h8 hD t m (by omega)).1 (by omega), if_neg (by simp)]
      exact cfrom_skip l h1 h8 hD t d (m + 1) (by omega) (by omega) h3
theorem cfrom_head (l : List Sk) (h1 : 1 ≤ l.length) (h8 : l.length ≤ 8) (hD : Ds l) (t : Nat) (ht : t < l.length) : ∃ tl, cFrom l (rng t) l.length 0 = (t : Int) :: tl := by
  rw [cfrom_skip l h1 h8 hD t l.length 0 (Nat.zero_add _) (Nat.zero_le _) (by omega)]
  obtain ⟨d, hd⟩ : ∃ d, l.length - t = d + 1 := ⟨l.length - t - 1, by omega⟩
  rw [hd]
  simp only [cFrom]
  rw [(can_rng l h1 h8 hD t t ht).2 rfl, if_pos rfl]
  exact ⟨_, rfl⟩
theorem cfrom_end (l : List Sk) (h1 : 1 ≤ l.length) (h8 : l.length ≤ 8) (hD : Ds l) : cFrom l (rng l.length) l.length 0 = [] := by
  rw [cfrom_skip l h1 h8 hD l.length l.length 0 (Nat.zero_add _) (Nat.zero_le _) (Nat.le_refl _), Nat.sub_self]
  rfl
theorem complete_i (l : List Sk) (h1 : 1 ≤ l.length) (h8 : l.length ≤ 8) (hD : Ds l) (t : Nat) (ht : t ≤ l.length) (k : Nat) (hk : 1048600 < k) : impl_IsComplete.f k l (rng t) = some true := by
  simp only [impl_IsComplete.f, ok_i l h1 h8 hD k hk, asc_i l h1 h8 hD t ht k hk, Option.bind_some, if_true]
  rw [if_pos (fun x hx => by rw [mem_rng] at hx; omega)]
  rw [← List.all_eq_not_any_not]
  congr 1
  rw [List.all_eq_true]
  intro x hx
  rw [mem_rng] at hx
  rw [List.all_eq_true]
  intro y hy
  obtain ⟨X, rfl⟩ : ∃ X : Nat, x = (X : Int) := ⟨x.toNat, by omega⟩
  rw [rdI l X (by omega)] at hy
  have := (ds_at l h1 h8 hD X (by omega)).2.1 y hy
  rw [List.contains_iff_mem, mem_rng]
  omega

/-! ### days -/
theorem rch_le (l : List Sk) (h1 : 1 ≤ l.length) (h8 : l.length ≤ 8) (hD : Ds l) (x y : Int) (hx : 0 ≤ x ∧ x < (l.length : Int)) (h : Rch l x y) : y ≤ x := by
  have hin := ds_in l h1 h8 hD
  induction h with
  | base => omega
  | step u v hu hm ih =>
    have hui := rch_in l x hx hin u hu
    obtain ⟨U, rfl⟩ : ∃ U : Nat, u = (U : Int) := ⟨u.toNat, by omega⟩
    rw [rdI l U (by omega)] at hm
    have := (ds_at l h1 h8 hD U (by omega)).2.1 v hm
    omega
theorem W_le (l : List Sk) (h1 : 1 ≤ l.length) (h8 : l.length ≤ 8) (hD : Ds l) (o o' : List Int) : ∀ (m : Nat), m ≤ l.length → (∀ i : Nat, i < m → (i : Int) ∈ o → (i : Int) ∈ o') → W l o m ≤ W l o' m
  | 0, _, _ => by simp [W]
  | m + 1, hm, h => by
    have ih := W_le l h1 h8 hD o o' m (by omega) (fun i hi => h i (by omega))
    have hd := ds_days l h1 h8 hD l[m] (List.getElem_mem (by omega))
    simp only [W]
    rw [rdI l m (by omega)]
    by_cases e : o.contains (m : Int) = true
    · have e2 : o'.contains (m : Int) = true := by
        rw [List.contains_iff_mem] at e ⊢
        exact h m (by omega) e
      rw [if_pos e, if_pos e2]; omega
    · rw [if_neg e]
      split <;> omega
theorem W_app (l : List Sk) (h1 : 1 ≤ l.length) (h8 : l.length ≤ 8) (hD : Ds l) (o o' : List Int) : ∀ (m : Nat), m ≤ l.length → W l (o ++ o') m ≤ W l o m + W l o' m
  | 0, _ => by simp [W]
  | m + 1, hm => by
    have ih := W_app l h1 h8 hD o o' m (by omega)
    have hd := ds_days l h1 h8 hD l[m] (List.getElem_mem (by omega))
    simp only [W]
    rw [rdI l m (by omega)]
    by_cases e : (o ++ o').contains (m : Int) = true
    · rw [if_pos e]
      rw [List.contains_iff_mem, List.mem_append] at e
      rcases e with e | e
      · rw [if_pos (List.contains_iff_mem.2 e)]
        split <;> omega
      · rw [if_pos (show o'.contains (m : Int) = true from List.contains_iff_mem.2 e)]
        split <;> omega
    · rw [if_neg e]
      split <;> split <;> omega
theorem W_nil (l : List Sk) (h1 : 1 ≤ l.length) (h8 : l.length ≤ 8) (hD : Ds l) : ∀ m, W l [] m = 0
  | 0 => rfl
  | m + 1 => by simp [W, W_nil l h1 h8 hD m]
open Classical in
/-- All that a skill needs, itself too. -/
noncomputable def vsL (l : List Sk) (a : Int) : List Int := (rng l.length).filter fun y => decide (Rch l a y)
theorem vs_mem (l : List Sk) (h1 : 1 ≤ l.length) (h8 : l.length ≤ 8) (hD : Ds l) (a : Int) (ha : 0 ≤ a ∧ a < (l.length : Int)) (y : Int) : y ∈ vsL l a ↔ Rch l a y := by
  unfold vsL
  simp only [List.mem_filter, decide_eq_true_eq, mem_rng]
  exact ⟨fun h => h.2, fun h => ⟨rch_in l a ha (ds_in l h1 h8 hD) y h, h⟩⟩
theorem vs_fin (l : List Sk) (h1 : 1 ≤ l.length) (h8 : l.length ≤ 8) (hD : Ds l) (a : Int) (ha : 0 ≤ a ∧ a < (l.length : Int)) : Fin l a (vsL l a) :=
  ⟨(vs_mem l h1 h8 hD a ha a).2 .base, fun x hx => (vs_mem l h1 h8 hD a ha x).1 hx, fun x hx y hy => (vs_mem l h1 h8 hD a ha y).2 (.step x y ((vs_mem l h1 h8 hD a ha x).1 hx) hy)⟩
theorem days_i (l : List Sk) (h1 : 1 ≤ l.length) (h8 : l.length ≤ 8) (hD : Ds l) (A : Nat) (hA : A < l.length) : Ev (fun k => impl_DaysFor.f k l (A : Int)) (W l (vsL l (A : Int)) l.length) := by
  have ha : 0 ≤ (A : Int) ∧ (A : Int) < (l.length : Int) := by omega
  have hR : ∀ vs, Fin l (A : Int) vs → W l vs l.length = W l (vsL l (A : Int)) l.length := fun vs hv => W_congr l _ _ _ (fun i _ => (fin_iff l _ vs hv _).trans (vs_mem l h1 h8 hD _ ha _).symm)
  obtain ⟨K2, g2⟩ := days_impl l (A : Int) _ (by omega) ha (ds_in l h1 h8 hD) (ds_short l h1 h8 hD) (ds_days l h1 h8 hD) hR l.length 0 [(A : Int)] (Nat.zero_add _) ⟨by simp, fun y hy => by rw [List.mem_singleton] at hy; rw [hy]; exact Rch.base, by simp⟩ (Nat.zero_le _) (fun x hx => by simp at hx)
  rw [List.take_zero, W_nil l h1 h8 hD] at g2
  refine ⟨K2 + 1048601, fun k hk => ?_⟩
  have u2 := up_to (g := fun k => impl_DaysFor.l0 k l [(A : Int)] 0 ((0 : Nat) : Int)) (fun k => (impl_DaysFor.mono_l k).1 _ _ _ _) g2 (show K2 ≤ k by omega)
  simp only [impl_DaysFor.f, impl_isSkill.f, ok_i l h1 h8 hD k (by omega), Option.bind_some, if_true, in_is]
  rw [(inB_iff _ _ _).2 ⟨by omega, by rw [w64 (by omega) (by omega)]; omega⟩, if_pos rfl]
  exact u2
theorem days_bd (l : List Sk) (h1 : 1 ≤ l.length) (h8 : l.length ≤ 8) (hD : Ds l) (A : Nat) (hA : A < l.length) : 0 ≤ W l (vsL l (A : Int)) l.length ∧ W l (vsL l (A : Int)) l.length ≤ 800 := by
  have := W_bd l (vsL l (A : Int)) (ds_days l h1 h8 hD) l.length (Nat.le_refl _)
  omega
theorem rch_cons (l : List Sk) (h1 : 1 ≤ l.length) (h8 : l.length ≤ 8) (hD : Ds l) (k x y : Int) (hx : x ∈ (rd_T34 l k).f0) (h : Rch l x y) : Rch l k y := by
  induction h with
  | base => exact .step k x .base hx
  | step u v _ hm ih => exact .step u v ih hm
theorem rch_split (l : List Sk) (h1 : 1 ≤ l.length) (h8 : l.length ≤ 8) (hD : Ds l) (k y : Int) (h : Rch l k y) : y = k ∨ ∃ x ∈ (rd_T34 l k).f0, Rch l x y := by
  induction h with
  | base => exact .inl rfl
  | step u v _ hm ih =>
    right
    rcases ih with rfl | ⟨x, hx, hu⟩
    · exact ⟨v, hm, .base⟩
    · exact ⟨x, hx, .step u v hu hm⟩
theorem days_less (l : List Sk) (h1 : 1 ≤ l.length) (h8 : l.length ≤ 8) (hD : Ds l) (A X : Nat) (hA : A < l.length) (hX : (X : Int) ∈ l[A].f0) : W l (vsL l (X : Int)) l.length + l[A].f1 ≤ W l (vsL l (A : Int)) l.length := by
  have hXA := (ds_at l h1 h8 hD A hA).2.1 _ hX
  have h := W_add l (vsL l (X : Int)) A (fun q => by
    have := rch_le l h1 h8 hD (X : Int) (A : Int) (by omega) ((vs_mem l h1 h8 hD (X : Int) (by omega) _).1 q)
    omega) l.length
  rw [if_pos hA, rdI l A hA] at h
  rw [← h]
  refine W_le l h1 h8 hD _ _ l.length (Nat.le_refl _) (fun i hi hm => ?_)
  rw [vs_mem l h1 h8 hD (A : Int) (by omega)]
  rcases List.mem_append.1 hm with hm | hm
  · exact rch_cons l h1 h8 hD (A : Int) (X : Int) _ (by rw [rdI l A hA]; exact hX) ((vs_mem l h1 h8 hD (X : Int) (by omega) _).1 hm)
  · rw [List.mem_singleton] at hm
    rw [hm]
    exact .base
theorem days_self (l : List Sk) (h1 : 1 ≤ l.length) (h8 : l.length ≤ 8) (hD : Ds l) (A : Nat) (hA : A < l.length) : l[A].f1 ≤ W l (vsL l (A : Int)) l.length := by
  have h := W_add l [] A (by simp) l.length
  rw [if_pos hA, rdI l A hA, W_nil l h1 h8 hD, Int.zero_add] at h
  rw [← h]
  refine W_le l h1 h8 hD _ _ l.length (Nat.le_refl _) (fun i hi hm => ?_)
  rw [vs_mem l h1 h8 hD (A : Int) (by omega)]
  simp at hm
  rw [hm]
  exact .base
noncomputable def sumD (l : List Sk) : List Int → Int
  | [] => 0
  | x :: xs => W l (vsL l x) l.length + sumD l xs
theorem sum_cover (l : List Sk) (h1 : 1 ≤ l.length) (h8 : l.length ≤ 8) (hD : Ds l) : ∀ xs : List Int, W l (xs.flatMap (vsL l)) l.length ≤ sumD l xs
  | [] => by rw [List.flatMap_nil, W_nil l h1 h8 hD]; exact Int.le_refl _
  | x :: xs => by
    have := W_app l h1 h8 hD (vsL l x) (xs.flatMap (vsL l)) l.length (Nat.le_refl _)
    have ih := sum_cover l h1 h8 hD xs
    rw [List.flatMap_cons]
    simp only [sumD]
    omega
theorem days_sum (l : List Sk) (h1 : 1 ≤ l.length) (h8 : l.length ≤ 8) (hD : Ds l) (A : Nat) (hA : A < l.length) : W l (vsL l (A : Int)) l.length ≤ l[A].f1 + sumD l l[A].f0 := by
  have e1 := W_le l h1 h8 hD (vsL l (A : Int)) ([(A : Int)] ++ l[A].f0.flatMap (vsL l)) l.length (Nat.le_refl _) (fun i hi hm => by
    rw [vs_mem l h1 h8 hD (A : Int) (by omega)] at hm
    rw [List.mem_append]
    rcases rch_split l h1 h8 hD _ _ hm with h | ⟨x, hx, h⟩
    · left; rw [h]; simp
    · right
      rw [rdI l A hA] at hx
      have := (ds_at l h1 h8 hD A hA).2.1 x hx
      rw [List.mem_flatMap]
      exact ⟨x, hx, (vs_mem l h1 h8 hD x (by omega) _).2 h⟩)
  have e2 := W_app l h1 h8 hD [(A : Int)] (l[A].f0.flatMap (vsL l)) l.length (Nat.le_refl _)
  have e3 := sum_cover l h1 h8 hD l[A].f0
  have e4 := W_add l [] A (by simp) l.length
  rw [if_pos hA, rdI l A hA, W_nil l h1 h8 hD, Int.zero_add, List.nil_append] at e4
  omega
/-! ### depth -/
def depA (l : List Sk) : Nat → List Int
  | 0 => List.replicate l.length 0
  | t + 1 => (depA l t).set t (fd (depA l t) (rd_T34 l (t : Int)).f0 0 + 1)
theorem depA_len (l : List Sk) : ∀ t, (depA l t).length = l.length
  | 0 => by simp [depA]
  | t + 1 => by simp [depA, depA_len l t]
theorem depA_bd (l : List Sk) : ∀ t : Nat, ∀ y ∈ depA l t, 0 ≤ y ∧ y ≤ (t : Int)
  | 0, y, hy => by
    simp only [depA] at hy
    rw [List.eq_of_mem_replicate hy]
    omega
  | t + 1, y, hy => by
    simp only [depA] at hy
    have hb := fd_bd (depA l t) t (by omega) (depA_bd l t) (rd_T34 l (t : Int)).f0 0 (by omega) (by omega)
    rcases List.mem_or_eq_of_mem_set hy with h | h
    · have := depA_bd l t y h; omega
    · omega
theorem depA_old (l : List Sk) (y : Nat) (hy : y < l.length) : ∀ (d t : Nat), y < t → rd (depA l (t + d)) (y : Int) = rd (depA l t) (y : Int)
  | 0, t, h => rfl
  | d + 1, t, h => by
    have ih := depA_old l y hy d t h
    rw [← ih]
    show rd ((depA l (t + d)).set (t + d) _) (y : Int) = _
    rw [rd_get _ y (by rw [List.length_set, depA_len]; exact hy), rd_get _ y (by rw [depA_len]; exact hy), List.getElem_set_ne (by omega)]
theorem fd_congr (dep dep' : List Int) : ∀ (ys : List Int) (dv : Int), (∀ y ∈ ys, rd dep y = rd dep' y) → fd dep ys dv = fd dep' ys dv
  | [], dv, _ => rfl
  | y :: ys, dv, h => by
    rw [fd_cons, fd_cons, h y (by simp)]
    exact fd_congr dep dep' ys _ (fun z hz => h z (by simp [hz]))
theorem depth_at (l : List Sk) (h1 : 1 ≤ l.length) (h8 : l.length ≤ 8) (hD : Ds l) (A : Nat) (hA : A < l.length) : rd (depA l l.length) (A : Int) = fd (depA l l.length) l[A].f0 0 + 1 := by
  obtain ⟨d, hd⟩ : ∃ d, l.length = A + 1 + d := ⟨l.length - A - 1, by omega⟩
  have e1 := depA_old l A hA d (A + 1) (by omega)
  rw [← hd] at e1
  rw [e1]
  show rd ((depA l A).set A _) (A : Int) = _
  rw [rd_get _ A (by rw [List.length_set, depA_len]; exact hA), List.getElem_set_self, rdI l A hA]
  congr 1
  refine fd_congr _ _ _ _ (fun y hy => ?_)
  have hyA := (ds_at l h1 h8 hD A hA).2.1 y hy
  obtain ⟨Y, rfl⟩ : ∃ Y : Nat, y = (Y : Int) := ⟨y.toNat, by omega⟩
  have e2 := depA_old l Y (by omega) (1 + d) A (by omega)
  rw [show A + (1 + d) = l.length by omega] at e2
  exact e2.symm
theorem depth_l (l : List Sk) (h1 : 1 ≤ l.length) (h8 : l.length ≤ 8) (hD : Ds l) (a : Int) (h0 : 0 ≤ a) (ha : a < (l.length : Int)) : ∀ (d t : Nat), t + d = l.length → ∃ K, impl_DepthOf.l0 K l a (depA l t) (rng l.length) ((rng l.length).length : Int) (t : Int) = some (rd (depA l l.length) a) := by
  have hself := good_self l (ds_good l h1 h8 hD)
  intro d
  induction d with
  | zero =>
    intro t ht
    obtain rfl : t = l.length := by omega
    refine ⟨1, ?_⟩
    simp only [impl_DepthOf.l0, rng_length]
    rw [if_neg (by omega), if_pos h0, if_pos (by rw [depA_len]; exact ha)]
  | succ d ih =>
    intro t ht
    have htl : t < l.length := by omega
    have ht' : t < (rng l.length).length := by rw [rng_length]; exact htl
    obtain ⟨K, g⟩ := ih (t + 1) (by omega)
    have q2 := dep_impl l a (depA l t) (rng l.length) t t htl (depA_len l t) ht' (by rw [rng_length]; omega) (ds_in l h1 h8 hD _ (List.getElem_mem htl)) (ds_short l h1 h8 hD _ (List.getElem_mem htl)) (hself t htl) (fun y hy => by have := depA_bd l t y hy; omega) K _ l[t].f0.length 0 0 (by omega) (by omega) (by omega) (by
      rw [List.drop_zero]
      simp only [depA, rdI l t htl] at g
      exact g)
    refine ⟨(K + l[t].f0.length + 1) + 1, ?_⟩
    simp only [impl_DepthOf.l0, rd_get (rng l.length) t ht', rng_at]
    rw [if_pos (by omega), if_pos (by omega), if_pos (by omega), if_pos (by omega), if_pos (by rw [depA_len]; omega), if_pos (by omega), Int.toNat_natCast, rdI l t htl]
    exact q2
theorem depth_i (l : List Sk) (h1 : 1 ≤ l.length) (h8 : l.length ≤ 8) (hD : Ds l) (A : Nat) (hA : A < l.length) : Ev (fun k => impl_DepthOf.f k l (A : Int)) (rd (depA l l.length) (A : Int)) := by
  obtain ⟨K, g⟩ := depth_l l h1 h8 hD (A : Int) (by omega) (by omega) l.length 0 (Nat.zero_add _)
  refine ⟨K + 1048601, fun k hk => ?_⟩
  have u := up_to (g := fun k => impl_DepthOf.l0 k l (A : Int) (depA l 0) (rng l.length) ((rng l.length).length : Int) ((0 : Nat) : Int)) (fun k => (impl_DepthOf.mono_l k).1 _ _ _ _ _ _) g (show K ≤ k by omega)
  simp only [impl_DepthOf.f, impl_isSkill.f, ok_i l h1 h8 hD k (by omega), Option.bind_some, if_true, in_is, impl_learned.f, learned_all l h1 h8 hD]
  rw [(inB_iff _ _ _).2 ⟨by omega, by rw [w64 (by omega) (by omega)]; omega⟩, if_pos rfl, if_pos (by omega), if_pos (by omega), if_pos (by omega), Int.toNat_natCast, Option.bind_some]
  exact u

/-! ### the law's loops -/
theorem next_l1 (l : List Sk) (h1 : 1 ≤ l.length) (h8 : l.length ≤ 8) (hD : Ds l) (code : List Int) (t : Nat) (ht : t < l.length) (K : Nat) (R : Bool) (h : ∀ k, K ≤ k → laws_FnSkills.l0 k code l (rng l.length) (l.length : Int) (rng (t + 1)) ((t + 1 : Nat) : Int) = some R) :
    ∀ (d i k : Nat) (x : List Int), i + d = l.length → x = rng (min i (t + 1)) → K + d + 200 ≤ k → laws_FnSkills.l1 k code l (rng l.length) (l.length : Int) (rng t) (t : Int) x (i : Int) = some R := by
  intro d
  induction d with
  | zero =>
    intro i k x hi hx hk
    obtain ⟨k, rfl⟩ : ∃ m, k = m + 1 := ⟨k - 1, by omega⟩
    rw [show min i (t + 1) = t + 1 by omega] at hx
    subst hx
    simp only [laws_FnSkills.l1]
    rw [if_neg (by omega), wn t (by omega)]
    exact h k (by omega)
  | succ d ih =>
    intro i k x hi hx hk
    obtain ⟨k, rfl⟩ : ∃ m, k = m + 1 := ⟨k - 1, by omega⟩
    have hxl : x.length ≤ 9 := by rw [hx, rng_length]; omega
    simp only [laws_FnSkills.l1]
    rw [if_pos (by omega), lhas_is _ _ k (by rw [rng_length]; omega) (by omega), Option.bind_some, wn i (by omega), rd_get (rng l.length) t (by rw [rng_length]; exact ht), rng_at]
    by_cases e : i < t
    · rw [if_pos (by rw [List.contains_iff_mem, mem_rng]; omega), if_pos (by omega)]
      refine ih (i + 1) k _ (by omega) ?_ (by omega)
      rw [hx, show min i (t + 1) = i by omega, show min (i + 1) (t + 1) = i + 1 by omega, rng_succ]
    · have e2 : ¬ ((rng t).contains (i : Int) = true) := by
        rw [List.contains_iff_mem, mem_rng]; omega
      rw [if_neg e2, if_pos (by omega), if_pos (by rw [rng_length]; omega)]
      by_cases q : i = t
      · subst q
        rw [if_pos rfl, if_pos (by omega)]
        refine ih (i + 1) k _ (by omega) ?_ (by omega)
        rw [hx, show min i (i + 1) = i by omega, show min (i + 1) (i + 1) = i + 1 by omega, rng_succ]
      · rw [if_neg (by omega)]
        refine ih (i + 1) k _ (by omega) ?_ (by omega)
        rw [hx, show min i (t + 1) = t + 1 by omega, show min (i + 1) (t + 1) = t + 1 by omega]
theorem circle_no (l : List Sk) (h1 : 1 ≤ l.length) (h8 : l.length ≤ 8) (hD : Ds l) (k : Nat) (hk : 1048600 < k) : impl_SkillsOk.f k [(⟨[1], 1⟩ : Sk), (⟨[0], 1⟩ : Sk)] = some false := by
  obtain ⟨r, g, hr⟩ := impl_ok [(⟨[1], 1⟩ : Sk), (⟨[0], 1⟩ : Sk)] (by simp) (fun s hs => by
    rcases List.mem_cons.1 hs with rfl | hs
    · simp
    · rw [List.mem_singleton] at hs; subst hs; simp) k (by simp; omega)
  rw [g]
  cases r with
  | false => rfl
  | true =>
    have h := (hr.1 rfl).2.2
    exact absurd h (by decide)
theorem end_l2 (l : List Sk) (h1 : 1 ≤ l.length) (h8 : l.length ≤ 8) (hD : Ds l) (A : Nat) (hA : A < l.length) : ∀ (d i : Nat) (s dp : Int), i + d = l[A].f0.length → 0 ≤ s → s ≤ 1000 + 800 * (i : Int) → s + sumD l (l[A].f0.drop i) = l[A].f1 + sumD l l[A].f0 → 0 ≤ dp → dp ≤ 100 → fd (depA l l.length) (l[A].f0.drop i) dp = fd (depA l l.length) l[A].f0 0 →
    Ev (fun k => laws_FnSkills.l2 k l (l.length : Int) (rng l.length) (A : Int) (W l (vsL l (A : Int)) l.length) (rd (depA l l.length) (A : Int)) s dp (i : Int)) true := by
  have hdb := depA_bd l l.length
  have hAn := ds_at l h1 h8 hD A hA
  have hlA := subN_len _ A hAn.2
  have hAd := ds_days l h1 h8 hD _ (List.getElem_mem hA)
  intro d
  induction d with
  | zero =>
    intro i s dp hi hs0 hs1 hs2 hd0 hd1 hd2
    rw [List.drop_of_length_le (by omega)] at hs2 hd2
    simp only [sumD, Int.add_zero] at hs2
    have hd2' : dp = fd (depA l l.length) l[A].f0 0 := hd2
    have g1 := days_self l h1 h8 hD A hA
    have g2 := days_sum l h1 h8 hD A hA
    have g3 := depth_at l h1 h8 hD A hA
    refine ⟨1048700, fun k hk => ?_⟩
    obtain ⟨k, rfl⟩ : ∃ m, k = m + 1 := ⟨k - 1, by omega⟩
    simp only [laws_FnSkills.l2, rdI l A hA]
    rw [if_pos (by omega), if_pos (by omega), if_neg (by omega), w64 (by omega) (by omega), if_pos (by rw [g3, hd2']), if_pos (by omega), if_pos (by omega), if_pos (by rw [rng_length]), can_i l h1 h8 hD l.length (Nat.le_refl _) k (by omega), cfrom_end l h1 h8 hD, Option.bind_some, if_pos (by simp), ok_i l h1 h8 hD k (by omega), Option.bind_some, if_pos rfl, circle_no l h1 h8 hD k (by omega)]
    rfl
  | succ d ih =>
    intro i s dp hi hs0 hs1 hs2 hd0 hd1 hd2
    have hi' : i < l[A].f0.length := by omega
    have hx := hAn.2.1 _ (List.getElem_mem hi')
    obtain ⟨X, hX⟩ : ∃ X : Nat, l[A].f0[i] = (X : Int) := ⟨l[A].f0[i].toNat, by omega⟩
    have hXl : X < l.length := by omega
    rw [List.drop_eq_getElem_cons hi', hX] at hs2 hd2
    simp only [sumD] at hs2
    rw [fd_cons] at hd2
    have b1 := days_bd l h1 h8 hD X hXl
    have b2 := rd_bd (depA l l.length) l.length (by omega) hdb (X : Int)
    have b3 := days_less l h1 h8 hD A X hA (by rw [← hX]; exact List.getElem_mem hi')
    obtain ⟨K, h⟩ := ih (i + 1) (s + W l (vsL l (X : Int)) l.length) (mx dp (rd (depA l l.length) (X : Int))) (by omega) (by omega) (by omega) (by omega) (by unfold mx; split <;> omega) (by unfold mx; split <;> omega) hd2
    obtain ⟨K1, e1⟩ := days_i l h1 h8 hD X hXl
    obtain ⟨K2, e2⟩ := depth_i l h1 h8 hD X hXl
    refine ⟨K + K1 + K2 + 1, fun k hk => ?_⟩
    obtain ⟨k, rfl⟩ : ∃ m, k = m + 1 := ⟨k - 1, by omega⟩
    have h' := h k (by omega)
    have e1' := e1 k (by omega)
    have e2' := e2 k (by omega)
    simp only at h' e1' e2'
    simp only [laws_FnSkills.l2, rdI l A hA, rd_get _ i hi', hX, e1', e2', Option.bind_some]
    rw [if_pos (by omega), if_pos (by omega), if_pos (by omega), if_pos (by omega), if_neg (by omega), wn i (by omega), w64 (by omega) (by omega)]
    exact h'
theorem law_l0 (l : List Sk) (h1 : 1 ≤ l.length) (h8 : l.length ≤ 8) (hD : Ds l) (code : List Int) (hcl : code.length ≤ 1048576) (hw : ∀ x ∈ code, (Lit.int .u8 x).wf = true) : ∀ (d t : Nat), t + d = l.length → Ev (fun k => laws_FnSkills.l0 k code l (rng l.length) (l.length : Int) (rng t) (t : Int)) true := by
  intro d
  induction d with
  | zero =>
    intro t ht
    obtain rfl : t = l.length := by omega
    obtain ⟨v, ev, a0, a1⟩ := at_is code 0 (by omega) (by omega) hcl hw
    have hm0 : 0 ≤ v % (l.length : Int) := Int.emod_nonneg _ (by omega)
    have hm1 : v % (l.length : Int) < (l.length : Int) := Int.emod_lt_of_pos _ (by omega)
    obtain ⟨A, hA⟩ : ∃ A : Nat, v % (l.length : Int) = (A : Int) := ⟨(v % (l.length : Int)).toNat, by omega⟩
    have hAl : A < l.length := by omega
    have hAd := ds_days l h1 h8 hD _ (List.getElem_mem hAl)
    obtain ⟨K, h⟩ := end_l2 l h1 h8 hD A hAl l[A].f0.length 0 l[A].f1 0 (Nat.zero_add _) (by omega) (by omega) (by rw [List.drop_zero]) (by omega) (by omega) (by rw [List.drop_zero])
    obtain ⟨K1, e1⟩ := days_i l h1 h8 hD A hAl
    obtain ⟨K2, e2⟩ := depth_i l h1 h8 hD A hAl
    refine ⟨K + K1 + K2 + 1, fun k hk => ?_⟩
    obtain ⟨k, rfl⟩ : ∃ m, k = m + 1 := ⟨k - 1, by omega⟩
    have h' := h k (by omega)
    have e1' := e1 k (by omega)
    have e2' := e2 k (by omega)
    simp only at h' e1' e2'
    simp only [laws_FnSkills.l0]
    rw [if_neg (by omega), ev, Option.bind_some, if_neg (by omega), tm a0, hA, e1', Option.bind_some, e2', Option.bind_some, if_pos (by omega), if_pos (by omega), rdI l A hAl]
    exact h'
  | succ d ih =>
    intro t ht
    have htl : t < l.length := by omega
    obtain ⟨K, h⟩ := ih (t + 1) (by omega)
    obtain ⟨tl, htl2⟩ := cfrom_head l h1 h8 hD t htl
    have hcl2 := cFrom_len l (rng t) l.length 0
    rw [htl2] at hcl2
    refine ⟨K + 1048700, fun k hk => ?_⟩
    obtain ⟨k, rfl⟩ : ∃ m, k = m + 1 := ⟨k - 1, by omega⟩
    simp only [laws_FnSkills.l0]
    rw [if_pos (by omega), can_i l h1 h8 hD t (by omega) k (by omega), Option.bind_some, complete_i l h1 h8 hD t (by omega) k (by omega), Option.bind_some, if_pos rfl, if_pos (by omega), if_pos (by rw [rng_length]; omega), htl2, rd_get (rng l.length) t (by rw [rng_length]; exact htl), rng_at, lhas_is _ _ k (by omega) (by omega), Option.bind_some, if_pos (by simp), if_pos (by simp), rd_cons, bne_self_eq_false]
    obtain ⟨k, rfl⟩ : ∃ m, k = m + 1 := ⟨k - 1, by omega⟩
    simp only [laws_FnSkills.j1]
    rw [if_neg (by simp)]
    exact next_l1 l h1 h8 hD code t htl K true h l.length 0 k [] (Nat.zero_add _) (by simp [rng]) (by omega)
theorem FnSkills : laws_FnSkills.Pure := by
  intro code hm hl hw
  by_cases hb : (code.length : Int) > 1048576
  · refine ⟨0, ?_⟩
    unfold laws_FnSkills.f
    rw [big_is, decide_eq_true hb]
    rfl
  · have hcl : code.length ≤ 1048576 := by omega
    obtain ⟨l, ⟨h1, h8, hD⟩, K0, h0⟩ := draw_is code hcl
    obtain ⟨K1, g1⟩ := law_l0 l h1 h8 hD code hcl hw l.length 0 (Nat.zero_add _)
    obtain ⟨k, q0, q1, q2⟩ : ∃ k, K0 ≤ k ∧ K1 ≤ k ∧ 1048700 ≤ k := ⟨K0 + K1 + 1048700, by omega, by omega, by omega⟩
    have e0 := h0 k q0
    have e1 := g1 k q1
    simp only at e0 e1
    refine ⟨k, ?_⟩
    unfold laws_FnSkills.f
    rw [big_is, decide_eq_false hb]
    simp only [Option.bind_some, Bool.false_eq_true, if_false, e0, order_i l h1 h8 hD k (by omega), rng_length, if_true]
    exact e1
end Go.Proofs.Ytjfehhdgfpodhaa.Pure
