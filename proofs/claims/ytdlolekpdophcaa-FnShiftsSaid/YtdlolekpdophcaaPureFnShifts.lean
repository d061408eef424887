/- Hours by night are some of all hours, and the chosen shifts leave enough rest: the law. -/
import Derived.Test.YtdlolekpdophcaaDraw
namespace Go.Proofs.Ytdlolekpdophcaa.Pure
set_option linter.unusedVariables false
set_option linter.unusedSimpArgs false
open Go.RowKit Go.Proofs.Ytdlolekpdophcaa.PES Go.Proofs.Ytdlolekpdophcaa.Base Go.Proofs.YtdlolekpdophcaaW.PrintWords Go.Proofs.YtdlolekpdophcaaW.PrintLast

abbrev ShM := S39
theorem inB_it (lo hi n : Int) : inB lo hi n = true ↔ lo ≤ n ∧ n ≤ hi := by simp [inB]
def Fr (l : List ShM) (i : Int) : Int := (rd_T39 l i).f0
def En (l : List ShM) (i : Int) : Int := (rd_T39 l i).f1
theorem rdM (l : List ShM) (n : Nat) (h : n < l.length) : rd_T39 l (n : Int) = l[n] := by simp [rd_T39, h]
def Ok1 (f t : Int) : Prop := (0 ≤ f ∧ f ≤ 167) ∧ f + 1 ≤ t ∧ t ≤ f + 12
theorem ok1_iff (x : ShM) : most_b x = true ↔ Ok1 x.f0 x.f1 := by
  unfold most_b Ok1
  simp only [Bool.and_eq_true, inB_it]
  constructor
  · rintro ⟨h1, h2⟩
    rw [w64 (by omega) (by omega), w64 (by omega) (by omega)] at h2
    exact ⟨h1, h2⟩
  · rintro ⟨h1, h2⟩
    refine ⟨h1, ?_⟩
    rw [w64 (by omega) (by omega), w64 (by omega) (by omega)]
    exact h2
/-- A list that is drawn. -/
def Good (l : List ShM) : Prop := l.length ≤ 6 ∧ ∀ j : Nat, j < l.length → Ok1 (Fr l (j : Int)) (En l (j : Int)) ∧ (0 < j → En l ((j - 1 : Nat) : Int) ≤ Fr l (j : Int))
theorem good_chain (l : List ShM) (h : Good l) : ∀ (d a : Nat), a + d + 1 < l.length → En l (a : Int) ≤ Fr l ((a + d + 1 : Nat) : Int)
  | 0, a, hb => by
    have := (h.2 (a + 0 + 1) hb).2 (by omega)
    simpa using this
  | d + 1, a, hb => by
    have h1 := good_chain l h d a (by omega)
    have h2 := (h.2 (a + (d + 1) + 1) hb).2 (by omega)
    have h3 := (h.2 (a + d + 1) (by omega)).1
    unfold Ok1 at h3
    have e : a + (d + 1) + 1 - 1 = a + d + 1 := by omega
    rw [e] at h2
    omega
theorem good_lt (l : List ShM) (h : Good l) (a b : Nat) (hab : a < b) (hb : b < l.length) : En l (a : Int) ≤ Fr l (b : Int) := by
  have := good_chain l h (b - a - 1) a (by omega)
  have e : a + (b - a - 1) + 1 = b := by omega
  rw [e] at this
  exact this

/-! ### the program on such a list -/
theorem sOk_l (l : List ShM) (h : Good l) : ∀ (d n k : Nat), n + d = l.length → d < k → impl_ShiftsOk.l0 k l l (l.length : Int) (n : Int) = some true := by
  intro d
  induction d with
  | zero =>
    intro n k hn hk
    obtain ⟨k, rfl⟩ : ∃ m, k = m + 1 := ⟨k - 1, by omega⟩
    simp only [impl_ShiftsOk.l0]
    rw [if_neg (by omega), decide_eq_true (by have := h.1; omega)]
  | succ d ih =>
    intro n k hn hk
    obtain ⟨k, rfl⟩ : ∃ m, k = m + 1 := ⟨k - 1, by omega⟩
    have hg := h.2 n (by omega)
    have hb : most_b (rd_T39 l (n : Int)) = true := (ok1_iff _).2 hg.1
    have hl := h.1
    simp only [impl_ShiftsOk.l0, most_bf, hb, Option.bind_some, if_true]
    rw [if_pos (show (n : Int) < (l.length : Int) by omega), if_pos (show (0 : Int) ≤ (n : Int) by omega), if_pos (show (n : Int) < (l.length : Int) by omega), wn n (by omega)]
    by_cases h0 : (n : Int) > 0
    · have hw : wrap64 ((n : Int) - 1) = ((n - 1 : Nat) : Int) := by rw [w64 (by omega) (by omega)]; omega
      have := hg.2 (by omega)
      unfold Fr En at this
      rw [if_pos h0, hw, if_pos (by omega), if_pos (by omega), if_neg (by omega)]
      exact ih (n + 1) k (by omega) (by omega)
    · rw [if_neg h0]
      exact ih (n + 1) k (by omega) (by omega)
theorem sOk (l : List ShM) (h : Good l) (k : Nat) (hk : 10 < k) : impl_ShiftsOk.f k l = some true := sOk_l l h l.length 0 k (Nat.zero_add _) (by have := h.1; omega)
def sumH (l : List ShM) : Nat → Int
  | 0 => 0
  | i + 1 => sumH l i + (En l (i : Int) - Fr l (i : Int))
theorem sumH_bd (l : List ShM) (h : Good l) : ∀ i : Nat, i ≤ l.length → (i : Int) ≤ sumH l i ∧ sumH l i ≤ 12 * (i : Int)
  | 0, _ => by simp [sumH]
  | i + 1, hi => by
    have h1 := sumH_bd l h i (by omega)
    have h2 := (h.2 i (by omega)).1
    unfold Ok1 at h2
    simp only [sumH]
    omega
theorem hours_l (l : List ShM) (h : Good l) : ∀ (d n k : Nat), n + d = l.length → d < k → impl_HoursOf.l0 k (sumH l n) l (l.length : Int) (n : Int) = some (sumH l l.length) := by
  intro d
  induction d with
  | zero =>
    intro n k hn hk
    obtain ⟨k, rfl⟩ : ∃ m, k = m + 1 := ⟨k - 1, by omega⟩
    simp only [impl_HoursOf.l0]
    rw [if_neg (by omega), show n = l.length by omega]
  | succ d ih =>
    intro n k hn hk
    obtain ⟨k, rfl⟩ : ∃ m, k = m + 1 := ⟨k - 1, by omega⟩
    have hl := h.1
    have h1 := sumH_bd l h n (by omega)
    have h2 := (h.2 n (by omega)).1
    unfold Ok1 at h2
    have e : wrap64 (sumH l n + wrap64 ((rd_T39 l (n : Int)).f1 - (rd_T39 l (n : Int)).f0)) = sumH l (n + 1) := by
      show wrap64 (sumH l n + wrap64 (En l (n : Int) - Fr l (n : Int))) = _
      rw [w64 (x := En l (n : Int) - Fr l (n : Int)) (by omega) (by omega), w64 (by omega) (by omega)]
      rfl
    simp only [impl_HoursOf.l0, e]
    rw [if_pos (by omega), if_pos (by omega), if_pos (by omega), wn n (by omega)]
    exact ih (n + 1) k (by omega) (by omega)
theorem hours (l : List ShM) (h : Good l) (k : Nat) (hk : 10 < k) : impl_HoursOf.f k l = some (sumH l l.length) := by
  simp only [impl_HoursOf.f, sOk l h k hk, Option.bind_some, if_true]
  exact hours_l l h l.length 0 k (Nat.zero_add _) (by have := h.1; omega)
def rb (l : List ShM) : Nat → Int
  | 0 => 168
  | i + 1 => if i = 0 then 168 else mn (rb l i) (Fr l (i : Int) - En l ((i - 1 : Nat) : Int))
theorem mn_le (a b : Int) : mn a b ≤ a ∧ mn a b ≤ b ∧ (mn a b = a ∨ mn a b = b) := by
  unfold mn
  split <;> omega
theorem rb_bd (l : List ShM) (h : Good l) : ∀ i : Nat, i ≤ l.length → (0 ≤ rb l i ∧ rb l i ≤ 168) ∧ ∀ k : Nat, 0 < k → k < i → Fr l (k : Int) - En l ((k - 1 : Nat) : Int) ≥ rb l i
  | 0, _ => ⟨by simp [rb], fun k _ hk => absurd hk (by omega)⟩
  | i + 1, hi => by
    obtain ⟨h1, h2⟩ := rb_bd l h i (by omega)
    simp only [rb]
    by_cases e : i = 0
    · rw [if_pos e]
      exact ⟨by omega, fun k hk hk2 => absurd hk2 (by omega)⟩
    · rw [if_neg e]
      have hg := (h.2 i (by omega)).2 (by omega)
      obtain ⟨m1, m2, m3⟩ := mn_le (rb l i) (Fr l (i : Int) - En l ((i - 1 : Nat) : Int))
      refine ⟨by omega, fun k hk hk2 => ?_⟩
      by_cases ek : k = i
      · subst ek; omega
      · have := h2 k hk (by omega)
        omega
theorem rest_l (l : List ShM) (h : Good l) : ∀ (d n k : Nat), 0 < n → n + d = l.length → d < k → impl_RestBetween.l0 k l (rb l n) (n : Int) = some (rb l l.length) := by
  intro d
  induction d with
  | zero =>
    intro n k h0 hn hk
    obtain ⟨k, rfl⟩ : ∃ m, k = m + 1 := ⟨k - 1, by omega⟩
    simp only [impl_RestBetween.l0]
    rw [if_neg (by omega), show n = l.length by omega]
  | succ d ih =>
    intro n k h0 hn hk
    obtain ⟨k, rfl⟩ : ∃ m, k = m + 1 := ⟨k - 1, by omega⟩
    have hl := h.1
    have h1 := (h.2 n (by omega)).1
    have h2 := (h.2 (n - 1) (by omega)).1
    unfold Ok1 at h1 h2
    have hw : wrap64 ((n : Int) - 1) = ((n - 1 : Nat) : Int) := by rw [w64 (by omega) (by omega)]; omega
    have e : mn (rb l n) (wrap64 ((rd_T39 l (n : Int)).f0 - (rd_T39 l ((n - 1 : Nat) : Int)).f1)) = rb l (n + 1) := by
      show mn (rb l n) (wrap64 (Fr l (n : Int) - En l ((n - 1 : Nat) : Int))) = _
      rw [w64 (by omega) (by omega)]
      simp only [rb]
      rw [if_neg (by omega)]
    simp only [impl_RestBetween.l0, hw, e]
    rw [if_pos (by omega), if_pos (by omega), if_pos (by omega), if_pos (by omega), wn n (by omega)]
    exact ih (n + 1) k (by omega) (by omega) (by omega)
theorem rests (l : List ShM) (h : Good l) (k : Nat) (hk : 10 < k) : impl_RestBetween.f k l = some (rb l l.length) := by
  simp only [impl_RestBetween.f, sOk l h k hk, Option.bind_some, if_true]
  have hl := h.1
  rcases Nat.eq_zero_or_pos l.length with e | e
  · obtain ⟨k, rfl⟩ : ∃ m, k = m + 1 := ⟨k - 1, by omega⟩
    simp only [impl_RestBetween.l0]
    rw [if_neg (by omega), e]
    rfl
  · exact rest_l l h (l.length - 1) 1 k (by omega) (by omega) (by omega)
theorem night_1 (l : List ShM) (hl : l.length ≤ 6) (i : Nat) (hi : i < l.length) (F T : Int) : ∀ (d : Nat) (c x : Int), x + (d : Int) = T → 0 ≤ x → T ≤ 1000 → 0 ≤ c → c + (d : Int) ≤ 1000000 →
    ∃ c', (c ≤ c' ∧ c' ≤ c + (d : Int)) ∧ ∀ (R : Int) (K : Nat), (∀ k, K ≤ k → impl_NightHours.l0 k c' l (l.length : Int) ((i + 1 : Nat) : Int) = some R) → ∀ k, K + d + 1 ≤ k → impl_NightHours.l1 k c x l (l.length : Int) (i : Int) F T = some R := by
  intro d
  induction d with
  | zero =>
    intro c x hx h0 h1 hc hc2
    refine ⟨c, by omega, fun R K hK k hk => ?_⟩
    obtain ⟨k, rfl⟩ : ∃ m, k = m + 1 := ⟨k - 1, by omega⟩
    simp only [impl_NightHours.l1]
    rw [if_neg (by omega), wn i (by omega)]
    exact hK k (by omega)
  | succ d ih =>
    intro c x hx h0 h1 hc hc2
    obtain ⟨c1, b1, f1⟩ := ih (c + 1) (x + 1) (by omega) (by omega) h1 (by omega) (by omega)
    obtain ⟨c0, b0, f0⟩ := ih c (x + 1) (by omega) (by omega) h1 (by omega) (by omega)
    have ex : wrap64 (x + 1) = x + 1 := w64 (by omega) (by omega)
    have ec : wrap64 (c + 1) = c + 1 := w64 (by omega) (by omega)
    by_cases q1 : Int.tmod x 24 < 6
    · refine ⟨c1, by omega, fun R K hK k hk => ?_⟩
      obtain ⟨k, rfl⟩ : ∃ m, k = m + 1 := ⟨k - 1, by omega⟩
      simp only [impl_NightHours.l1, ex, ec]
      rw [if_pos (by omega), if_pos q1]
      exact f1 R K hK k (by omega)
    · by_cases q2 : Int.tmod x 24 ≥ 22
      · refine ⟨c1, by omega, fun R K hK k hk => ?_⟩
        obtain ⟨k, rfl⟩ : ∃ m, k = m + 1 := ⟨k - 1, by omega⟩
        simp only [impl_NightHours.l1, ex, ec]
        rw [if_pos (by omega), if_neg q1, if_pos q2]
        exact f1 R K hK k (by omega)
      · refine ⟨c0, by omega, fun R K hK k hk => ?_⟩
        obtain ⟨k, rfl⟩ : ∃ m, k = m + 1 := ⟨k - 1, by omega⟩
        simp only [impl_NightHours.l1, ex, ec]
        rw [if_pos (by omega), if_neg q1, if_neg q2]
        exact f0 R K hK k (by omega)
theorem night_0 (l : List ShM) (h : Good l) : ∀ (d n : Nat) (c : Int), n + d = l.length → 0 ≤ c → c ≤ sumH l n → ∃ N, (0 ≤ N ∧ N ≤ sumH l l.length) ∧ ∃ K, ∀ k, K ≤ k → impl_NightHours.l0 k c l (l.length : Int) (n : Int) = some N := by
  intro d
  induction d with
  | zero =>
    intro n c hn h0 h1
    refine ⟨c, ⟨h0, by rw [show n = l.length by omega] at h1; exact h1⟩, 1, fun k hk => ?_⟩
    obtain ⟨k, rfl⟩ : ∃ m, k = m + 1 := ⟨k - 1, by omega⟩
    simp only [impl_NightHours.l0]
    rw [if_neg (by omega)]
  | succ d ih =>
    intro n c hn h0 h1
    have hl := h.1
    have hb := sumH_bd l h n (by omega)
    have hg := (h.2 n (by omega)).1
    unfold Ok1 at hg
    obtain ⟨c', b, f⟩ := night_1 l hl n (by omega) (Fr l (n : Int)) (En l (n : Int)) (En l (n : Int) - Fr l (n : Int)).toNat c (Fr l (n : Int)) (by omega) (by omega) (by omega) h0 (by omega)
    obtain ⟨N, b2, K, hK⟩ := ih (n + 1) c' (by omega) (by omega) (by simp only [sumH]; omega)
    refine ⟨N, b2, K + (En l (n : Int) - Fr l (n : Int)).toNat + 2, fun k hk => ?_⟩
    obtain ⟨k, rfl⟩ : ∃ m, k = m + 1 := ⟨k - 1, by omega⟩
    simp only [impl_NightHours.l0]
    rw [if_pos (by omega), if_pos (by omega), if_pos (by omega)]
    exact f N K hK k (by omega)
theorem nights (l : List ShM) (h : Good l) : ∃ N, (0 ≤ N ∧ N ≤ sumH l l.length) ∧ ∃ K, ∀ k, K ≤ k → impl_NightHours.f k l = some N := by
  obtain ⟨N, b, K, hK⟩ := night_0 l h l.length 0 0 (Nat.zero_add _) (Int.le_refl _) (Int.le_refl _)
  refine ⟨N, b, K + 11, fun k hk => ?_⟩
  simp only [impl_NightHours.f, sOk l h k (by omega), Option.bind_some, if_true]
  exact hK k (by omega)
theorem night_8 (k : Nat) (hk : 40 ≤ k) : impl_NightHours.f k [(⟨20, 30⟩ : ShM)] = some 8 := by
  have : impl_NightHours.f 40 [(⟨20, 30⟩ : ShM)] = some 8 := by decide +kernel
  exact up_to (g := fun k => impl_NightHours.f k [(⟨20, 30⟩ : ShM)]) (fun k => impl_NightHours.mono _ k) this hk

/-! ### what is chosen -/
theorem out_same (l : List ShM) (m : Nat) (hm : l.length = m + 1) (h : Good l) : ∀ (n i : Nat), m + 1 - i = n → 1 ≤ i → Go.Sort.insOuter (ltOf (most_cf l m)) 0 (m + 1) i (Array.ofFn (fun i : Fin (m + 1) => i)) = Array.ofFn (fun i : Fin (m + 1) => i) := by
  intro n
  induction n with
  | zero =>
    intro i hn hi
    unfold Go.Sort.insOuter
    rw [if_neg (by omega)]
  | succ n ih =>
    intro i hn hi
    unfold Go.Sort.insOuter
    rw [if_pos (by omega)]
    have e : Go.Sort.insInner (ltOf (most_cf l m)) 0 i (Array.ofFn (fun i : Fin (m + 1) => i)) = Array.ofFn (fun i : Fin (m + 1) => i) := by
      obtain ⟨j, rfl⟩ : ∃ j, i = j + 1 := ⟨i - 1, by omega⟩
      unfold Go.Sort.insInner
      rw [if_neg]
      intro q
      rw [getElem!_pos _ (j + 1) (by simp; omega), getElem!_pos _ j (by simp; omega), Array.getElem_ofFn, Array.getElem_ofFn, Bool.and_eq_true] at q
      have g1 := (h.2 j (by omega)).1
      have g2 := (h.2 (j + 1) (by omega)).1
      have g3 := (h.2 (j + 1) (by omega)).2 (by omega)
      unfold Ok1 at g1 g2
      simp only [Nat.add_sub_cancel] at g3
      have q3 : wrap64 (En l ((j + 1 : Nat) : Int) - En l (j : Int)) < 0 := of_decide_eq_true q.2
      rw [w64 (by omega) (by omega)] at q3
      omega
    rw [e]
    exact ih (i + 1) (by omega) (by omega)
theorem ix_is (l : List ShM) (h : Good l) : most_ix l = most_id l.length := by
  unfold most_ix
  split
  · rename_i e; rw [e]; rfl
  · rename_i m hm
    unfold most_ar Go.Sort.insertionSort
    rw [out_same l m hm h m 1 (by omega) (Nat.le_refl _), hm]
    apply List.ext_getElem
    · simp [most_id]
    · intro i h1 h2
      simp only [Array.toList_map, Array.toList_ofFn, List.getElem_map, List.getElem_ofFn, most_id, List.getElem_range]
/-- What is chosen of the first j shifts. -/
structure Chosen (l : List ShM) (a : Int) (j : Nat) (out : List Int) : Prop where
  bd : ∀ x ∈ out, 0 ≤ x ∧ x < (j : Int)
  gap : ∀ k : Nat, 0 < k → k < out.length → Fr l (rd out (k : Int)) - En l (rd out ((k - 1 : Nat) : Int)) ≥ a
  cov : ∀ x : Nat, x < j → (x : Int) ∉ out → ∃ k : Nat, k < out.length ∧ Fr l (x : Int) - En l (rd out (k : Int)) < a ∧ Fr l (rd out (k : Int)) - En l (x : Int) < a
  emp : out.length = 0 → j = 0
  len : out.length ≤ j
  all : (∀ k : Nat, 0 < k → k < l.length → Fr l (k : Int) - En l ((k - 1 : Nat) : Int) ≥ a) → out.length = j ∧ ∀ k : Nat, k < j → rd out (k : Int) = (k : Int)
theorem rd_app (out : List Int) (x : Int) (k : Nat) (hk : k < out.length) : rd (out ++ [x]) (k : Int) = rd out (k : Int) := by
  rw [rd_get _ k (by simp; omega), rd_get _ k hk, List.getElem_append_left hk]
theorem rd_end (out : List Int) (x : Int) : rd (out ++ [x]) (out.length : Int) = x := by
  rw [rd_get _ _ (by simp)]
  simp
theorem ch_go (l : List ShM) (a : Int) (ha : 0 ≤ a ∧ a ≤ 24) (h : Good l) : ∀ (d j : Nat) (out : List Int), j + d = l.length → Chosen l a j out → Chosen l a l.length (most_go l a ((most_id l.length).drop j) out) := by
  have hl := h.1
  intro d
  induction d with
  | zero =>
    intro j out hj hc
    obtain rfl : j = l.length := by omega
    rw [List.drop_of_length_le (by rw [most_len]; omega)]
    exact hc
  | succ d ih =>
    intro j out hj hc
    have hjl : j < l.length := by omega
    have e : (most_id l.length).drop j = (j : Int) :: (most_id l.length).drop (j + 1) := by
      rw [List.drop_eq_getElem_cons (by rw [most_len]; exact hjl)]
      congr 1
      simp [most_id]
    rw [e]
    simp only [most_go]
    have hgj := (h.2 j hjl).1
    have hlen := hc.len
    unfold Ok1 at hgj
    by_cases h0 : out.length = 0
    · rw [if_pos (Or.inl h0)]
      have hj0 := hc.emp h0
      have ho : out = [] := List.eq_nil_of_length_eq_zero h0
      subst ho
      subst hj0
      refine ih 1 _ (by omega) ⟨fun x hx => ?_, fun k h1 h2 => ?_, fun x hx hxo => ?_, fun q => by simp at q, by simp, fun _ => ⟨by simp, fun k hk => ?_⟩⟩
      · simp at hx; omega
      · simp at h2; omega
      · exfalso; apply hxo; simp; omega
      · obtain rfl : k = 0 := by omega
        simp [rd]
    · obtain ⟨m, hm⟩ : ∃ m, out.length = m + 1 := ⟨out.length - 1, by omega⟩
      have ew : wrap64 ((out.length : Int) - 1) = (m : Int) := by rw [w64 (by omega) (by omega)]; omega
      have hlast := hc.bd (rd out (m : Int)) (rd_mem out _ (by omega) (by omega))
      obtain ⟨z, hz⟩ : ∃ z : Nat, rd out (m : Int) = (z : Int) := ⟨(rd out (m : Int)).toNat, by omega⟩
      rw [hz] at hlast
      have hzj : z < j := by omega
      have hgz := (h.2 z (by omega)).1
      have hch := good_lt l h z j hzj hjl
      unfold Ok1 at hgz
      have eT : wrap64 ((rd_T39 l (rd out (wrap64 ((out.length : Int) - 1)))).f1 + a) = En l (z : Int) + a := by
        rw [ew, hz]
        show wrap64 (En l (z : Int) + a) = _
        exact w64 (by omega) (by omega)
      rw [eT]
      by_cases hcnd : Fr l (j : Int) ≥ En l (z : Int) + a
      · rw [if_pos (show out.length = 0 ∨ (rd_T39 l (j : Int)).f0 ≥ En l (z : Int) + a from Or.inr hcnd)]
        refine ih (j + 1) _ (by omega) ⟨fun x hx => ?_, fun k h1 h2 => ?_, fun x hx hxo => ?_, fun q => by simp at q, by simp; omega, fun q => ?_⟩
        · rcases List.mem_append.1 hx with hx | hx
          · have := hc.bd x hx; omega
          · rw [List.mem_singleton] at hx; omega
        · simp at h2
          by_cases ek : k = out.length
          · subst ek
            have e1 : rd (out ++ [(j : Int)]) ((out.length - 1 : Nat) : Int) = (z : Int) := by
              rw [rd_app _ _ _ (by omega), show out.length - 1 = m by omega, hz]
            rw [rd_end, e1]
            omega
          · rw [rd_app _ _ _ (by omega), rd_app _ _ _ (by omega)]
            exact hc.gap k h1 (by omega)
        · rw [List.mem_append, List.mem_singleton] at hxo
          obtain ⟨k, k1, k2, k3⟩ := hc.cov x (by omega) (fun q => hxo (Or.inl q))
          exact ⟨k, by simp; omega, by rw [rd_app _ _ _ k1]; exact k2, by rw [rd_app _ _ _ k1]; exact k3⟩
        · obtain ⟨q1, q2⟩ := hc.all q
          refine ⟨by simp [q1], fun k hk => ?_⟩
          by_cases ek : k = j
          · subst ek
            have := rd_end out (k : Int)
            rw [q1] at this
            exact this
          · rw [rd_app _ _ _ (by omega)]
            exact q2 k (by omega)
      · rw [if_neg (show ¬ (out.length = 0 ∨ (rd_T39 l (j : Int)).f0 ≥ En l (z : Int) + a) from fun q => q.elim h0 hcnd)]
        refine ih (j + 1) _ (by omega) ⟨fun x hx => ?_, hc.gap, fun x hx hxo => ?_, fun q => absurd q h0, by omega, fun q => ?_⟩
        · have := hc.bd x hx; omega
        · by_cases ex : x = j
          · subst ex
            exact ⟨m, by omega, by rw [hz]; omega, by rw [hz]; omega⟩
          · exact hc.cov x (by omega) hxo
        · exfalso
          obtain ⟨q1, q2⟩ := hc.all q
          have := q j (by omega) hjl
          have e2 := q2 m (by omega)
          rw [hz] at e2
          have e3 : z = j - 1 := by omega
          rw [← e3] at this
          omega
theorem most_is (l : List ShM) (a : Int) (ha : 0 ≤ a ∧ a ≤ 15) (h : Good l) : ∃ M, impl_MostShifts.f l a = some M ∧ Chosen l a l.length M := by
  refine ⟨most_go l a (most_id l.length) [], ?_, ?_⟩
  · have hany : (l.any fun s => !most_b s) = false := by
      rw [List.any_eq_false]
      intro s hs
      obtain ⟨x, hx, rfl⟩ := List.getElem_of_mem hs
      have := (h.2 x hx).1
      unfold Fr En at this
      rw [rdM l x hx] at this
      rw [(ok1_iff _).2 this]
      decide
    unfold impl_MostShifts.f
    rw [if_neg (by have := h.1; omega), hany, if_neg (by decide), (inB_it 0 24 a).2 ⟨by omega, by omega⟩, if_pos rfl, ix_is l h]
  · have := ch_go l a ⟨ha.1, by omega⟩ h l.length 0 [] (Nat.zero_add _) ⟨fun x hx => (by cases hx), fun k _ hk => absurd hk (by simp), fun x hx => absurd hx (by omega), fun _ => rfl, by simp, fun _ => ⟨rfl, fun k hk => absurd hk (by omega)⟩⟩
    rwa [List.drop_zero] at this

/-! ### what is drawn -/
theorem good_app (l : List ShM) (f t : Int) (h : Good l) (hl : l.length ≤ 5) (hp : 0 < l.length → En l ((l.length - 1 : Nat) : Int) ≤ f) (hk : Ok1 f t) : Good (l ++ [(⟨f, t⟩ : ShM)]) := by
  have e1 : ∀ j : Nat, j < l.length → rd_T39 (l ++ [(⟨f, t⟩ : ShM)]) (j : Int) = rd_T39 l (j : Int) := fun j hj => by
    rw [rdM _ j (by simp; omega), rdM l j hj, List.getElem_append_left hj]
  have e2 : rd_T39 (l ++ [(⟨f, t⟩ : ShM)]) (l.length : Int) = ⟨f, t⟩ := by
    rw [rdM _ _ (by simp)]
    simp
  refine ⟨by simp; omega, fun j hj => ?_⟩
  rw [List.length_append, List.length_singleton] at hj
  by_cases e : j = l.length
  · subst e
    unfold Fr En
    rw [e2]
    refine ⟨hk, fun h0 => ?_⟩
    rw [e1 _ (by omega)]
    exact hp h0
  · have := h.2 j (by omega)
    unfold Fr En at *
    rw [e1 j (by omega), e1 (j - 1) (by omega)]
    exact this
theorem draw_l0 (code : List Int) (hl : code.length ≤ 1048576) : ∀ (d : Nat) (acc : List ShM) (at_ ci hh : Int), acc.length + d ≤ 6 → Good acc → (0 < acc.length → En acc ((acc.length - 1 : Nat) : Int) ≤ at_) → 0 ≤ at_ → at_ ≤ 400 → Cur code ci →
    ∃ L ci' h', (∀ k, 2 * d + 20 < k → spec_l22List.l0 k acc at_ (d : Int) code ci hh = some (L, ci', h')) ∧ Good L := by
  intro d
  induction d with
  | zero =>
    intro acc at_ ci hh hn hg hp h0 h1 hc
    refine ⟨acc, ci, hh, fun k hk => ?_, hg⟩
    obtain ⟨k, rfl⟩ : ∃ m, k = m + 1 := ⟨k - 1, by omega⟩
    obtain ⟨k, rfl⟩ : ∃ m, k = m + 1 := ⟨k - 1, by omega⟩
    simp only [spec_l22List.l0]
    rw [if_neg (by omega)]
    simp [spec_l22List.j1]
  | succ d ih =>
    intro acc at_ ci hh hn hg hp h0 h1 hc
    by_cases hb : at_ < 150
    · obtain ⟨v1, ci1, h1', e1, v10, v11, c1⟩ := below_is code ci hh 12 hl hc (by omega)
      obtain ⟨v2, ci2, h2', e2, v20, v21, c2⟩ := below_is code ci1 h1' 20 hl c1 (by omega)
      have w1 : wrap64 (wrap64 (at_ + 1) + v1) = at_ + 1 + v1 := by rw [w64 (x := at_ + 1) (by omega) (by omega), w64 (by omega) (by omega)]
      have w2 : wrap64 (at_ + 1 + v1 + v2) = at_ + 1 + v1 + v2 := w64 (by omega) (by omega)
      have w3 : wrap64 (((d + 1 : Nat) : Int) - 1) = (d : Int) := by rw [w64 (by omega) (by omega)]; omega
      have hE : En (acc ++ [(⟨at_, at_ + 1 + v1⟩ : ShM)]) (acc.length : Int) = at_ + 1 + v1 := by
        unfold En
        rw [rdM _ _ (by simp)]
        simp
      obtain ⟨L, ci', h', g1, g2⟩ := ih (acc ++ [(⟨at_, at_ + 1 + v1⟩ : ShM)]) (at_ + 1 + v1 + v2) ci2 h2' (by simp; omega) (good_app acc at_ _ hg (by omega) hp ⟨by omega, by omega, by omega⟩) (fun _ => by
        rw [List.length_append, List.length_singleton, Nat.add_sub_cancel, hE]
        omega) (by omega) (by omega) c2
      refine ⟨L, ci', h', fun k hk => ?_, g2⟩
      obtain ⟨k, rfl⟩ : ∃ m, k = m + 1 := ⟨k - 1, by omega⟩
      obtain ⟨k, rfl⟩ : ∃ m, k = m + 1 := ⟨k - 1, by omega⟩
      simp only [spec_l22List.l0]
      rw [if_pos (by omega), decide_eq_true hb]
      simp only [spec_l22List.j1, e1, e2, Option.bind_some, if_true, w1, w2, w3]
      rw [if_pos (by omega)]
      exact g1 k (by omega)
    · refine ⟨acc, ci, hh, fun k hk => ?_, hg⟩
      obtain ⟨k, rfl⟩ : ∃ m, k = m + 1 := ⟨k - 1, by omega⟩
      obtain ⟨k, rfl⟩ : ∃ m, k = m + 1 := ⟨k - 1, by omega⟩
      simp only [spec_l22List.l0]
      rw [if_pos (by omega), decide_eq_false hb]
      simp [spec_l22List.j1]
theorem draw_is (code : List Int) (hl : code.length ≤ 1048576) : ∃ l, Good l ∧ ∃ K, ∀ k, K ≤ k → spec_DrawShifts.f k code = some l := by
  obtain ⟨h, e⟩ := new_is code (code.length + 1) hl (by omega)
  obtain ⟨v, i1, h1, e1, b0, b1, c1⟩ := below_is code 0 h 24 hl (cur0 code) (by omega)
  obtain ⟨m, i2, h2, e2, m0, m1, c2⟩ := below_is code i1 h1 7 hl c1 (by omega)
  obtain ⟨M, rfl⟩ : ∃ M : Nat, m = (M : Int) := ⟨m.toNat, by omega⟩
  obtain ⟨L, i', h', g1, g2⟩ := draw_l0 code hl M [] v i2 h2 (by simp; omega) ⟨by simp, fun j hj => absurd hj (by simp)⟩ (fun q => absurd q (by simp)) b0 (by omega) c2
  refine ⟨L, g2, code.length + 100, fun k hk => ?_⟩
  have e3 := up_to (fun k => spec_l01New.mono code k) e (show code.length + 1 ≤ k by omega)
  simp only [spec_DrawShifts.f, e3, Option.bind_some, spec_l22List.f, e1, e2, g1 k (by omega)]

/-! ### the law -/
theorem lhas_l (l : List Int) (a : Int) (hb : l.length ≤ 9223372036854775800) : ∀ (d k n : Nat), n + d = l.length → d < k → laws_has.l0 k l a (n : Int) = some ((l.drop n).contains a) := by
  intro d
  induction d with
  | zero =>
    intro k n hn hk
    obtain ⟨k, rfl⟩ : ∃ m, k = m + 1 := ⟨k - 1, by omega⟩
    simp only [laws_has.l0]
    rw [if_neg (by omega), List.drop_of_length_le (by omega)]
    rfl
  | succ d ih =>
    intro k n hn hk
    obtain ⟨k, rfl⟩ : ∃ m, k = m + 1 := ⟨k - 1, by omega⟩
    have hn' : n < l.length := by omega
    simp only [laws_has.l0]
    rw [if_pos (by omega), if_pos (by omega), rd_get l n hn', wn n (by omega), ih k (n + 1) (by omega) (by omega), List.drop_eq_getElem_cons hn', List.contains_cons]
    by_cases e : l[n] = a
    · rw [if_pos e, e]; simp
    · rw [if_neg e]
      have : (a == l[n]) = false := by simp; exact fun h => e h.symm
      rw [this]; simp
theorem lhas_is (l : List Int) (a : Int) (k : Nat) (hb : l.length ≤ 100) (hk : 100 < k) : laws_has.f k l a = some (l.contains a) := by
  have := lhas_l l a (by omega) l.length k 0 (by omega) (by omega)
  simpa [laws_has.f] using this
theorem l3_is (l : List ShM) (h : Good l) (H r a : Int) (ha : 0 ≤ a ∧ a ≤ 15) (M : List Int) (hM : Chosen l a l.length M) (s : Int) (x : Nat) (hx : x < l.length) (K : Nat) (hK : ∀ k, K ≤ k → laws_FnShifts.l2 k l H r a M s ((x + 1 : Nat) : Int) = some true) :
    ∀ (d i k : Nat) (b : Bool), i + d = M.length → K + d < k → (b = false ∨ ∃ j : Nat, i ≤ j ∧ j < M.length ∧ Fr l (x : Int) - En l (rd M (j : Int)) < a ∧ Fr l (rd M (j : Int)) - En l (x : Int) < a) → laws_FnShifts.l3 k l H r a M s (x : Int) b (i : Int) = some true := by
  have hl := h.1
  have hml := hM.len
  intro d
  induction d with
  | zero =>
    intro i k b hi hk hb
    obtain ⟨k, rfl⟩ : ∃ m, k = m + 1 := ⟨k - 1, by omega⟩
    rcases hb with rfl | ⟨j, h1, h2, _⟩
    · simp only [laws_FnShifts.l3]
      rw [if_neg (by omega), if_neg (by decide), wn x (by omega)]
      exact hK k (by omega)
    · omega
  | succ d ih =>
    intro i k b hi hk hb
    obtain ⟨k, rfl⟩ : ∃ m, k = m + 1 := ⟨k - 1, by omega⟩
    have hbd := hM.bd (rd M (i : Int)) (rd_mem M _ (by omega) (by omega))
    obtain ⟨z, hz⟩ : ∃ z : Nat, rd M (i : Int) = (z : Int) := ⟨(rd M (i : Int)).toNat, by omega⟩
    rw [hz] at hbd
    have g1 := (h.2 x hx).1
    have g2 := (h.2 z (by omega)).1
    unfold Ok1 at g1 g2
    have e1 : wrap64 ((rd_T39 l (x : Int)).f0 - (rd_T39 l (z : Int)).f1) = Fr l (x : Int) - En l (z : Int) := w64 (x := Fr l (x : Int) - En l (z : Int)) (by omega) (by omega)
    have e2 : wrap64 ((rd_T39 l (z : Int)).f0 - (rd_T39 l (x : Int)).f1) = Fr l (z : Int) - En l (x : Int) := w64 (x := Fr l (z : Int) - En l (x : Int)) (by omega) (by omega)
    simp only [laws_FnShifts.l3, hz, e1, e2]
    rw [if_pos (by omega), if_pos (by omega), if_pos (by omega), if_pos (by omega), wn i (by omega)]
    cases b with
    | false =>
      rw [if_neg (by decide)]
      exact ih (i + 1) k false (by omega) (by omega) (Or.inl rfl)
    | true =>
      rw [if_pos rfl, if_pos (by omega), if_pos (by omega)]
      rcases hb with hb | ⟨j, h1, h2, h3, h4⟩
      · cases hb
      · by_cases ej : j = i
        · subst ej
          rw [hz] at h3 h4
          rw [if_neg (by omega), decide_eq_false (by omega)]
          exact ih (j + 1) k false (by omega) (by omega) (Or.inl rfl)
        · by_cases hq : Fr l (x : Int) - En l (z : Int) ≥ a
          · rw [if_pos hq]
            exact ih (i + 1) k true (by omega) (by omega) (Or.inr ⟨j, by omega, h2, h3, h4⟩)
          · rw [if_neg hq]
            exact ih (i + 1) k _ (by omega) (by omega) (Or.inr ⟨j, by omega, h2, h3, h4⟩)
theorem l2_is (l : List ShM) (h : Good l) (a : Int) (ha : 0 ≤ a ∧ a ≤ 15) (M : List Int) (hM : Chosen l a l.length M) : ∀ (d x k : Nat), x + d = l.length → 1000 + 10 * d < k → laws_FnShifts.l2 k l (sumH l l.length) (rb l l.length) a M (sumH l l.length) (x : Int) = some true := by
  have hl := h.1
  have hml := hM.len
  intro d
  induction d with
  | zero =>
    intro x k hx hk
    obtain ⟨k, rfl⟩ : ∃ m, k = m + 1 := ⟨k - 1, by omega⟩
    have hb := sumH_bd l h l.length (Nat.le_refl _)
    have ew : wrap64 (sumH l l.length - 1) = sumH l l.length - 1 := w64 (by omega) (by omega)
    have hA : ∀ c : Int, impl_IsAllowed.f k l (rb l l.length) c = some (decide (sumH l l.length ≤ c)) := fun c => by
      simp only [impl_IsAllowed.f, sOk l h k (by omega), rests l h k (by omega), hours l h k (by omega), Option.bind_some, if_true]
      rw [if_pos (Int.le_refl _)]
    simp only [laws_FnShifts.l2, hA, ew, Option.bind_some, night_8 k (by omega), sOk l h k (by omega)]
    rw [if_neg (by omega), if_pos trivial, if_pos (by simp), if_neg (by simp; omega), if_pos trivial]
  | succ d ih =>
    intro x k hx hk
    obtain ⟨k, rfl⟩ : ∃ m, k = m + 1 := ⟨k - 1, by omega⟩
    have hn := ih (x + 1)
    simp only [laws_FnShifts.l2, lhas_is M (x : Int) k (by omega) (by omega), Option.bind_some]
    rw [if_pos (by omega), wn x (by omega)]
    by_cases hx' : M.contains (x : Int) = true
    · rw [if_pos hx']
      exact hn k (by omega) (by omega)
    · rw [if_neg hx']
      obtain ⟨j, j1, j2, j3⟩ := hM.cov x (by omega) (fun q => hx' (List.contains_iff_mem.2 q))
      exact l3_is l h _ _ a ha M hM _ x (by omega) (1000 + 10 * d + 1) (fun k hk => hn k (by omega) (by omega)) M.length 0 k true (Nat.zero_add _) (by omega) (Or.inr ⟨j, Nat.zero_le _, j1, j2, j3⟩)
theorem l1_is (l : List ShM) (h : Good l) (a : Int) (ha : 0 ≤ a ∧ a ≤ 15) (M : List Int) (hM : Chosen l a l.length M) : ∀ (d i k : Nat), i + d = M.length → 2000 + d < k → laws_FnShifts.l1 k l (sumH l l.length) (rb l l.length) a M (sumH l l.length) (i : Int) = some true := by
  have hl := h.1
  have hml := hM.len
  intro d
  induction d with
  | zero =>
    intro i k hi hk
    obtain ⟨k, rfl⟩ : ∃ m, k = m + 1 := ⟨k - 1, by omega⟩
    obtain ⟨k, rfl⟩ : ∃ m, k = m + 1 := ⟨k - 1, by omega⟩
    have hJ : laws_FnShifts.j3 (k + 1) l (sumH l l.length) (rb l l.length) a M (sumH l l.length) false = some true := by
      simp only [laws_FnShifts.j3]
      rw [if_neg (by decide)]
      exact l2_is l h a ha M hM l.length 0 k (Nat.zero_add _) (by omega)
    simp only [laws_FnShifts.l1]
    rw [if_neg (by omega)]
    by_cases hr : rb l l.length ≥ a
    · have := (hM.all (fun k h1 h2 => by have := (rb_bd l h l.length (Nat.le_refl _)).2 k h1 h2; omega)).1
      rw [if_pos hr, this, bne_self_eq_false]
      exact hJ
    · rw [if_neg hr]
      exact hJ
  | succ d ih =>
    intro i k hi hk
    obtain ⟨k, rfl⟩ : ∃ m, k = m + 1 := ⟨k - 1, by omega⟩
    have hbd := hM.bd (rd M (i : Int)) (rd_mem M _ (by omega) (by omega))
    obtain ⟨z, hz⟩ : ∃ z : Nat, rd M (i : Int) = (z : Int) := ⟨(rd M (i : Int)).toNat, by omega⟩
    have hnx := ih (i + 1) k (by omega) (by omega)
    simp only [laws_FnShifts.l1]
    rw [hz] at hbd ⊢
    rw [if_pos (by omega), if_pos (by omega), if_neg (by omega), if_neg (by omega), wn i (by omega)]
    by_cases h0 : (i : Int) > 0
    · have hw : wrap64 ((i : Int) - 1) = ((i - 1 : Nat) : Int) := by rw [w64 (by omega) (by omega)]; omega
      have hbd2 := hM.bd (rd M ((i - 1 : Nat) : Int)) (rd_mem M _ (by omega) (by omega))
      have hgap := hM.gap i (by omega) (by omega)
      obtain ⟨y, hy⟩ : ∃ y : Nat, rd M ((i - 1 : Nat) : Int) = (y : Int) := ⟨(rd M ((i - 1 : Nat) : Int)).toNat, by omega⟩
      rw [hy] at hbd2
      rw [hz, hy] at hgap
      have g1 := (h.2 y (by omega)).1
      have g2 := (h.2 z (by omega)).1
      unfold Ok1 at g1 g2
      have e1 : wrap64 ((rd_T39 l (z : Int)).f0 - (rd_T39 l (y : Int)).f1) = Fr l (z : Int) - En l (y : Int) := w64 (x := Fr l (z : Int) - En l (y : Int)) (by omega) (by omega)
      rw [if_pos h0, hw, hy, e1, if_pos (by omega), if_pos (by omega), if_pos (by omega), if_pos (by omega), if_pos (by omega), if_pos (by omega), if_neg (by omega)]
      exact hnx
    · rw [if_neg h0]
      exact hnx
theorem l0_is (l : List ShM) (h : Good l) (a : Int) (ha : 0 ≤ a ∧ a ≤ 15) (M : List Int) (hM : Chosen l a l.length M) : ∀ (d i k : Nat), i + d = l.length → 2100 + d < k → laws_FnShifts.l0 k l (sumH l l.length) (rb l l.length) a M (sumH l i) (i : Int) = some true := by
  have hl := h.1
  have hml := hM.len
  intro d
  induction d with
  | zero =>
    intro i k hi hk
    obtain ⟨k, rfl⟩ : ∃ m, k = m + 1 := ⟨k - 1, by omega⟩
    simp only [laws_FnShifts.l0]
    rw [if_neg (by omega), show i = l.length by omega]
    exact l1_is l h a ha M hM M.length 0 k (Nat.zero_add _) (by omega)
  | succ d ih =>
    intro i k hi hk
    obtain ⟨k, rfl⟩ : ∃ m, k = m + 1 := ⟨k - 1, by omega⟩
    have hb := sumH_bd l h i (by omega)
    have g1 := (h.2 i (by omega)).1
    unfold Ok1 at g1
    have e1 : wrap64 (wrap64 (sumH l i + (rd_T39 l (i : Int)).f1) - (rd_T39 l (i : Int)).f0) = sumH l (i + 1) := by
      show wrap64 (wrap64 (sumH l i + En l (i : Int)) - Fr l (i : Int)) = _
      rw [w64 (x := sumH l i + En l (i : Int)) (by omega) (by omega), w64 (by omega) (by omega)]
      simp only [sumH]
      omega
    have hnx := ih (i + 1) k (by omega) (by omega)
    simp only [laws_FnShifts.l0, e1]
    rw [if_pos (by omega), if_pos (by omega), wn i (by omega)]
    by_cases h0 : (i : Int) > 0
    · have hw : wrap64 ((i : Int) - 1) = ((i - 1 : Nat) : Int) := by rw [w64 (by omega) (by omega)]; omega
      have hr := (rb_bd l h l.length (Nat.le_refl _)).2 i (by omega) (by omega)
      have g2 := (h.2 (i - 1) (by omega)).1
      unfold Ok1 at g2
      have e2 : wrap64 ((rd_T39 l (i : Int)).f0 - (rd_T39 l ((i - 1 : Nat) : Int)).f1) = Fr l (i : Int) - En l ((i - 1 : Nat) : Int) := w64 (x := Fr l (i : Int) - En l ((i - 1 : Nat) : Int)) (by omega) (by omega)
      rw [if_pos h0, hw, e2, if_pos (by omega), if_pos (by omega), if_neg (by omega)]
      exact hnx
    · rw [if_neg h0]
      exact hnx
theorem FnShifts : laws_FnShifts.Pure := by
  intro code hm hl hw
  by_cases hb : (code.length : Int) > 1048576
  · refine ⟨0, ?_⟩
    unfold laws_FnShifts.f
    rw [big_is, decide_eq_true hb]
    simp
  · obtain ⟨l, h, Kd, hd⟩ := draw_is code (by omega)
    obtain ⟨N, hN, Kn, hn⟩ := nights l h
    obtain ⟨v, ev, v0, v1⟩ := at_is code 0 (Int.le_refl _) (by omega) (by omega) hw
    have et : Int.tmod v 16 = v % 16 := tm v0
    obtain ⟨M, eM, hM⟩ := most_is l (v % 16) ⟨by omega, by omega⟩ h
    have hs := sumH_bd l h l.length (Nat.le_refl _)
    have hr := (rb_bd l h l.length (Nat.le_refl _)).1
    have hml := hM.len
    obtain ⟨k, hk⟩ : ∃ k, k = Kd + Kn + 3000 := ⟨_, rfl⟩
    have J : laws_FnShifts.j0 (k + 1) l (sumH l l.length) (rb l l.length) (v % 16) M false = some true := by
      simp only [laws_FnShifts.j0]
      rw [if_neg (by decide)]
      exact l0_is l h (v % 16) ⟨by omega, by omega⟩ M hM l.length 0 k (Nat.zero_add _) (by have := h.1; omega)
    refine ⟨k + 1, ?_⟩
    unfold laws_FnShifts.f
    rw [big_is, decide_eq_false hb]
    simp only [Option.bind_some, Bool.false_eq_true, if_false, hd (k + 1) (by omega), hours l h (k + 1) (by omega), hn (k + 1) (by omega), rests l h (k + 1) (by omega), ev, et, eM]
    rw [if_neg (by omega), if_neg (by omega), if_neg (by omega), if_neg (by omega), decide_eq_false (show ¬ ((M.length : Int) > (l.length : Int)) by omega)]
    by_cases h0 : (l.length : Int) > 0
    · rw [if_pos h0, if_neg (fun q => by have := hM.emp (by omega); omega)]
      exact J
    · rw [if_neg h0]
      exact J
end Go.Proofs.Ytdlolekpdophcaa.Pure
