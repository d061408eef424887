/- Common pairs: both say the same; the law. -/
import Derived.Test.YtkgigoefmpkngaaPureBk
import Derived.Test.YtkgigoefmpkngaaRowsM
namespace Go.Proofs.Ytkgigoefmpkngaa.Pure
set_option linter.unusedVariables false
set_option linter.unusedSimpArgs false
open Go.RowKit Go.Proofs.Ytkgigoefmpkngaa.PCP Go.Proofs.Ytkgigoefmpkngaa.Base Go.Proofs.YtkgigoefmpkngaaW.PrintWords Go.Proofs.YtkgigoefmpkngaaW.PrintLast

theorem markBk (k : Nat) (hk : 1048576 < k) : ∀ (l : List Bk) (m : Int), (∀ s ∈ l, s.f0.length ≤ 1048576) → 0 ≤ m → m + 1048577 * (l.length : Int) ≤ 1152921504606846976 → ∃ r, laws_markBasketS.f k l m = some r ∧ 0 ≤ r ∧ r ≤ m + 1048577 * (l.length : Int)
  | [], m, _, h0, _ => ⟨m, rfl, h0, by simp⟩
  | s :: l, m, hn, h0, h1 => by
    have hs := hn s (by simp)
    rw [List.length_cons] at h1
    obtain ⟨r, g1, g2, g3⟩ := markBk k hk l (m + (s.f0.length : Int)) (fun t ht => hn t (by simp [ht])) (by omega) (by omega)
    refine ⟨r, ?_, g2, by rw [List.length_cons]; omega⟩
    simp only [laws_markBasketS.f]
    rw [markInts s.f0 k m (by omega) (by omega) (by omega) (by omega), Option.bind_some]
    exact g1
theorem th_two (a b : Int) (ha : 1 ≤ a ∧ a ≤ 9) (hb : 1 ≤ b ∧ b ≤ 9) (h : a < b) : Th [a, b] := ⟨fun x hx => by
  simp only [List.mem_cons, List.not_mem_nil, or_false] at hx
  rcases hx with rfl | rfl
  · exact ha
  · exact hb, fun j hj _ h0 => by
  simp at hj
  obtain rfl : j = 1 := by omega
  exact h⟩
/-- How often. -/
def ct (l : List Bk) (T : List Int) : Int := ((l.countP (holdsAll T) : Nat) : Int)
theorem set_pair (i j : Nat) (hi : i ≤ 9) (hj : j ≤ 9) : Go.bits .or .i64 (shl .i64 1 (i : Int)) (shl .i64 1 (j : Int)) = ((setN [(i : Int), (j : Int)] 0 : Nat) : Int) := by
  have h1 : 2 ^ i < 2 ^ 10 := Nat.pow_lt_pow_right (by omega) (by omega)
  have h2 : 2 ^ j < 2 ^ 10 := Nat.pow_lt_pow_right (by omega) (by omega)
  rw [shl_nat i (by omega), shl_nat j (by omega), or_nat _ _ h1 h2]
  simp [setN]
theorem cwp (l : List Bk) (hs : l.length ≤ 1048576) (hn : ∀ s ∈ l, s.f0.length ≤ 1048576) (hO : Okb l) (i j : Nat) (hi : 1 ≤ i) (hij : i < j) (hj : j ≤ 9) (k : Nat) (hk : 2097190 < k) : impl_CountWith.f k l [(i : Int), (j : Int)] = some (ct l [(i : Int), (j : Int)]) ∧ spec_l20Count.f k l (Go.bits .or .i64 (shl .i64 1 (i : Int)) (shl .i64 1 (j : Int))) = some (ct l [(i : Int), (j : Int)]) := by
  have := cw l [(i : Int), (j : Int)] hs hn hO (th_two _ _ (by omega) (by omega) (by omega)) (by simp) k (by omega)
  rw [← set_pair i j (by omega) (by omega)] at this
  exact this
def prs1 (l : List Bk) (least : Int) (i : Nat) : Nat → Nat → List (List Int)
  | 0, _ => []
  | d + 1, j => (if ct l [(i : Int), (j : Int)] ≥ least then [[(i : Int), (j : Int)]] else []) ++ prs1 l least i d (j + 1)
def prs0 (l : List Bk) (least : Int) : Nat → Nat → List (List Int)
  | 0, _ => []
  | d + 1, i => prs1 l least i (9 - i) (i + 1) ++ prs0 l least d (i + 1)
theorem prs1_len (l : List Bk) (least : Int) (i : Nat) : ∀ (d j : Nat), (prs1 l least i d j).length ≤ d
  | 0, _ => Nat.le_refl _
  | d + 1, j => by
    have := prs1_len l least i d (j + 1)
    simp only [prs1, List.length_append]
    split <;> simp <;> omega
theorem prs0_len (l : List Bk) (least : Int) : ∀ (d i : Nat), (prs0 l least d i).length ≤ 9 * d
  | 0, _ => Nat.le_refl _
  | d + 1, i => by
    have h1 := prs0_len l least d (i + 1)
    have h2 := prs1_len l least i (9 - i) (i + 1)
    simp only [prs0, List.length_append]
    omega
theorem cp_l1 (l : List Bk) (least : Int) (hs : l.length ≤ 1048576) (hn : ∀ s ∈ l, s.f0.length ≤ 1048576) (hO : Okb l) (i : Nat) (hi : 1 ≤ i) (hi9 : i ≤ 9) (R : List (List Int)) (K : Nat) (hK : 2097200 < K) :
    ∀ (d j : Nat) (acc : List (List Int)), j + d = 10 → i < j → acc.length + d ≤ 1000 → (∀ k, K ≤ k → impl_CommonPairs.l0 k l least (acc ++ prs1 l least i d j) ((i + 1 : Nat) : Int) = some R) → ∀ k, K + d < k → impl_CommonPairs.l1 k l least acc (i : Int) (j : Int) = some R := by
  intro d
  induction d with
  | zero =>
    intro j acc hj hij ha h k hk
    obtain ⟨k, rfl⟩ : ∃ m, k = m + 1 := ⟨k - 1, by omega⟩
    have h' := h k (by omega)
    simp only [prs1, List.append_nil] at h'
    simp only [impl_CommonPairs.l1]
    rw [if_neg (by omega), wn i (by omega)]
    exact h'
  | succ d ih =>
    intro j acc hj hij ha h k hk
    obtain ⟨k, rfl⟩ : ∃ m, k = m + 1 := ⟨k - 1, by omega⟩
    simp only [impl_CommonPairs.l1]
    rw [if_pos (by omega), (cwp l hs hn hO i j hi hij (by omega) k (by omega)).1, Option.bind_some, wn j (by omega)]
    simp only [prs1] at h
    by_cases hc : ct l [(i : Int), (j : Int)] ≥ least
    · rw [if_pos hc] at h
      rw [if_pos hc, if_pos (by omega)]
      exact ih (j + 1) _ (by omega) (by omega) (by simp; omega) (fun k hk => by rw [List.append_assoc]; exact h k hk) k (by omega)
    · rw [if_neg hc] at h
      rw [if_neg hc]
      exact ih (j + 1) acc (by omega) (by omega) (by omega) (fun k hk => by have := h k hk; rwa [List.nil_append] at this) k (by omega)
theorem cp_l0 (l : List Bk) (least : Int) (hs : l.length ≤ 1048576) (hn : ∀ s ∈ l, s.f0.length ≤ 1048576) (hO : Okb l) : ∀ (d i : Nat) (acc : List (List Int)), i + d = 10 → 1 ≤ i → acc.length + 9 * d ≤ 100 → ∃ K, 2097200 < K ∧ ∀ k, K ≤ k → impl_CommonPairs.l0 k l least acc (i : Int) = some (acc ++ prs0 l least d i) := by
  intro d
  induction d with
  | zero =>
    intro i acc hi h1 ha
    refine ⟨2097201, by omega, fun k hk => ?_⟩
    obtain ⟨k, rfl⟩ : ∃ m, k = m + 1 := ⟨k - 1, by omega⟩
    simp only [impl_CommonPairs.l0, prs0, List.append_nil]
    rw [if_neg (by omega)]
  | succ d ih =>
    intro i acc hi h1 ha
    have hl := prs1_len l least i (9 - i) (i + 1)
    obtain ⟨K, hK, h⟩ := ih (i + 1) (acc ++ prs1 l least i (9 - i) (i + 1)) (by omega) (by omega) (by rw [List.length_append]; omega)
    refine ⟨K + 20, by omega, fun k hk => ?_⟩
    obtain ⟨k, rfl⟩ : ∃ m, k = m + 1 := ⟨k - 1, by omega⟩
    simp only [impl_CommonPairs.l0, prs0]
    rw [if_pos (by omega), wn i (by omega), ← List.append_assoc]
    exact cp_l1 l least hs hn hO i h1 (by omega) _ K hK (9 - i) (i + 1) acc (by omega) (by omega) (by omega) h k (by omega)
theorem sp_l1 (l : List Bk) (least : Int) (hs : l.length ≤ 1048576) (hn : ∀ s ∈ l, s.f0.length ≤ 1048576) (hO : Okb l) (i : Nat) (hi : 1 ≤ i) (hi9 : i ≤ 9) (R : List (List Int)) (K : Nat) (hK : 2097200 < K) :
    ∀ (d j : Nat) (acc : List (List Int)), j + d = 10 → i < j → acc.length + d ≤ 1000 → (∀ k, K ≤ k → spec_CommonPairs.l0 k l least (acc ++ prs1 l least i d j) ((i + 1 : Nat) : Int) = some R) → ∀ k, K + d < k → spec_CommonPairs.l1 k l least acc (i : Int) (j : Int) = some R := by
  intro d
  induction d with
  | zero =>
    intro j acc hj hij ha h k hk
    obtain ⟨k, rfl⟩ : ∃ m, k = m + 1 := ⟨k - 1, by omega⟩
    have h' := h k (by omega)
    simp only [prs1, List.append_nil] at h'
    simp only [spec_CommonPairs.l1]
    rw [if_neg (by omega), wn i (by omega)]
    exact h'
  | succ d ih =>
    intro j acc hj hij ha h k hk
    obtain ⟨k, rfl⟩ : ∃ m, k = m + 1 := ⟨k - 1, by omega⟩
    simp only [spec_CommonPairs.l1]
    rw [if_pos (by omega), if_pos (by omega), if_pos (by omega), (cwp l hs hn hO i j hi hij (by omega) k (by omega)).2, Option.bind_some, wn j (by omega)]
    simp only [prs1] at h
    by_cases hc : ct l [(i : Int), (j : Int)] ≥ least
    · rw [if_pos hc] at h
      rw [if_pos hc, if_pos (by omega)]
      exact ih (j + 1) _ (by omega) (by omega) (by simp; omega) (fun k hk => by rw [List.append_assoc]; exact h k hk) k (by omega)
    · rw [if_neg hc] at h
      rw [if_neg hc]
      exact ih (j + 1) acc (by omega) (by omega) (by omega) (fun k hk => by have := h k hk; rwa [List.nil_append] at this) k (by omega)
theorem sp_l0 (l : List Bk) (least : Int) (hs : l.length ≤ 1048576) (hn : ∀ s ∈ l, s.f0.length ≤ 1048576) (hO : Okb l) : ∀ (d i : Nat) (acc : List (List Int)), i + d = 10 → 1 ≤ i → acc.length + 9 * d ≤ 100 → ∃ K, 2097200 < K ∧ ∀ k, K ≤ k → spec_CommonPairs.l0 k l least acc (i : Int) = some (acc ++ prs0 l least d i) := by
  intro d
  induction d with
  | zero =>
    intro i acc hi h1 ha
    refine ⟨2097201, by omega, fun k hk => ?_⟩
    obtain ⟨k, rfl⟩ : ∃ m, k = m + 1 := ⟨k - 1, by omega⟩
    simp only [spec_CommonPairs.l0, prs0, List.append_nil]
    rw [if_neg (by omega)]
  | succ d ih =>
    intro i acc hi h1 ha
    have hl := prs1_len l least i (9 - i) (i + 1)
    obtain ⟨K, hK, h⟩ := ih (i + 1) (acc ++ prs1 l least i (9 - i) (i + 1)) (by omega) (by omega) (by rw [List.length_append]; omega)
    refine ⟨K + 20, by omega, fun k hk => ?_⟩
    obtain ⟨k, rfl⟩ : ∃ m, k = m + 1 := ⟨k - 1, by omega⟩
    simp only [spec_CommonPairs.l0, prs0]
    rw [if_pos (by omega), wn i (by omega), ← List.append_assoc]
    exact sp_l1 l least hs hn hO i h1 (by omega) _ K hK (9 - i) (i + 1) acc (by omega) (by omega) (by omega) h k (by omega)
theorem prs1_two (l : List Bk) (least : Int) (i : Nat) : ∀ (d j : Nat), ∀ x ∈ prs1 l least i d j, x.length = 2
  | 0, j, x, h => by cases h
  | d + 1, j, x, h => by
    simp only [prs1, List.mem_append] at h
    rcases h with h | h
    · split at h
      · rw [List.mem_singleton] at h; rw [h]; rfl
      · cases h
    · exact prs1_two l least i d (j + 1) x h
theorem prs0_two (l : List Bk) (least : Int) : ∀ (d i : Nat), ∀ x ∈ prs0 l least d i, x.length = 2
  | 0, i, x, h => by cases h
  | d + 1, i, x, h => by
    simp only [prs0, List.mem_append] at h
    rcases h with h | h
    · exact prs1_two l least i _ _ x h
    · exact prs0_two l least d (i + 1) x h
theorem cp_both (l : List Bk) (least : Int) (hs : l.length ≤ 1048576) (hn : ∀ s ∈ l, s.f0.length ≤ 1048576) : ∃ K v, (∀ k, K ≤ k → spec_CommonPairs.f k l least = some v ∧ impl_CommonPairs.f k l least = some v) ∧ v.length ≤ 81 ∧ ∀ x ∈ v, x.length = 2 := by
  obtain ⟨q, hq⟩ : ∃ q : Bool, q = true ↔ Okb l := by
    obtain ⟨r, _, h⟩ := impl_ok l hn 1048578 (by omega)
    exact ⟨r, h⟩
  have hA : ∀ k, l.length + 1048577 < k → spec_BasketsOk.f k l = some q ∧ impl_BasketsOk.f k l = some q := fun k hk => by
    obtain ⟨r, g1, g2⟩ := ok_both l hs hn k hk
    obtain ⟨r', g3, hr⟩ := impl_ok l hn k (by omega)
    rw [g2] at g3
    obtain rfl := Option.some.inj g3
    have e : r = q := Bool.eq_iff_iff.2 (hr.trans hq.symm)
    rw [g1, g2, e]
    exact ⟨rfl, rfl⟩
  cases q with
  | false =>
    refine ⟨l.length + 1048579, [], fun k hk => ?_, by simp, fun x hx => (by cases hx)⟩
    have h1 := hA k (by omega)
    obtain ⟨k, rfl⟩ : ∃ m, k = m + 1 := ⟨k - 1, by omega⟩
    simp [spec_CommonPairs.f, impl_CommonPairs.f, h1.1, h1.2, spec_CommonPairs.j0, impl_CommonPairs.j0]
  | true =>
    have hO := hq.1 rfl
    cases hi : inB 1 30 least with
    | false =>
      refine ⟨l.length + 1048579, [], fun k hk => ?_, by simp, fun x hx => (by cases hx)⟩
      have h1 := hA k (by omega)
      obtain ⟨k, rfl⟩ : ∃ m, k = m + 1 := ⟨k - 1, by omega⟩
      simp [spec_CommonPairs.f, impl_CommonPairs.f, h1.1, h1.2, spec_CommonPairs.j0, impl_CommonPairs.j0, spec_in, in_is, hi]
    | true =>
      obtain ⟨K1, _, g1⟩ := sp_l0 l least hs hn hO 9 1 [] rfl (Nat.le_refl _) (by simp)
      obtain ⟨K2, _, g2⟩ := cp_l0 l least hs hn hO 9 1 [] rfl (Nat.le_refl _) (by simp)
      refine ⟨K1 + K2 + l.length + 4000000, prs0 l least 9 1, fun k hk => ?_, prs0_len l least 9 1, prs0_two l least 9 1⟩
      have h1 := hA k (by omega)
      obtain ⟨k, rfl⟩ : ∃ m, k = m + 1 := ⟨k - 1, by omega⟩
      have e1 := g1 k (by omega)
      have e2 := g2 k (by omega)
      rw [List.nil_append] at e1 e2
      constructor
      · simp only [spec_CommonPairs.f, h1.1, Option.bind_some, if_true, spec_in, hi, Bool.not_true, spec_CommonPairs.j0]
        rw [if_neg (by simp)]
        exact e1
      · simp only [impl_CommonPairs.f, h1.2, Option.bind_some, if_true, in_is, hi, Bool.not_true, impl_CommonPairs.j0]
        rw [if_neg (by simp)]
        exact e2
theorem FnExactCommonPairs : laws_FnExactCommonPairs.Pure := by
  intro l least hm hl hw _
  unfold laws_FnExactCommonPairs.f
  refine frame l hm hw _ (fun h1 h2 => ?_)
  obtain ⟨K, v, hK, hv, hv2⟩ := cp_both (l.map cvBk) least (by simpa using h1) (map_short l h2)
  have hvs : ∀ x ∈ v, x.length ≤ 1048576 := fun x hx => by rw [hv2 x hx]; omega
  have hvl := lenR_le 2 v (fun x hx => by rw [hv2 x hx]; omega)
  obtain ⟨k, hk1, hk2, hk3⟩ : ∃ k, K ≤ k ∧ l.length + 1048577 < k ∧ 1048700 < k := ⟨K + (l.length + 1048578) + 1000, by omega, by omega, by omega⟩
  have m1 := markR_is k (by omega) v 1 hvs (by omega) (by omega)
  have m2 := heldR_is v k 1 hvs (by omega) (by omega) (by omega) (by omega)
  obtain ⟨r, hr, hr0, _⟩ := markBk (k + 1) (by omega) (l.map cvBk) 1 (map_short l h2) (by omega) (by rw [List.length_map]; omega)
  refine ⟨k + 1, by omega, ?_⟩
  rw [toBk_is l (k + 1) h1 h2 (by omega)]
  simp only [Option.bind_some, (hK (k + 1) (by omega)).1, (hK (k + 1) (by omega)).2]
  rw [eqR_is v (k + 1) (by omega) hvs (by omega), eqBk_is _ (k + 1) (by simpa using h1) (map_short l h2) (by rw [List.length_map]; omega), hr]
  simp only [Option.bind_some, decide_true, if_true, Bool.not_true]
  rw [if_neg (by omega)]
  simp only [laws_FnExactCommonPairs.j0, toBk_is l k h1 h2 hk2, (hK k hk1).2, m1, m2, eqR_is v k (by omega) hvs (by omega), Option.bind_some, decide_true, if_true, Bool.false_eq_true, if_false]
  rw [if_neg (by omega), if_neg (by omega)]
end Go.Proofs.Ytkgigoefmpkngaa.Pure
