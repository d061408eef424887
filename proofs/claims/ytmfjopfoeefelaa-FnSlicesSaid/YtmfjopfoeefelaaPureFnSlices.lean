/- Whole slices and the rest are the loaf, and even slices differ by one at most. -/
import Derived.Test.YtmfjopfoeefelaaPureB
namespace Go.Proofs.Ytmfjopfoeefelaa.Pure
set_option linter.unusedVariables false
set_option linter.unusedSimpArgs false
open Go.RowKit Go.Proofs.Ytmfjopfoeefelaa.PB Go.Proofs.Ytmfjopfoeefelaa.Base Go.Proofs.YtmfjopfoeefelaaW.PrintWords Go.Proofs.YtmfjopfoeefelaaW.PrintLast

theorem lengths_l (L : List Int) (hl : L.length ≤ 1048576) : ∀ (d : Nat) (k : Nat) (m : Int) (x : List Int) (i h : Int), m = d → d < k → x.length + d ≤ 1000 → (∀ y ∈ x, 1 ≤ y ∧ y ≤ 120) → Cur L i →
    ∃ r, spec_DrawLengths.l0 k x m L i h = some r ∧ r.length = x.length + d ∧ ∀ y ∈ r, 1 ≤ y ∧ y ≤ 120 := by
  intro d
  induction d with
  | zero =>
    intro k m x i h hm hk hx hy hc
    obtain ⟨k, rfl⟩ : ∃ m, k = m + 1 := ⟨k - 1, by omega⟩
    simp only [spec_DrawLengths.l0]
    rw [if_neg (by omega)]
    exact ⟨x, rfl, by omega, hy⟩
  | succ d ih =>
    intro k m x i h hm hk hx hy hc
    obtain ⟨k, rfl⟩ : ∃ m, k = m + 1 := ⟨k - 1, by omega⟩
    obtain ⟨v, i', h', e, v0, v1, hc'⟩ := below_is L i h 120 hl hc (by omega)
    simp only [spec_DrawLengths.l0]
    rw [if_pos (by omega), e]
    simp only [Option.bind_some]
    rw [if_pos (by omega), w64 (show -9223372036854775808 ≤ 1 + v by omega) (by omega), w64 (show -9223372036854775808 ≤ m - 1 by omega) (by omega)]
    obtain ⟨r, g1, g2, g3⟩ := ih k (m - 1) (x ++ [1 + v]) i' h' (by omega) (by omega) (by simp; omega) (fun y hm => by
      rcases List.mem_append.1 hm with hm | hm
      · exact hy y hm
      · rw [List.mem_singleton.1 hm]; omega) hc'
    exact ⟨r, g1, by rw [g2]; simp; omega, g3⟩
theorem lengths_is (L : List Int) (k : Nat) (hl : L.length ≤ 1048576) (hk : 1048600 ≤ k) : ∃ r, spec_DrawLengths.f k L = some r ∧ r.length ≤ 6 ∧ ∀ y ∈ r, 1 ≤ y ∧ y ≤ 120 := by
  obtain ⟨h, e⟩ := new_is L k hl (by omega)
  obtain ⟨v, i', h', e2, v0, v1, hc⟩ := below_is L 0 h 7 hl (cur0 L) (by omega)
  obtain ⟨r, g1, g2, g3⟩ := lengths_l L hl v.toNat k v [] i' h' (by omega) (by omega) (by simp; omega) (fun y hy => by simp at hy) hc
  refine ⟨r, ?_, by rw [g2]; simp; omega, g3⟩
  simp only [spec_DrawLengths.f, e, e2, Option.bind_some, g1]

/-- The cuts that valid lengths need. -/
def cutSum (t : Int) : List Int → Int
  | [] => 0
  | y :: ys => y / t - (if y % t = 0 ∧ y / t > 0 then 1 else 0) + cutSum t ys
def sliceSum (t : Int) : List Int → Int
  | [] => 0
  | y :: ys => y / t + sliceSum t ys
def exactSum (t : Int) : List Int → Int
  | [] => 0
  | y :: ys => (if y % t = 0 ∧ y / t > 0 then 1 else 0) + exactSum t ys
theorem cut_split (t : Int) : ∀ l, cutSum t l = sliceSum t l - exactSum t l
  | [] => rfl
  | y :: ys => by simp only [cutSum, sliceSum, exactSum, cut_split t ys]; omega

theorem slice_ok (y t : Int) (hy : 1 ≤ y ∧ y ≤ 120) (ht : 1 ≤ t ∧ t ≤ 40) : slicesV y t = y / t ∧ 0 ≤ y / t ∧ y / t ≤ 120 ∧ lastV y t = y % t ∧ (y / t) * t = y - y % t ∧ 0 ≤ y % t ∧ y % t < t := by
  have h1 : inB 1 1000 y = true := by rw [inB_iff]; omega
  have h2 : inB 1 100 t = true := by rw [inB_iff]; omega
  obtain ⟨e, g0, g1, g2, g3, g4⟩ := slices_bd y t h1 h2
  have : y / t ≤ y := Int.ediv_le_self _ (by omega)
  exact ⟨e, g0, by omega, by simp [lastV, h1, h2], g2, g3, g4⟩
theorem cuts_val_l (t : Int) (ht : 1 ≤ t ∧ t ≤ 40) (l : List Int) (hl : l.length ≤ 6) (hy : ∀ y ∈ l, 1 ≤ y ∧ y ≤ 120) : ∀ (d : Nat) (k n : Nat) (s : Int), n + d = l.length → d < k → -100000 ≤ s → s ≤ 100000 - 1000 * (d : Int) →
    impl_CutsNeeded.l0 k l t s l (l.length : Int) (n : Int) = some (s + cutSum t (l.drop n)) := by
  intro d
  induction d with
  | zero =>
    intro k n s hn hk h0 h1
    obtain ⟨k, rfl⟩ : ∃ m, k = m + 1 := ⟨k - 1, by omega⟩
    simp only [impl_CutsNeeded.l0]
    rw [if_neg (by omega), if_neg (by omega), List.drop_of_length_le (by omega)]
    simp [cutSum]
  | succ d ih =>
    intro k n s hn hk h0 h1
    obtain ⟨k, rfl⟩ : ∃ m, k = m + 1 := ⟨k - 1, by omega⟩
    have hn' : n < l.length := by omega
    obtain ⟨e1, e2, e3, e4, e5, e6, e7⟩ := slice_ok (l[n]) t (hy _ (List.getElem_mem hn')) ht
    simp only [impl_CutsNeeded.l0]
    rw [if_pos (show (n : Int) < (l.length : Int) by omega), if_pos (show (0 : Int) ≤ (n : Int) by omega), if_pos (show (n : Int) < (l.length : Int) by omega)]
    simp only [slices_both, last_both, Option.bind_some, rd_get l n hn', e1, e4]
    rw [wn n (by omega), List.drop_eq_getElem_cons hn', cutSum, if_neg (by omega)]
    by_cases h2 : l[n] / t > 0
    · rw [if_pos h2]
      by_cases h3 : l[n] % t = 0
      · have hw : wrap64 (wrap64 (s + l[n] / t) - 1) = s + l[n] / t - 1 := by unfold wrap64; omega
        rw [if_pos h3, hw, ih k (n + 1) _ (by omega) (by omega) (by omega) (by omega), if_pos ⟨h3, h2⟩]
        congr 1
        omega
      · have hw : wrap64 (s + l[n] / t) = s + l[n] / t := w64 (by omega) (by omega)
        rw [if_neg h3, hw, ih k (n + 1) _ (by omega) (by omega) (by omega) (by omega), if_neg (by omega)]
        congr 1
        omega
    · have hw : wrap64 (s + l[n] / t) = s + l[n] / t := w64 (by omega) (by omega)
      rw [if_neg h2, hw, ih k (n + 1) _ (by omega) (by omega) (by omega) (by omega), if_neg (by omega)]
      congr 1
      omega
theorem cuts_val (t : Int) (ht : 1 ≤ t ∧ t ≤ 40) (l : List Int) (hl : l.length ≤ 6) (hy : ∀ y ∈ l, 1 ≤ y ∧ y ≤ 120) (k : Nat) (hk : 10 < k) : impl_CutsNeeded.f k l t = some (cutSum t l) := by
  unfold impl_CutsNeeded.f
  have := cuts_val_l t ht l hl hy l.length k 0 0 (by omega) (by omega) (by omega) (by omega)
  simpa using this

theorem sums_bd (t : Int) (ht : 1 ≤ t ∧ t ≤ 40) : ∀ (l : List Int), (∀ y ∈ l, 1 ≤ y ∧ y ≤ 120) → 0 ≤ sliceSum t l ∧ sliceSum t l ≤ 120 * (l.length : Int) ∧ 0 ≤ exactSum t l ∧ exactSum t l ≤ (l.length : Int)
  | [], _ => by simp [sliceSum, exactSum]
  | y :: ys, h => by
    obtain ⟨e1, e2, e3, e4, e5, e6, e7⟩ := slice_ok y t (h y (by simp)) ht
    have := sums_bd t ht ys (fun z hz => h z (by simp [hz]))
    simp only [sliceSum, exactSum, List.length_cons]
    split <;> omega

/-- The last loop of the law: the sums, then the tests. -/
theorem law_l1 (t a n d c : Int) (ht : 1 ≤ t ∧ t ≤ 40) (l : List Int) (hl : l.length ≤ 6) (hy : ∀ y ∈ l, 1 ≤ y ∧ y ≤ 120) (hc : c = cutSum t l) (ha : 1 ≤ a ∧ a ≤ 1000) (hd1 : 1 ≤ d) (hd2 : d ≤ 100) (hda : a / d ≥ n) (hdb : d = 100 ∨ a / (d + 1) < n) :
    ∀ (e : Nat) (k i : Nat) (s x : Int), i + e = l.length → e + 10 < k → s + sliceSum t (l.drop i) = sliceSum t l → x + exactSum t (l.drop i) = exactSum t l → 0 ≤ s → 0 ≤ x → laws_FnSlices.l1 k a t n d l c s x (i : Int) = some true := by
  have hb := sums_bd t ht l hy
  intro e
  induction e with
  | zero =>
    intro k i s x hi hk hs hx h0 h1
    obtain ⟨k, rfl⟩ : ∃ m, k = m + 5 := ⟨k - 5, by omega⟩
    rw [List.drop_of_length_le (by omega)] at hs hx
    simp only [sliceSum, exactSum] at hs hx
    simp only [laws_FnSlices.l1]
    have hq : 0 ≤ a / d := Int.ediv_nonneg (by omega) (by omega)
    have hq2 : a / d ≤ a := Int.ediv_le_self _ (by omega)
    have hq3 : 0 ≤ a / (d + 1) := Int.ediv_nonneg (by omega) (by omega)
    have hq4 : a / (d + 1) ≤ a := Int.ediv_le_self _ (by omega)
    have hcs := cut_split t l
    rw [if_neg (by omega), if_pos (by omega), if_neg (by omega), td (by omega), w64 (show -9223372036854775808 ≤ a / d by omega) (by omega), if_pos hda]
    have hcr1 : impl_CrustParts.f (k + 4) 3 4 5 = some 54 := by rw [(crust_both 3 4 5 k).2]; simp [crustV, inB, mx]
    have hcr2 : impl_CrustParts.f (k + 4) 1 1 9 = some 9 := by rw [(crust_both 1 1 9 k).2]; simp [crustV, inB, mx]
    have hw : c = wrap64 (s - x) := by rw [w64 (by omega) (by omega)]; omega
    rw [hcr1, hcr2]
    simp only [Option.bind_some]
    by_cases hd : d = 100
    · rw [if_pos hd, if_pos hw]
      simp
    · rw [if_neg hd, w64 (show -9223372036854775808 ≤ d + 1 by omega) (by omega), if_neg (by omega), td (show 0 ≤ a by omega), w64 (show -9223372036854775808 ≤ a / (d + 1) by omega) (by omega), if_pos (by omega), if_pos hw]
      simp
  | succ e ih =>
    intro k i s x hi hk hs hx h0 h1
    obtain ⟨k, rfl⟩ : ∃ m, k = m + 1 := ⟨k - 1, by omega⟩
    have hi' : i < l.length := by omega
    obtain ⟨e1, e2, e3, e4, e5, e6, e7⟩ := slice_ok (l[i]) t (hy _ (List.getElem_mem hi')) ht
    have hyi := hy _ (List.getElem_mem hi')
    rw [List.drop_eq_getElem_cons hi'] at hs hx
    simp only [sliceSum, exactSum] at hs hx
    have hb2 := sums_bd t ht (l.drop (i + 1)) (fun z hz => hy z (List.mem_of_mem_drop hz))
    simp only [laws_FnSlices.l1]
    rw [if_pos (by omega), if_pos (by omega), rd_get l i hi', (slices_both _ t).2, e1]
    simp only [Option.bind_some]
    rw [wn i (by omega), w64 (show -9223372036854775808 ≤ s + l[i] / t by omega) (by omega), w64 (show -9223372036854775808 ≤ l[i] / t * t by omega) (by omega)]
    by_cases h2 : l[i] / t > 0
    · rw [if_pos h2]
      by_cases h3 : l[i] % t = 0
      · rw [if_pos ⟨h3, h2⟩] at hx
        have : (l[i] / t * t == l[i]) = true := by rw [beq_iff_eq]; omega
        simp only [this, laws_btoi.f, if_true, Option.bind_some]
        rw [w64 (show -9223372036854775808 ≤ x + 1 by omega) (by omega)]
        exact ih k (i + 1) _ _ (by omega) (by omega) (by omega) (by omega) (by omega) (by omega)
      · rw [if_neg (by omega)] at hx
        have : (l[i] / t * t == l[i]) = false := by rw [beq_eq_false_iff_ne]; omega
        simp only [this, laws_btoi.f, Option.bind_some]
        simp only [Bool.false_eq_true, if_false, Option.bind_some]
        rw [w64 (show -9223372036854775808 ≤ x + 0 by omega) (by omega)]
        exact ih k (i + 1) _ _ (by omega) (by omega) (by omega) (by omega) (by omega) (by omega)
    · rw [if_neg h2]
      rw [if_neg (by omega)] at hx
      simp only [laws_btoi.f, Bool.false_eq_true, if_false, Option.bind_some]
      rw [w64 (show -9223372036854775808 ≤ x + 0 by omega) (by omega)]
      exact ih k (i + 1) _ _ (by omega) (by omega) (by omega) (by omega) (by omega) (by omega)

/-- One step between two cuts. -/
theorem step_bd (a n i : Int) (hn : 1 ≤ n) (ha : 1 ≤ a) : a / n ≤ (i + 1) * a / n - i * a / n ∧ (i + 1) * a / n - i * a / n ≤ (a + n - 1) / n := by
  have e : (i + 1) * a = i * a + a := by rw [Int.add_mul, Int.one_mul]
  rw [e]
  generalize i * a = x
  have d1 := Int.mul_ediv_add_emod x n
  have d2 := Int.mul_ediv_add_emod a n
  have d3 := Int.mul_ediv_add_emod (x + a) n
  have d4 := Int.mul_ediv_add_emod (a + n - 1) n
  have m1 := Int.emod_nonneg x (show n ≠ 0 by omega)
  have m2 := Int.emod_nonneg a (show n ≠ 0 by omega)
  have m3 := Int.emod_nonneg (x + a) (show n ≠ 0 by omega)
  have m4 := Int.emod_nonneg (a + n - 1) (show n ≠ 0 by omega)
  have l1 := Int.emod_lt_of_pos x (show 0 < n by omega)
  have l2 := Int.emod_lt_of_pos a (show 0 < n by omega)
  have l3 := Int.emod_lt_of_pos (x + a) (show 0 < n by omega)
  have l4 := Int.emod_lt_of_pos (a + n - 1) (show 0 < n by omega)
  constructor
  · have : a / n + x / n ≤ (x + a) / n := by
      rw [Int.le_ediv_iff_mul_le (by omega), Int.add_mul, Int.mul_comm (a / n), Int.mul_comm (x / n)]
      omega
    omega
  · have : (x + a) / n < x / n + (a + n - 1) / n + 1 := by
      rw [Int.ediv_lt_iff_lt_mul (by omega), Int.add_mul, Int.add_mul, Int.mul_comm (x / n), Int.mul_comm ((a + n - 1) / n)]
      omega
    omega

/-- The first loop of the law: each piece is as long as it should be. -/
theorem law_l0 (L : List Int) (hL : L.length ≤ 1048576) (a t n : Int) (ha : 1 ≤ a ∧ a ≤ 1000) (ht : 1 ≤ t ∧ t ≤ 40) (hn : 1 ≤ n ∧ n ≤ a) : ∀ (d : Nat) (k i : Nat) (b : Int), (i : Int) + d = n → d + 1048700 < k → b = (i : Int) * a / n → laws_FnSlices.l0 k L a t n (evens a n 1 (n - 1).toNat) b (i : Int) = some true := by
  intro d
  induction d with
  | zero =>
    intro k i b hi hk hb
    obtain ⟨k, rfl⟩ : ∃ m, k = m + 1 := ⟨k - 1, by omega⟩
    simp only [laws_FnSlices.l0]
    rw [if_neg (by omega), impl_thick a n k (by omega)]
    obtain ⟨l, e, hl, hy⟩ := lengths_is L k hL (by omega)
    simp only [Option.bind_some, e]
    rw [cuts_val t ht l hl hy k (by omega)]
    simp only [Option.bind_some]
    have hi1 : inB 1 1000 a = true := by rw [inB_iff]; omega
    have hi2 : inB 1 1000 n = true := by rw [inB_iff]; omega
    have h1 : 1 ≤ a / n := by rw [Int.le_ediv_iff_mul_le (by omega)]; omega
    have hv : thickV a n = mn 100 (a / n) := by
      simp [thickV, hi1, hi2]
      intro h
      omega
    rw [hv]
    have hmn : mn 100 (a / n) = 100 ∧ 100 ≤ a / n ∨ mn 100 (a / n) = a / n ∧ a / n < 100 := by unfold mn; omega
    have hge : a / (mn 100 (a / n)) ≥ n := by
      rw [ge_iff_le, Int.le_ediv_iff_mul_le (by unfold mn; omega), Int.mul_comm, ← Int.le_ediv_iff_mul_le (by omega)]
      unfold mn; omega
    refine law_l1 t a n (mn 100 (a / n)) _ ht l hl hy rfl ha (by unfold mn; omega) (by unfold mn; omega) hge ?_ l.length k 0 0 0 (by omega) (by omega) (by simp) (by simp) (by omega) (by omega)
    rcases hmn with ⟨h2, _⟩ | ⟨h2, h3⟩
    · exact .inl h2
    · right
      rw [h2, Int.ediv_lt_iff_lt_mul (by omega)]
      have := Int.lt_mul_ediv_self_add (x := a) (k := n) (by omega)
      rw [Int.mul_add, Int.mul_one]
      omega
  | succ d ih =>
    intro k i b hi hk hb
    obtain ⟨k, rfl⟩ : ∃ m, k = m + 1 := ⟨k - 1, by omega⟩
    have hst := step_bd a n i (by omega) (by omega)
    have m0 := mul_bd (show (0 : Int) ≤ (i : Int) by omega) (show (i : Int) ≤ 1000 by omega) (show 0 ≤ a by omega) ha.2
    have m1 := mul_bd (show (0 : Int) ≤ (i : Int) + 1 by omega) (show (i : Int) + 1 ≤ 1001 by omega) (show 0 ≤ a by omega) ha.2
    have q0 : 0 ≤ (i : Int) * a / n := Int.ediv_nonneg m0.1 (by omega)
    have q1 : (i : Int) * a / n ≤ (i : Int) * a := Int.ediv_le_self _ m0.1
    have q2 : 0 ≤ ((i : Int) + 1) * a / n := Int.ediv_nonneg m1.1 (by omega)
    have q3 : ((i : Int) + 1) * a / n ≤ ((i : Int) + 1) * a := Int.ediv_le_self _ m1.1
    have q4 : 0 ≤ a / n := Int.ediv_nonneg (by omega) (by omega)
    have q5 : a / n ≤ a := Int.ediv_le_self _ (by omega)
    have q6 : 0 ≤ (a + n - 1) / n := Int.ediv_nonneg (by omega) (by omega)
    have q7 : (a + n - 1) / n ≤ a + n - 1 := Int.ediv_le_self _ (by omega)
    have t1 : wrap64 (Int.tdiv a n) = a / n := by rw [td (by omega), w64 (by omega) (by omega)]
    have t2 : wrap64 (Int.tdiv (wrap64 (wrap64 (a + n) - 1)) n) = (a + n - 1) / n := by
      rw [show wrap64 (wrap64 (a + n) - 1) = a + n - 1 by unfold wrap64; omega, td (by omega), w64 (by omega) (by omega)]
    subst hb
    simp only [laws_FnSlices.l0]
    rw [if_pos (by omega), t1, t2, w64 (show -9223372036854775808 ≤ n - 1 by omega) (by omega), wn i (by omega)]
    by_cases hlast : (i : Int) < n - 1
    · have hlen : (evens a n 1 (n - 1).toNat).length = (n - 1).toNat := evens_length _ _ _ _
      have hget : rd (evens a n 1 (n - 1).toNat) (i : Int) = ((i : Int) + 1) * a / n := by
        have := evens_get a n (n - 1).toNat 1 i (by omega)
        simp only [rd, List.getD_eq_getElem?_getD, Int.toNat_natCast, this, Option.getD_some]
        congr 2
        omega
      rw [if_pos hlast, if_pos (by omega), if_pos (by omega), if_neg (by omega), hget, w64 (show -9223372036854775808 ≤ ((i : Int) + 1) * a / n - (i : Int) * a / n by omega) (by omega), if_neg (by omega), if_neg (by omega)]
      exact ih k (i + 1) _ (by omega) (by omega) (by simp)
    · have hin : (i : Int) + 1 = n := by omega
      have hend : ((i : Int) + 1) * a / n = a := by rw [hin, Int.mul_comm]; exact Int.mul_ediv_cancel _ (by omega)
      rw [hend] at hst
      rw [if_neg hlast, if_neg (by omega), w64 (show -9223372036854775808 ≤ a - (i : Int) * a / n by omega) (by omega), if_neg (by omega), if_neg (by omega)]
      refine ih k (i + 1) _ (by omega) (by omega) ?_
      rw [show ((i + 1 : Nat) : Int) = (i : Int) + 1 by omega, hend]

theorem FnSlices : laws_FnSlices.Pure := by
  intro L _ _ hw
  refine ⟨1060000, ?_⟩
  unfold laws_FnSlices.f
  rw [big_is]
  simp only [Option.bind_some, decide_eq_true_eq]
  by_cases hb : (L.length : Int) > 1048576
  · rw [if_pos hb]
  · have hL : L.length ≤ 1048576 := by omega
    obtain ⟨v0, e0, a0, b0⟩ := at_is L 0 (by omega) (by omega) hL hw
    obtain ⟨v1, e1, a1, b1⟩ := at_is L 1 (by omega) (by omega) hL hw
    obtain ⟨v2, e2, a2, b2⟩ := at_is L 2 (by omega) (by omega) hL hw
    rw [if_neg hb, e0, e1, e2]
    simp only [Option.bind_some]
    have ha : wrap64 (1 + wrap64 (v0 * 3)) = 1 + v0 * 3 := by unfold wrap64; omega
    have h1 : 0 ≤ v1 % 40 ∧ v1 % 40 < 40 := by omega
    have ht : wrap64 (1 + Int.tmod v1 40) = 1 + v1 % 40 := by rw [tm a1, w64 (by omega) (by omega)]
    rw [ha, ht]
    generalize hA : 1 + v0 * 3 = a
    generalize hT : 1 + v1 % 40 = t
    have h2 : 0 ≤ v2 % a ∧ v2 % a < a := ⟨Int.emod_nonneg _ (by omega), Int.emod_lt_of_pos _ (by omega)⟩
    have hn : wrap64 (1 + Int.tmod v2 a) = 1 + v2 % a := by rw [tm a2, w64 (by omega) (by omega)]
    rw [hn]
    generalize hN : 1 + v2 % a = n
    have hi1 : inB 1 1000 a = true := by rw [inB_iff]; omega
    have hi2 : inB 1 100 t = true := by rw [inB_iff]; omega
    have hi3 : inB 1 a n = true := by rw [inB_iff]; omega
    obtain ⟨g1, g2, g3, g4, g5, g6⟩ := slices_bd a t hi1 hi2
    have hl : lastV a t = a % t := by simp [lastV, hi1, hi2]
    have hev : evenV a n = evens a n 1 (n - 1).toNat := by simp [evenV, hi1, hi3]
    have hlen : (evens a n 1 (n - 1).toNat).length = (n - 1).toNat := evens_length _ _ _ _
    rw [(slices_both a t).2, (last_both a t).2, g1, hl]
    simp only [Option.bind_some]
    rw [if_neg (by omega), (even_both a n 1060000 (by omega)).2, hev]
    simp only [Option.bind_some]
    rw [w64 (show -9223372036854775808 ≤ a / t * t by omega) (by omega), w64 (show -9223372036854775808 ≤ a / t * t + a % t by omega) (by omega), if_pos (by omega), if_neg (by omega), if_neg (by omega), w64 (show -9223372036854775808 ≤ n - 1 by omega) (by omega)]
    have hne : (((evens a n 1 (n - 1).toNat).length : Int) != n - 1) = false := by
      rw [hlen]
      simp
      omega
    rw [hne]
    have hgo := law_l0 L hL a t n (by omega) (by omega) (by omega) n.toNat 1059999 0 0 (by omega) (by omega) (by simp)
    simp only [laws_FnSlices.j0, Bool.false_eq_true, if_false]
    exact hgo
end Go.Proofs.Ytmfjopfoeefelaa.Pure
