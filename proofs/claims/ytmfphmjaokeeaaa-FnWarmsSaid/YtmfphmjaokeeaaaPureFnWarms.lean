/- The right water gives the right dough, and one gram of ice less is too little. -/
import Derived.Test.YtmfphmjaokeeaaaPureA
import Derived.Test.YtmfphmjaokeeaaaDraw
namespace Go.Proofs.Ytmfphmjaokeeaaa.Pure
set_option linter.unusedVariables false
set_option linter.unusedSimpArgs false
open Go.RowKit Go.Proofs.Ytmfphmjaokeeaaa.PA Go.Proofs.Ytmfphmjaokeeaaa.Base Go.Proofs.YtmfphmjaokeeaaaW.PrintWords Go.Proofs.YtmfphmjaokeeaaaW.PrintLast

theorem warm_j (k : Nat) (w f r g x h : Int) (c : Bool) (hw : 15 ≤ w ∧ w ≤ 34) (hf : 0 ≤ f ∧ f ≤ 29) (hr : 0 ≤ r ∧ r ≤ 29) (hg : 0 ≤ g ∧ g ≤ 9) (hx : x = 3 * w - f - r - g) (hh : h = w) (hc : c = reachV w f r g) (hv : waterV w f r g = x) (hk : 200 ≤ k) :
    laws_FnWarms.j0 (k + 1) w f r g x h c false = some true := by
  obtain ⟨t, _, e, ht⟩ := hot_both w r g k (by omega)
  have hd : impl_DoughHeat.f k (-5) 0 0 0 = some (-2) := by rw [(dough_both (-5) 0 0 0 k (by omega)).2]; simp [doughV, inB]
  have hx' : x = wrap64 (wrap64 (wrap64 (wrap64 (3 * w) - f) - r) - g) := by unfold wrap64; omega
  simp only [laws_FnWarms.j0, e, hd, (reach_both _ _ _ _).2, Option.bind_some]
  have hcx : c = (decide (x ≥ 1) && decide (x ≤ 60)) := by rw [hc]; unfold reachV; rw [hv]; simp [inB]
  have hlo : t = -1000 ∨ -20 ≤ t := by rcases ht with ⟨h1, _⟩ | ⟨h1, _⟩ <;> omega
  have htf : c = true → t ≥ f := by
    intro hct
    rw [hc] at hct
    rcases ht with ⟨_, h2⟩ | ⟨h1, h2, h3, h4⟩
    · rw [h2 f (by omega) (by omega)] at hct; cases hct
    · refine Classical.byContradiction fun hlt => ?_
      rw [h4 f (by omega) (by omega)] at hct; cases hct
  have htr : t ≠ -1000 → reachV w t r g = true := by
    intro hne
    rcases ht with ⟨h1, _⟩ | ⟨h1, h2, h3, h4⟩
    · exact absurd h1 hne
    · exact h3
  have htn : t ≠ -1000 → t ≠ 60 → reachV w (wrap64 (t + 1)) r g = false := by
    intro hne h60
    rcases ht with ⟨h1, _⟩ | ⟨h1, h2, h3, h4⟩
    · exact absurd h1 hne
    · rw [w64 (by omega) (by omega)]
      exact h4 _ (by omega) (by omega)
  rw [if_neg (by simp), if_pos hh, if_pos hx']
  by_cases h1 : x ≥ 1
  · have hce : (c == decide (x ≤ 60)) = true := by rw [hcx]; simp [h1]
    rw [if_pos h1, if_pos hce]
    cases hcc : c with
    | true =>
      rw [if_pos rfl, if_pos (htf hcc)]
      by_cases h2 : t = -1000
      · rw [if_pos h2]; simp
      · rw [if_neg h2, if_pos (htr h2)]
        by_cases h3 : t = 60
        · rw [if_pos h3]; simp
        · rw [if_neg h3, htn h2 h3]; simp
    | false =>
      rw [if_neg (by simp)]
      by_cases h2 : t = -1000
      · rw [if_pos h2]; simp
      · rw [if_neg h2, if_pos (htr h2)]
        by_cases h3 : t = 60
        · rw [if_pos h3]; simp
        · rw [if_neg h3, htn h2 h3]; simp
  · have hce : c = false := by rw [hcx]; simp [h1]
    rw [if_neg h1, hce, if_pos (by simp), if_neg (by simp)]
    by_cases h2 : t = -1000
    · rw [if_pos h2]; simp
    · rw [if_neg h2, if_pos (htr h2)]
      by_cases h3 : t = 60
      · rw [if_pos h3]; simp
      · rw [if_neg h3, htn h2 h3]; simp

/-- What the ice must be. -/
theorem ice_bd (t m : Int) (ht : 0 ≤ t) (ht2 : t < 20) (hm : 0 ≤ m) (hm2 : m ≤ 5100) (i : Int) (hi : i = ((20 - t) * m + (99 - t)) / (100 - t)) :
    0 ≤ i ∧ i ≤ m ∧ ¬ 80 * i < (20 - t) * (m - i) ∧ (0 < i → ¬ 80 * (i - 1) ≥ (20 - t) * (m - i + 1)) ∧ (20 - t) * (m - i) ≤ 102000 ∧ -102000 ≤ (20 - t) * (m - i) ∧ (20 - t) * (m - i + 1) ≤ 110000 ∧ -110000 ≤ (20 - t) * (m - i + 1) := by
  have hd1 := Int.mul_ediv_add_emod ((20 - t) * m + (99 - t)) (100 - t)
  have hd2 := Int.emod_nonneg ((20 - t) * m + (99 - t)) (show 100 - t ≠ 0 by omega)
  have hd3 := Int.emod_lt_of_pos ((20 - t) * m + (99 - t)) (show 0 < 100 - t by omega)
  rw [← hi] at hd1
  have hp : 0 ≤ (20 - t) * m := Int.mul_nonneg (by omega) hm
  have hi0 : 0 ≤ i := by rw [hi]; exact Int.ediv_nonneg (by omega) (by omega)
  have e1 : (100 - t) * i = 80 * i + (20 - t) * i := by rw [show 100 - t = 80 + (20 - t) by omega, Int.add_mul]
  have e2 : (20 - t) * (m - i) = (20 - t) * m - (20 - t) * i := Int.mul_sub _ _ _
  have e3 : (20 - t) * (m - i + 1) = (20 - t) * m - (20 - t) * i + (20 - t) := by rw [Int.mul_add, Int.mul_sub, Int.mul_one]
  have him : i ≤ m := by
    refine Classical.byContradiction fun hlt => ?_
    have h2 : (20 - t) * (m + 1) ≤ (20 - t) * i := Int.mul_le_mul_of_nonneg_left (by omega) (by omega)
    rw [Int.mul_add, Int.mul_one] at h2
    omega
  have hu : (20 - t) * m ≤ 20 * 5100 := Int.mul_le_mul (by omega) hm2 hm (by omega)
  have hv : 0 ≤ (20 - t) * i := Int.mul_nonneg (by omega) hi0
  have hv2 : (20 - t) * i ≤ (20 - t) * m := Int.mul_le_mul_of_nonneg_left him (by omega)
  rw [e2, e3]
  rw [e1] at hd1
  generalize (20 - t) * m = p at *
  generalize (20 - t) * i = q at *
  refine ⟨hi0, him, by omega, fun _ => by omega, by omega, by omega, by omega, by omega⟩

theorem FnWarms : laws_FnWarms.Pure := by
  intro L _ _ hw
  refine ⟨1001, ?_⟩
  unfold laws_FnWarms.f
  rw [big_is]
  simp only [Option.bind_some, decide_eq_true_eq]
  by_cases hb : (L.length : Int) > 1048576
  · rw [if_pos hb]
  · have hL : L.length ≤ 1048576 := by omega
    obtain ⟨v0, e0, a0, b0⟩ := at_is L 0 (by omega) (by omega) hL hw
    obtain ⟨v1, e1, a1, b1⟩ := at_is L 1 (by omega) (by omega) hL hw
    obtain ⟨v2, e2, a2, b2⟩ := at_is L 2 (by omega) (by omega) hL hw
    obtain ⟨v3, e3, a3, b3⟩ := at_is L 3 (by omega) (by omega) hL hw
    obtain ⟨v4, e4, a4, b4⟩ := at_is L 4 (by omega) (by omega) hL hw
    obtain ⟨v5, e5, a5, b5⟩ := at_is L 5 (by omega) (by omega) hL hw
    rw [if_neg hb, e0, e1, e2, e3, e4, e5]
    simp only [Option.bind_some]
    have hw1 : wrap64 (15 + Int.tmod v0 20) = 15 + v0 % 20 := by rw [tm a0, w64 (by omega) (by omega)]
    rw [hw1, tm a1, tm a2, tm a3, tm a4, w64 (show -9223372036854775808 ≤ v5 * 20 by omega) (by omega)]
    generalize hW : 15 + v0 % 20 = w
    generalize hF : v1 % 30 = f
    generalize hR : v2 % 30 = r
    generalize hG : v3 % 10 = g
    generalize hT : v4 % 25 = t
    generalize hM : v5 * 20 = m
    have hwv : waterV w f r g = 3 * w - f - r - g := by
      unfold waterV
      rw [if_pos]
      rw [all4_iff]; omega
    have hdv : doughV (3 * w - f - r - g) f r g = w := by
      unfold doughV
      rw [if_pos]
      · omega
      · rw [all4_iff]; omega
    rw [(water_both w f r g).2, hwv]
    simp only [Option.bind_some]
    rw [(dough_both (3 * w - f - r - g) f r g 1001 (by omega)).2, hdv, (reach_both w f r g).2, (ice 1000 t m).2]
    simp only [Option.bind_some]
    have hj := warm_j 1000 w f r g _ w _ (by omega) (by omega) (by omega) (by omega) rfl rfl rfl hwv (by omega)
    have ht1 : inB 0 60 t = true := by rw [inB_iff]; omega
    have hm1 : inB 0 100000 m = true := by rw [inB_iff]; omega
    rw [ht1, hm1]
    simp only [Bool.and_self, if_true]
    by_cases h20 : t < 20
    · rw [if_neg (show ¬ t ≥ 20 by omega)]
      generalize hI : ((20 - t) * m + (99 - t)) / (100 - t) = i
      obtain ⟨i0, i1, i2, i3, i4, i5, i6, i7⟩ := ice_bd t m (by omega) h20 (by omega) (by omega) i hI.symm
      rw [if_neg (by omega), if_pos h20, w64 (show -9223372036854775808 ≤ 80 * i by omega) (by omega), w64 (show -9223372036854775808 ≤ 20 - t by omega) (by omega), w64 (show -9223372036854775808 ≤ m - i by omega) (by omega), w64 (show -9223372036854775808 ≤ (20 - t) * (m - i) by omega) (by omega), if_neg i2]
      have hgt : decide (i > m) = false := by simp; omega
      rw [hgt]
      by_cases hi0 : i > 0
      · rw [if_pos hi0, w64 (show -9223372036854775808 ≤ i - 1 by omega) (by omega), w64 (show -9223372036854775808 ≤ 80 * (i - 1) by omega) (by omega), w64 (show -9223372036854775808 ≤ m - i + 1 by omega) (by omega), w64 (show -9223372036854775808 ≤ (20 - t) * (m - i + 1) by omega) (by omega), if_neg (i3 hi0), if_neg (show ¬ t ≥ 20 by omega)]
        exact hj
      · rw [if_neg hi0, if_neg (show ¬ t ≥ 20 by omega)]
        exact hj
    · rw [if_pos (show t ≥ 20 by omega)]
      rw [if_neg (by omega), if_neg h20, if_pos (show t ≥ 20 by omega), if_pos rfl]
      have hgt : decide (0 > m) = false := by simp; omega
      rw [hgt]
      exact hj
end Go.Proofs.Ytmfphmjaokeeaaa.Pure
