/- The price is enough for the margin, and five less is not. -/
import Derived.Test.YtobngbiiifjgkaaPureG
import Derived.Test.YtobngbiiifjgkaaDraw
import Derived.Test.YtobngbiiifjgkaaPGx7
namespace Go.Proofs.Ytobngbiiifjgkaa.Pure
set_option linter.unusedVariables false
set_option linter.unusedSimpArgs false
open Go.RowKit Go.Proofs.Ytobngbiiifjgkaa.PG Go.Proofs.Ytobngbiiifjgkaa.Base Go.Proofs.YtobngbiiifjgkaaW.PrintWords Go.Proofs.YtobngbiiifjgkaaW.PrintLast

theorem draw_cost (L : List Int) (k : Nat) (hl : L.length ≤ 1048576) (hk : L.length < k) : ∃ a b c, spec_DrawCost.f k L = some (a, b, c) ∧ (0 ≤ a ∧ a < 250) ∧ (0 ≤ b ∧ b < 250) ∧ (0 ≤ c ∧ c < 100) := by
  obtain ⟨h, e⟩ := new_is L k hl hk
  obtain ⟨a, i1, h1, e1, a0, a1, c1⟩ := below_is L 0 h 250 hl (cur0 L) (by omega)
  obtain ⟨b, i2, h2, e2, b0, b1, c2⟩ := below_is L i1 h1 250 hl c1 (by omega)
  obtain ⟨c, i3, h3, e3, d0, d1, c3⟩ := below_is L i2 h2 100 hl c2 (by omega)
  exact ⟨a, b, c, by simp only [spec_DrawCost.f, spec_l24Cost.f, e, e1, e2, e3, Option.bind_some], ⟨a0, a1⟩, ⟨b0, b1⟩, ⟨d0, d1⟩⟩

theorem up_tight (a n : Int) (h0 : 0 ≤ a) (h2 : 1 ≤ n) : upV a n * n ≥ a ∧ (upV a n - 1) * n < a ∧ upV a n * n ≤ a + n - 1 := by
  have d1 := Int.mul_ediv_add_emod (a + (n - 1)) n
  have d2 := Int.emod_nonneg (a + (n - 1)) (show n ≠ 0 by omega)
  have d3 := Int.emod_lt_of_pos (a + (n - 1)) (show 0 < n by omega)
  have e : upV a n * n = n * ((a + (n - 1)) / n) := Int.mul_comm _ _
  rw [Int.sub_mul, Int.one_mul, e]
  omega

theorem costs_step (k : Nat) (n : Int) (ok : Bool) (kk : Int) (a b c : Int) (i c0 c1 c2 q0 q1 q2 d0 d1 d2 : Int) (hi : 0 ≤ i ∧ i < 3) (hk : 0 ≤ kk ∧ kk < 3) (h1 : ¬ rd [a, b, c] i > rd [a, b, c] kk) (h2 : i < kk → ¬ rd [a, b, c] i = rd [a, b, c] kk) :
    laws_FnCosts.l0 (k + 1) n ok kk [a, b, c] i c0 c1 c2 q0 q1 q2 d0 d1 d2 = laws_FnCosts.l0 k n ok kk [a, b, c] (i + 1) c0 c1 c2 q0 q1 q2 d0 d1 d2 := by
  have hl : (([a, b, c] : List Int).length : Int) = 3 := rfl
  rw [laws_FnCosts.l0]
  rw [hl, if_pos hi.2, if_pos hi.1, if_pos hi.2, if_pos hk.1, if_pos hk.2, if_neg h1, w64 (show -9223372036854775808 ≤ i + 1 by omega) (by omega)]
  by_cases h : i < kk
  · rw [if_pos h, if_neg (h2 h)]
  · rw [if_neg h]
theorem costs_end (k : Nat) (n kk : Int) (a b c : Int) (l : List Int) (hn : 1 ≤ n ∧ n ≤ 30) (ha : 0 ≤ a ∧ a < 250) (hb : 0 ≤ b ∧ b < 250) (hc : 0 ≤ c ∧ c < 100) :
    laws_FnCosts.l0 (k + 1) n true kk l 3 a b c (upV a n) (upV b n) (upV c n) (wrap64 (a + a)) (wrap64 (b + b)) (wrap64 (c + c)) = some true := by
  have ua := up_tight a n ha.1 hn.1
  have ub := up_tight b n hb.1 hn.1
  have uc := up_tight c n hc.1 hn.1
  have va := up_bd a n ha.1 (by omega) hn.1 (by omega)
  have vb := up_bd b n hb.1 (by omega) hn.1 (by omega)
  have vc := up_bd c n hc.1 (by omega) hn.1 (by omega)
  have hp : impl_PriceFor.f 100 0 0 25 = some 125 := by rw [(price_both 100 0 0 25).2]; simp [priceV, costB, inB]
  have hco : costB a b c = true := by rw [costB_iff]; omega
  have xa : (upV a n - 1) * n ≥ -n := by rw [Int.sub_mul, Int.one_mul]; omega
  have xc : (upV c n - 1) * n ≥ -n := by rw [Int.sub_mul, Int.one_mul]; omega
  rw [laws_FnCosts.l0]
  rw [if_neg (by omega), if_pos rfl, if_pos (by unfold wrap64; omega), if_pos (by unfold wrap64; omega), if_pos (by unfold wrap64; omega)]
  rw [w64 (show -9223372036854775808 ≤ upV a n * n by omega) (by omega), if_pos ua.1, w64 (show -9223372036854775808 ≤ upV a n - 1 by omega) (by omega), w64 (show -9223372036854775808 ≤ (upV a n - 1) * n by omega) (by omega), if_pos ua.2.1]
  rw [w64 (show -9223372036854775808 ≤ upV b n * n by omega) (by omega), if_pos ub.1]
  rw [w64 (show -9223372036854775808 ≤ upV c n * n by omega) (by omega), if_pos uc.1, w64 (show -9223372036854775808 ≤ upV c n - 1 by omega) (by omega), w64 (show -9223372036854775808 ≤ (upV c n - 1) * n by omega) (by omega), if_pos uc.2.1]
  rw [impl_cost, hco, hp]
  simp
theorem costs_j (k : Nat) (n : Int) (a b c : Int) (hn : 1 ≤ n ∧ n ≤ 30) (ha : 0 ≤ a ∧ a < 250) (hb : 0 ≤ b ∧ b < 250) (hc : 0 ≤ c ∧ c < 100) :
    laws_FnCosts.j0 (k + 6) n true (largestV a b c) [a, b, c] false a b c (upV a n) (upV b n) (upV c n) (wrap64 (a + a)) (wrap64 (b + b)) (wrap64 (c + c)) = some true := by
  have hco : costB a b c = true := by rw [costB_iff]; omega
  have hkk : (largestV a b c = 0 ∧ a ≥ b ∧ a ≥ c) ∨ (largestV a b c = 1 ∧ a < b ∧ c ≤ b) ∨ (largestV a b c = 2 ∧ a < c ∧ b < c) := by
    unfold largestV
    rw [hco]
    simp only [if_true]
    by_cases h : a ≥ b ∧ a ≥ c
    · rw [if_pos h]; exact .inl ⟨rfl, h⟩
    · rw [if_neg h]
      by_cases h2 : b ≥ c
      · rw [if_pos h2]; exact .inr (.inl ⟨rfl, by omega, h2⟩)
      · rw [if_neg h2]; exact .inr (.inr ⟨rfl, by omega, by omega⟩)
  have r0 : rd [a, b, c] 0 = a := by simp [rd]
  have r1 : rd [a, b, c] 1 = b := by simp [rd]
  have r2 : rd [a, b, c] 2 = c := by simp [rd]
  rw [laws_FnCosts.j0, if_neg (by simp)]
  rcases hkk with ⟨e, h1, h2⟩ | ⟨e, h1, h2⟩ | ⟨e, h1, h2⟩
  all_goals
    rw [e]
    rw [costs_step _ _ _ _ _ _ _ (0) _ _ _ _ _ _ _ _ _ (by omega) (by omega) (by simp only [show (0 : Int) + 1 = 1 from rfl, show (1 : Int) + 1 = 2 from rfl, r0, r1, r2]; try omega) (by intro _; simp only [show (0 : Int) + 1 = 1 from rfl, show (1 : Int) + 1 = 2 from rfl, r0, r1, r2]; try omega)]
    rw [costs_step _ _ _ _ _ _ _ (0 + 1) _ _ _ _ _ _ _ _ _ (by omega) (by omega) (by simp only [show (0 : Int) + 1 = 1 from rfl, show (1 : Int) + 1 = 2 from rfl, r0, r1, r2]; try omega) (by intro _; simp only [show (0 : Int) + 1 = 1 from rfl, show (1 : Int) + 1 = 2 from rfl, r0, r1, r2]; try omega)]
    rw [costs_step _ _ _ _ _ _ _ (0 + 1 + 1) _ _ _ _ _ _ _ _ _ (by omega) (by omega) (by simp only [show (0 : Int) + 1 = 1 from rfl, show (1 : Int) + 1 = 2 from rfl, r0, r1, r2]; try omega) (by intro _; simp only [show (0 : Int) + 1 = 1 from rfl, show (1 : Int) + 1 = 2 from rfl, r0, r1, r2]; try omega)]
    exact costs_end _ n _ a b c _ hn ha hb hc

theorem FnCosts : laws_FnCosts.Pure := by
  intro L _ _ hw
  refine ⟨1060006, ?_⟩
  unfold laws_FnCosts.f
  rw [big_is]
  simp only [Option.bind_some, decide_eq_true_eq]
  by_cases hb : (L.length : Int) > 1048576
  · rw [if_pos hb]
  · have hL : L.length ≤ 1048576 := by omega
    obtain ⟨v0, e0, a0, b0⟩ := at_is L 0 (by omega) (by omega) hL hw
    obtain ⟨v1, e1, a1, b1⟩ := at_is L 1 (by omega) (by omega) hL hw
    obtain ⟨a, b, c, ec, ha, hbb, hc⟩ := draw_cost L 1060006 hL (by omega)
    rw [if_neg hb, e0, e1, ec]
    simp only [Option.bind_some]
    have hp : Int.tmod (wrap64 (v0 * 2)) 501 = v0 * 2 % 501 := by rw [w64 (by omega) (by omega), tm (by omega)]
    have hn : wrap64 (1 + Int.tmod v1 30) = 1 + v1 % 30 := by rw [tm a1, w64 (by omega) (by omega)]
    rw [hp, hn]
    generalize hP : v0 * 2 % 501 = p
    generalize hN : 1 + v1 % 30 = n
    have hco : costB a b c = true := by rw [costB_iff]; omega
    have hpv : ∀ q, 0 ≤ q → q ≤ 500 → priceV a b c q = 5 * (((a + b + c) * (100 + q) + 499) / 500) := by
      intro q h0 h1
      have : inB 0 500 q = true := by rw [inB_iff]; omega
      simp [priceV, hco, this]
    have hb1 := mul_bd (show 0 ≤ a + b + c by omega) (show a + b + c ≤ 600 by omega) (show 0 ≤ 100 + p by omega) (show 100 + p ≤ 600 by omega)
    have hx := hpv p (by omega) (by omega)
    have e1' : wrap64 (wrap64 (a + b) + c) = a + b + c := by unfold wrap64; omega
    have e2' : wrap64 (100 + p) = 100 + p := w64 (by omega) (by omega)
    rw [(price_both a b c p).2]
    simp only [Option.bind_some]
    obtain ⟨m, _, em, hm⟩ := margin_both a b c (priceV a b c p) 1060006 (by omega)
    rw [em]
    simp only [Option.bind_some]
    have hin : inB 1 1000 n = true := by rw [inB_iff]; omega
    have had : addV a b c a b c = (wrap64 (a + a), wrap64 (b + b), wrap64 (c + c), true) := by
      have : costB (wrap64 (a + a)) (wrap64 (b + b)) (wrap64 (c + c)) = true := by rw [costB_iff]; unfold wrap64; omega
      simp [addV, hco, this]
    rw [(loaf_both a b c n 1060005).2, (add_both a b c a b c 0).2, had, (largest_both a b c 1060005).2]
    have hlv : loafV a b c n = (upV a n, upV b n, upV c n) := by simp [loafV, hco, hin]
    rw [hlv]
    simp only [Option.bind_some]
    have hj := costs_j 1060000 n a b c (by omega) ha hbb hc
    have hk2 : 0 ≤ largestV a b c ∧ largestV a b c ≤ 2 := by
      unfold largestV
      rw [hco]
      simp only [if_true]
      split
      · omega
      · split <;> omega
    have hk3 : decide (largestV a b c > 2) = false := by simp; omega
    have hm' := hm hco (by rw [hx]; omega) (by rw [hx]; omega)
    have hmp : ¬ m < p ∧ priceV a b c m ≤ priceV a b c p ∧ (m < 500 → priceV a b c p < priceV a b c (m + 1)) ∧ m ≤ 500 ∧ 0 ≤ m := by
      rcases hm' with ⟨rfl, h⟩ | ⟨h1, h2, h3, h4⟩
      · have := h p (by omega) (by omega)
        omega
      · refine ⟨fun hlt => ?_, h3, fun h5 => h4 _ (by omega) (by omega), h2, h1⟩
        have := h4 p hlt (by omega)
        omega
    obtain ⟨m1, m2, m3, m4, m5⟩ := hmp
    rw [(price_both a b c m).2]
    rw [hx] at m2 m3 ⊢
    rw [e1', e2']
    generalize (a + b + c) * (100 + p) = T at *
    generalize hX : (T + 499) / 500 = X at *
    have t1 : Int.tmod (5 * X) 5 = 0 := by rw [tm (by omega)]; omega
    rw [if_neg (by omega), if_pos t1, w64 (show -9223372036854775808 ≤ 100 * (5 * X) by omega) (by omega), w64 (show -9223372036854775808 ≤ T by omega) (by omega), if_neg (by omega), w64 (show -9223372036854775808 ≤ 5 * X - 5 by omega) (by omega), w64 (show -9223372036854775808 ≤ 100 * (5 * X - 5) by omega) (by omega)]
    simp only [Option.bind_some]
    have hmw : wrap64 (m + 1) = m + 1 := w64 (by omega) (by omega)
    rw [hmw, (price_both a b c (m + 1)).2]
    simp only [Option.bind_some]
    rw [hk3]
    by_cases hx0 : 5 * X > 0
    · rw [if_pos hx0, if_neg (by omega), if_neg m1, if_neg (by omega)]
      by_cases h5 : m < 500
      · have := m3 h5
        rw [if_pos h5, if_neg (by omega), if_neg (by omega)]
        exact hj
      · rw [if_neg h5, if_neg (by omega)]
        exact hj
    · rw [if_neg hx0, if_neg m1, if_neg (by omega)]
      by_cases h5 : m < 500
      · have := m3 h5
        rw [if_pos h5, if_neg (by omega), if_neg (by omega)]
        exact hj
      · rw [if_neg h5, if_neg (by omega)]
        exact hj
end Go.Proofs.Ytobngbiiifjgkaa.Pure
