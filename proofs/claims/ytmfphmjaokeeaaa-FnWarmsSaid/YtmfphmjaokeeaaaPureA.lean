/- Water, ice, cards: what the program computes is what the reference computes. -/
import Derived.Test.YtmfphmjaokeeaaaPAx
import Derived.Test.YtmfphmjaokeeaaaBase
namespace Go.Proofs.Ytmfphmjaokeeaaa.Pure
set_option linter.unusedVariables false
set_option linter.unusedSimpArgs false
open Go.RowKit Go.Proofs.Ytmfphmjaokeeaaa.PA Go.Proofs.Ytmfphmjaokeeaaa.Base Go.Proofs.YtmfphmjaokeeaaaW.PrintWords Go.Proofs.YtmfphmjaokeeaaaW.PrintLast

theorem spec_in (a b c : Int) : spec_l01In.f a b c = some (inB b c a) := by
  unfold spec_l01In.f inB
  by_cases h : b ≤ a <;> simp [h]
theorem inB_iff (lo hi n : Int) : inB lo hi n = true ↔ lo ≤ n ∧ n ≤ hi := by simp [inB]
theorem inB_false (lo hi n : Int) : inB lo hi n = false ↔ ¬ (lo ≤ n ∧ n ≤ hi) := by
  rw [← inB_iff, Bool.not_eq_true]

theorem FnExactCardOk : laws_FnExactCardOk.Pure := by
  intro a b _ _
  simp [laws_FnExactCardOk.f, laws_toCard.f, spec_CardOk.f, impl_CardOk.f, spec_in, in_is]
  cases inB 0 9 a <;> simp

theorem FnExactLoavesFor : laws_FnExactLoavesFor.Pure := by
  intro a b _ _
  simp only [laws_FnExactLoavesFor.f, spec_LoavesFor.f, impl_LoavesFor.f, spec_in, in_is, Option.bind_some]
  cases h1 : inB 0 100000 a <;> cases h2 : inB 1 1000 b <;> simp
  rw [inB_iff] at h2
  rw [if_neg (by omega)]
  simp

theorem ice (k : Nat) (a b : Int) : spec_IceFor.f (k + 1) a b = impl_IceFor.f (k + 1) a b ∧ (impl_IceFor.f (k + 1) a b = some (if inB 0 60 a && inB 0 100000 b then (if a ≥ 20 then 0 else ((20 - a) * b + (99 - a)) / (100 - a)) else -1)) := by
  simp only [spec_IceFor.f, impl_IceFor.f, spec_in, in_is, Option.bind_some, spec_IceFor.j0, impl_IceFor.j0, impl_up.f]
  cases h1 : inB 0 60 a <;> cases h2 : inB 0 100000 b <;> simp
  rw [inB_iff] at h1 h2
  by_cases h : 20 ≤ a
  · simp [h]
  · have e1 : wrap64 (20 - a) = 20 - a := w64 (by omega) (by omega)
    have hp : 0 ≤ (20 - a) * b := Int.mul_nonneg (by omega) (by omega)
    have hq : (20 - a) * b ≤ 20 * 100000 := Int.mul_le_mul (by omega) (by omega) (by omega) (by omega)
    simp only [e1]
    generalize hz : (20 - a) * b = p at hp hq ⊢
    have e2 : wrap64 p = p := w64 (by omega) (by omega)
    have e3 : wrap64 (80 + (20 - a)) = 100 - a := by unfold wrap64; omega
    have e4 : wrap64 (100 - a) = 100 - a := w64 (by omega) (by omega)
    have e5 : wrap64 (wrap64 (p + 79) + (20 - a)) = p + (99 - a) := by unfold wrap64; omega
    have e6 : wrap64 (wrap64 (p + (100 - a)) - 1) = p + (99 - a) := by unfold wrap64; omega
    have hd : 0 ≤ (p + (99 - a)) / (100 - a) := Int.ediv_nonneg (by omega) (by omega)
    have hd2 : (p + (99 - a)) / (100 - a) ≤ p + (99 - a) := Int.ediv_le_self _ (by omega)
    simp only [e2, e3, e4, e5, e6, td (show 0 ≤ p + (99 - a) by omega), w64 (show -9223372036854775808 ≤ (p + (99 - a)) / (100 - a) by omega) (by omega)]
    simp [h, show ¬ (100 - a = 0) by omega]

theorem FnExactIceFor : laws_FnExactIceFor.Pure := by
  intro a b _ _
  obtain ⟨h1, h2⟩ := ice 0 a b
  refine ⟨1, ?_⟩
  simp only [laws_FnExactIceFor.f]
  rw [h1, h2]
  simp

theorem all4 (a b c d lo hi : Int) : spec_l18Ok.f a b c d lo hi = some ([a, b, c, d].all (inB lo hi)) := by
  simp only [spec_l18Ok.f, spec_in, Option.bind_some]
  simp only [List.all_cons, List.all_nil]
  generalize inB lo hi a = p
  generalize inB lo hi b = q
  generalize inB lo hi c = r
  generalize inB lo hi d = s
  cases p <;> cases q <;> cases r <;> cases s <;> rfl
theorem all4_iff (a b c d lo hi : Int) : [a, b, c, d].all (inB lo hi) = true ↔ (lo ≤ a ∧ a ≤ hi) ∧ (lo ≤ b ∧ b ≤ hi) ∧ (lo ≤ c ∧ c ≤ hi) ∧ (lo ≤ d ∧ d ≤ hi) := by
  simp [inB_iff, and_assoc]

def waterV (a b c d : Int) : Int := if [a, b, c, d].all (inB (-20) 60) then 3 * a - b - c - d else -1000
theorem water_both (a b c d : Int) : spec_WaterFor.f a b c d = some (waterV a b c d) ∧ impl_WaterFor.f a b c d = some (waterV a b c d) := by
  simp only [spec_WaterFor.f, impl_WaterFor.f, all4, impl_allIn.f, Option.bind_some, waterV]
  cases h : [a, b, c, d].all (inB (-20) 60)
  · simp
  · rw [all4_iff] at h
    have e : wrap64 (wrap64 (wrap64 (wrap64 (3 * a) - b) - c) - d) = 3 * a - b - c - d := by unfold wrap64; omega
    simp [e]
theorem FnExactWaterFor : laws_FnExactWaterFor.Pure := by
  intro a b c d _ _ _ _
  simp [laws_FnExactWaterFor.f, water_both]

def reachV (a b c d : Int) : Bool := inB 1 60 (waterV a b c d)
theorem reach_both (a b c d : Int) : spec_CanReach.f a b c d = some (reachV a b c d) ∧ impl_CanReach.f a b c d = some (reachV a b c d) := by
  simp [spec_CanReach.f, impl_CanReach.f, water_both, spec_in, in_is, reachV]
theorem FnExactCanReach : laws_FnExactCanReach.Pure := by
  intro a b c d _ _ _ _
  simp [laws_FnExactCanReach.f, reach_both]

def doughV (a b c d : Int) : Int := if [a, b, c, d].all (inB (-200) 200) then (a + b + c + d + 900) / 3 - 300 else -1000
theorem dough_both (a b c d : Int) (k : Nat) (hk : 5 ≤ k) : spec_DoughHeat.f a b c d = some (doughV a b c d) ∧ impl_DoughHeat.f k a b c d = some (doughV a b c d) := by
  obtain ⟨k, rfl⟩ : ∃ m, k = m + 5 := ⟨k - 5, by omega⟩
  simp only [spec_DoughHeat.f, impl_DoughHeat.f, all4, impl_allIn.f, Option.bind_some, doughV]
  cases h : [a, b, c, d].all (inB (-200) 200)
  · simp
  · rw [all4_iff] at h
    have e1 : wrap64 (wrap64 (wrap64 (wrap64 (wrap64 (a + b) + c) + d) + 3000)) = a + b + c + d + 3000 := by unfold wrap64; omega
    have e1' : wrap64 (wrap64 (wrap64 (wrap64 (a + b) + c) + d) + 3000) = a + b + c + d + 3000 := by unfold wrap64; omega
    have hs : impl_sum.f (k + 5) [a, b, c, d] = some (a + b + c + d) := by
      have f0 : wrap64 a = a := by unfold wrap64; omega
      have f1 : wrap64 (a + b) = a + b := by unfold wrap64; omega
      have f2 : wrap64 (a + b + c) = a + b + c := by unfold wrap64; omega
      have f3 : wrap64 (a + b + c + d) = a + b + c + d := by unfold wrap64; omega
      have g0 : wrap64 1 = 1 := by simp [wrap64]
      have g1 : wrap64 2 = 2 := by simp [wrap64]
      have g2 : wrap64 3 = 3 := by simp [wrap64]
      have g3 : wrap64 4 = 4 := by simp [wrap64]
      simp [impl_sum.f, impl_sum.l0, rd, f0, f1, f2, f3, g0, g1, g2, g3]
    rw [hs]
    have e2 : wrap64 (a + b + c + d + 900) = a + b + c + d + 900 := by unfold wrap64; omega
    simp only [Option.bind_some, if_true, e1', e2, td (show 0 ≤ a + b + c + d + 3000 by omega), td (show 0 ≤ a + b + c + d + 900 by omega)]
    have e3 : wrap64 (wrap64 ((a + b + c + d + 3000) / 3) - 1000) = (a + b + c + d + 900) / 3 - 300 := by unfold wrap64; omega
    have e4 : wrap64 (wrap64 ((a + b + c + d + 900) / 3) - 300) = (a + b + c + d + 900) / 3 - 300 := by unfold wrap64; omega
    simp [e3, e4]
theorem FnExactDoughHeat : laws_FnExactDoughHeat.Pure := by
  intro a b c d _ _ _ _
  obtain ⟨h1, h2⟩ := dough_both a b c d 5 (by omega)
  refine ⟨5, ?_⟩
  simp [laws_FnExactDoughHeat.f, h1, h2]

/-- The hottest flour: from x down. -/
theorem hot_l (a b c : Int) : ∀ (d : Nat) (k : Nat) (x : Int), x + 21 ≤ d → -21 ≤ x → x ≤ 60 → d < k → (∃ r, spec_HottestFlour.l0 k a b c x = some r ∧ impl_HottestFlour.l0 k a b c x = some r ∧
    ((r = -1000 ∧ ∀ y, -20 ≤ y → y ≤ x → reachV a y b c = false) ∨ (-20 ≤ r ∧ r ≤ x ∧ reachV a r b c = true ∧ ∀ y, r < y → y ≤ x → reachV a y b c = false))) := by
  intro d
  induction d with
  | zero =>
    intro k x h0 h1 h2 hk
    obtain ⟨k, rfl⟩ : ∃ m, k = m + 1 := ⟨k - 1, by omega⟩
    refine ⟨-1000, ?_, ?_, .inl ⟨rfl, fun y hy hx => absurd hx (by omega)⟩⟩
    · simp only [spec_HottestFlour.l0]; rw [if_neg (by omega)]
    · simp only [impl_HottestFlour.l0]; rw [if_neg (by omega)]
  | succ d ih =>
    intro k x h0 h1 h2 hk
    obtain ⟨k, rfl⟩ : ∃ m, k = m + 1 := ⟨k - 1, by omega⟩
    by_cases hx : x ≥ -20
    · have hw : wrap64 (x - 1) = x - 1 := w64 (by omega) (by omega)
      cases hr : reachV a x b c with
      | true =>
        refine ⟨x, ?_, ?_, .inr ⟨hx, Int.le_refl _, hr, fun y h1 h2 => absurd h2 (by omega)⟩⟩
        · simp only [spec_HottestFlour.l0]; rw [if_pos hx, (reach_both a x b c).1]; simp [hr]
        · simp only [impl_HottestFlour.l0]; rw [if_pos hx, (reach_both a x b c).2]; simp [hr]
      | false =>
        obtain ⟨r, g1, g2, g3⟩ := ih k (x - 1) (by omega) (by omega) (by omega) (by omega)
        refine ⟨r, ?_, ?_, ?_⟩
        · simp only [spec_HottestFlour.l0]; rw [if_pos hx, (reach_both a x b c).1]; simp [hr, hw, g1]
        · simp only [impl_HottestFlour.l0]; rw [if_pos hx, (reach_both a x b c).2]; simp [hr, hw, g2]
        · rcases g3 with ⟨rfl, g⟩ | ⟨g4, g5, g6, g7⟩
          · refine .inl ⟨rfl, fun y h1 h2 => ?_⟩
            by_cases e : y = x
            · rw [e]; exact hr
            · exact g y h1 (by omega)
          · refine .inr ⟨g4, by omega, g6, fun y h1 h2 => ?_⟩
            by_cases e : y = x
            · rw [e]; exact hr
            · exact g7 y h1 (by omega)
    · refine ⟨-1000, ?_, ?_, .inl ⟨rfl, fun y hy hx' => absurd hx' (by omega)⟩⟩
      · simp only [spec_HottestFlour.l0]; rw [if_neg hx]
      · simp only [impl_HottestFlour.l0]; rw [if_neg hx]
theorem hot_both (a b c : Int) (k : Nat) (hk : 100 ≤ k) : ∃ r, spec_HottestFlour.f k a b c = some r ∧ impl_HottestFlour.f k a b c = some r ∧
    ((r = -1000 ∧ ∀ y, -20 ≤ y → y ≤ 60 → reachV a y b c = false) ∨ (-20 ≤ r ∧ r ≤ 60 ∧ reachV a r b c = true ∧ ∀ y, r < y → y ≤ 60 → reachV a y b c = false)) :=
  hot_l a b c 81 k 60 (by omega) (by omega) (by omega) (by omega)
theorem FnExactHottestFlour : laws_FnExactHottestFlour.Pure := by
  intro a b c _ _ _
  obtain ⟨r, h1, h2, _⟩ := hot_both a b c 100 (by omega)
  refine ⟨100, ?_⟩
  simp [laws_FnExactHottestFlour.f, h1, h2]
end Go.Proofs.Ytmfphmjaokeeaaa.Pure
