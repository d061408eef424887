/- Costs and prices: what the program computes is what the reference computes. -/
import Derived.Test.YtobngbiiifjgkaaInts
namespace Go.Proofs.Ytobngbiiifjgkaa.Pure
set_option linter.unusedVariables false
set_option linter.unusedSimpArgs false
open Go.RowKit Go.Proofs.Ytobngbiiifjgkaa.PG Go.Proofs.Ytobngbiiifjgkaa.Base Go.Proofs.YtobngbiiifjgkaaW.PrintWords Go.Proofs.YtobngbiiifjgkaaW.PrintLast

def costB (a b c : Int) : Bool := inB 0 100000 a && (inB 0 100000 b && inB 0 100000 c)
theorem costB_iff (a b c : Int) : costB a b c = true ↔ (0 ≤ a ∧ a ≤ 100000) ∧ (0 ≤ b ∧ b ≤ 100000) ∧ (0 ≤ c ∧ c ≤ 100000) := by simp [costB, inB_iff]
theorem spec_cost (a b c : Int) : spec_CostOk.f a b c = some (costB a b c) := by
  simp only [spec_CostOk.f, spec_in, Option.bind_some, costB]
  cases inB 0 100000 a <;> cases inB 0 100000 b <;> simp
theorem impl_cost (a b c : Int) : impl_CostOk.f a b c = some (costB a b c) := by
  simp [impl_CostOk.f, impl_allIn.f, costB, List.all]
theorem FnExactCostOk : laws_FnExactCostOk.Pure := by
  intro a b c _ _ _
  simp [laws_FnExactCostOk.f, laws_toCost.f, spec_cost, impl_cost]

theorem mul_bd {a b A B : Int} (h0 : 0 ≤ a) (h1 : a ≤ A) (h2 : 0 ≤ b) (h3 : b ≤ B) : 0 ≤ a * b ∧ a * b ≤ A * B :=
  ⟨Int.mul_nonneg h0 h2, Int.mul_le_mul h1 h3 h2 (by omega)⟩
def priceV (a b c p : Int) : Int := if costB a b c && inB 0 500 p then 5 * (((a + b + c) * (100 + p) + 499) / 500) else -1
theorem price_both (a b c p : Int) : spec_PriceFor.f a b c p = some (priceV a b c p) ∧ impl_PriceFor.f a b c p = some (priceV a b c p) := by
  simp only [spec_PriceFor.f, impl_PriceFor.f, spec_cost, impl_cost, spec_in, in_is, Option.bind_some, priceV, impl_up.f]
  cases h1 : costB a b c with
  | false => simp
  | true =>
    cases h2 : inB 0 500 p with
    | false => simp
    | true =>
      rw [costB_iff] at h1
      rw [inB_iff] at h2
      have e1 : wrap64 (wrap64 (a + b) + c) = a + b + c := by unfold wrap64; omega
      have e2 : wrap64 (100 + p) = 100 + p := w64 (by omega) (by omega)
      have hb := mul_bd (show 0 ≤ a + b + c by omega) (show a + b + c ≤ 300000 by omega) (show 0 ≤ 100 + p by omega) (show 100 + p ≤ 600 by omega)
      rw [e1, e2]
      generalize (a + b + c) * (100 + p) = t at hb ⊢
      have e3 : wrap64 t = t := w64 (by omega) (by omega)
      have e4 : wrap64 (t + 499) = t + 499 := w64 (by omega) (by omega)
      have e5 : wrap64 (wrap64 (t + 500) - 1) = t + 499 := by unfold wrap64; omega
      have e6 : wrap64 ((t + 499) / 500) = (t + 499) / 500 := w64 (by omega) (by omega)
      rw [e3, e4, e5, td (by omega), e6]
      simp
      constructor
      · rw [w64 (by omega) (by omega)]; omega
      · rw [w64 (by omega) (by omega)]
theorem FnExactPriceFor : laws_FnExactPriceFor.Pure := by
  intro a b c p _ _ _ _
  simp [laws_FnExactPriceFor.f, laws_toCost.f, price_both]

def largestV (a b c : Int) : Int := if costB a b c then (if a ≥ b ∧ a ≥ c then 0 else if b ≥ c then 1 else 2) else -1
theorem largest_both (a b c : Int) (k : Nat) : spec_LargestPart.f (k + 1) a b c = some (largestV a b c) ∧ impl_LargestPart.f (k + 1) a b c = some (largestV a b c) := by
  simp only [spec_LargestPart.f, impl_LargestPart.f, spec_cost, impl_cost, Option.bind_some, largestV, spec_LargestPart.j0, impl_LargestPart.j0]
  cases costB a b c with
  | false => simp
  | true =>
    by_cases h1 : a ≥ b <;> by_cases h2 : a ≥ c <;> by_cases h3 : b ≥ c <;> simp [h1, h2, h3]
theorem FnExactLargestPart : laws_FnExactLargestPart.Pure := by
  intro a b c _ _ _
  refine ⟨1, ?_⟩
  simp [laws_FnExactLargestPart.f, laws_toCost.f, largest_both a b c 0]

def upV (a n : Int) : Int := (a + (n - 1)) / n
theorem up_bd (a n : Int) (h0 : 0 ≤ a) (h1 : a ≤ 1000000000000) (h2 : 1 ≤ n) (h3 : n ≤ 1000000) : 0 ≤ upV a n ∧ upV a n ≤ a + (n - 1) :=
  ⟨Int.ediv_nonneg (by omega) (by omega), Int.ediv_le_self _ (by omega)⟩
theorem up_is (a n : Int) (h0 : 0 ≤ a) (h1 : a ≤ 1000000000000) (h2 : 1 ≤ n) (h3 : n ≤ 1000000) : impl_up.f a n = some (upV a n) := by
  have hb := up_bd a n h0 h1 h2 h3
  unfold impl_up.f
  have e : wrap64 (wrap64 (a + n) - 1) = a + (n - 1) := by unfold wrap64; omega
  rw [if_neg (by omega), e, td (by omega)]
  show some (wrap64 (upV a n)) = _
  rw [w64 (by omega) (by omega)]
def loafV (a b c n : Int) : Int × Int × Int := if costB a b c && inB 1 1000 n then (upV a n, upV b n, upV c n) else (0, 0, 0)
theorem loaf_both (a b c n : Int) (k : Nat) : spec_PerLoaf.f a b c n = some (loafV a b c n) ∧ impl_PerLoaf.f (k + 1) a b c n = some (loafV a b c n) := by
  simp only [spec_PerLoaf.f, impl_PerLoaf.f, spec_cost, impl_cost, spec_in, in_is, Option.bind_some, loafV, impl_PerLoaf.j0]
  cases h1 : costB a b c with
  | false => simp
  | true =>
    cases h2 : inB 1 1000 n with
    | false => simp
    | true =>
      rw [costB_iff] at h1
      rw [inB_iff] at h2
      have e0 : wrap64 (n - 1) = n - 1 := w64 (by omega) (by omega)
      have ev : ∀ x, 0 ≤ x → x ≤ 100000 → wrap64 (Int.tdiv (wrap64 (x + (n - 1))) n) = upV x n := by
        intro x hx0 hx1
        have hb := up_bd x n hx0 (by omega) (by omega) (by omega)
        rw [w64 (show -9223372036854775808 ≤ x + (n - 1) by omega) (by omega), td (by omega)]
        show wrap64 (upV x n) = _
        rw [w64 (by omega) (by omega)]
      rw [up_is a n (by omega) (by omega) (by omega) (by omega), up_is b n (by omega) (by omega) (by omega) (by omega), up_is c n (by omega) (by omega) (by omega) (by omega)]
      rw [e0, ev a (by omega) (by omega), ev b (by omega) (by omega), ev c (by omega) (by omega)]
      simp
      omega
theorem eqCost_refl (a b c : Int) : laws_eqCost.f a b c a b c = some true := by simp [laws_eqCost.f]
theorem FnExactPerLoaf : laws_FnExactPerLoaf.Pure := by
  intro a b c n _ _ _ _
  refine ⟨1, ?_⟩
  simp [laws_FnExactPerLoaf.f, laws_toCost.f, loaf_both a b c n 0, eqCost_refl]

def addV (a b c x y z : Int) : Int × Int × Int × Bool :=
  if costB a b c && costB x y z && costB (wrap64 (a + x)) (wrap64 (b + y)) (wrap64 (c + z)) then (wrap64 (a + x), wrap64 (b + y), wrap64 (c + z), true) else (0, 0, 0, false)
theorem add_both (a b c x y z : Int) (k : Nat) : spec_AddCosts.f (k + 1) a b c x y z = some (addV a b c x y z) ∧ impl_AddCosts.f a b c x y z = some (addV a b c x y z) := by
  simp only [spec_AddCosts.f, impl_AddCosts.f, spec_cost, impl_cost, Option.bind_some, addV, spec_AddCosts.j0]
  cases costB a b c <;> cases costB x y z <;> cases costB (wrap64 (a + x)) (wrap64 (b + y)) (wrap64 (c + z)) <;> simp
theorem FnExactAddCosts : laws_FnExactAddCosts.Pure := by
  intro a b c x y z _ _ _ _ _ _
  refine ⟨1, ?_⟩
  simp [laws_FnExactAddCosts.f, laws_toCost.f, add_both a b c x y z 0, eqCost_refl]

/-- From p down: the greatest share at which the price is not above x. -/
theorem margin_l (a b c x : Int) : ∀ (d : Nat) (k : Nat) (p : Int), p + 1 ≤ d → -1 ≤ p → p ≤ 500 → d < k → ∃ r, spec_MarginOf.l0 k x p a b c = some r ∧ impl_MarginOf.l0 k x p a b c = some r ∧
    ((r = -1 ∧ ∀ q, 0 ≤ q → q ≤ p → x < priceV a b c q) ∨ (0 ≤ r ∧ r ≤ p ∧ priceV a b c r ≤ x ∧ ∀ q, r < q → q ≤ p → x < priceV a b c q)) := by
  intro d
  induction d with
  | zero =>
    intro k p h0 h1 h2 hk
    obtain ⟨k, rfl⟩ : ∃ m, k = m + 1 := ⟨k - 1, by omega⟩
    refine ⟨-1, ?_, ?_, .inl ⟨rfl, fun q hq hx => absurd hx (by omega)⟩⟩
    · simp only [spec_MarginOf.l0]; rw [if_neg (by omega)]
    · simp only [impl_MarginOf.l0]; rw [if_neg (by omega)]
  | succ d ih =>
    intro k p h0 h1 h2 hk
    obtain ⟨k, rfl⟩ : ∃ m, k = m + 1 := ⟨k - 1, by omega⟩
    by_cases hx : p ≥ 0
    · have hw : wrap64 (p - 1) = p - 1 := w64 (by omega) (by omega)
      by_cases hr : priceV a b c p ≤ x
      · refine ⟨p, ?_, ?_, .inr ⟨hx, Int.le_refl _, hr, fun y h1 h2 => absurd h2 (by omega)⟩⟩
        · simp only [spec_MarginOf.l0]; rw [if_pos hx, (price_both a b c p).1]; simp [hr]
        · simp only [impl_MarginOf.l0]; rw [if_pos hx, (price_both a b c p).2]; simp [hr]
      · obtain ⟨r, g1, g2, g3⟩ := ih k (p - 1) (by omega) (by omega) (by omega) (by omega)
        refine ⟨r, ?_, ?_, ?_⟩
        · simp only [spec_MarginOf.l0]; rw [if_pos hx, (price_both a b c p).1]; simp [hr, hw, g1]
        · simp only [impl_MarginOf.l0]; rw [if_pos hx, (price_both a b c p).2]; simp [hr, hw, g2]
        · rcases g3 with ⟨rfl, g⟩ | ⟨g4, g5, g6, g7⟩
          · refine .inl ⟨rfl, fun y h1 h2 => ?_⟩
            by_cases e : y = p
            · rw [e]; omega
            · exact g y h1 (by omega)
          · refine .inr ⟨g4, by omega, g6, fun y h1 h2 => ?_⟩
            by_cases e : y = p
            · rw [e]; omega
            · exact g7 y h1 (by omega)
    · refine ⟨-1, ?_, ?_, .inl ⟨rfl, fun y hy hx' => absurd hx' (by omega)⟩⟩
      · simp only [spec_MarginOf.l0]; rw [if_neg hx]
      · simp only [impl_MarginOf.l0]; rw [if_neg hx]
theorem margin_both (a b c x : Int) (k : Nat) (hk : 600 < k) : ∃ r, spec_MarginOf.f k a b c x = some r ∧ impl_MarginOf.f k a b c x = some r ∧
    (costB a b c = true → 0 ≤ x → x ≤ 10000000 → ((r = -1 ∧ ∀ q, 0 ≤ q → q ≤ 500 → x < priceV a b c q) ∨ (0 ≤ r ∧ r ≤ 500 ∧ priceV a b c r ≤ x ∧ ∀ q, r < q → q ≤ 500 → x < priceV a b c q))) := by
  obtain ⟨k, rfl⟩ : ∃ m, k = m + 1 := ⟨k - 1, by omega⟩
  simp only [spec_MarginOf.f, impl_MarginOf.f, spec_cost, impl_cost, spec_in, in_is, Option.bind_some, spec_MarginOf.j0, impl_MarginOf.j0]
  cases h1 : costB a b c with
  | false => exact ⟨-1, by simp, by simp, fun h => by cases h⟩
  | true =>
    cases h2 : inB 0 10000000 x with
    | false =>
      rw [inB_false] at h2
      exact ⟨-1, by simp, by simp, fun _ h3 h4 => absurd ⟨h3, h4⟩ h2⟩
    | true =>
      obtain ⟨r, g1, g2, g3⟩ := margin_l a b c x 501 k 500 (by omega) (by omega) (by omega) (by omega)
      exact ⟨r, by simp [g1], by simp [g2], fun _ _ _ => g3⟩
theorem FnExactMarginOf : laws_FnExactMarginOf.Pure := by
  intro a b c x _ _ _ _
  obtain ⟨r, h1, h2, _⟩ := margin_both a b c x 700 (by omega)
  refine ⟨700, ?_⟩
  simp [laws_FnExactMarginOf.f, laws_toCost.f, h1, h2]
end Go.Proofs.Ytobngbiiifjgkaa.Pure
