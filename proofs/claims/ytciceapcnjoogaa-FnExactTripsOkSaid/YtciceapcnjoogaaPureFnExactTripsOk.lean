/- Good trips: the law. -/
import Derived.Test.YtciceapcnjoogaaPureTrips
namespace Go.Proofs.Ytciceapcnjoogaa.Pure
set_option linter.unusedVariables false
set_option linter.unusedSimpArgs false
open Go.RowKit Go.Proofs.Ytciceapcnjoogaa.PDT Go.Proofs.Ytciceapcnjoogaa.Base Go.Proofs.YtciceapcnjoogaaW.PrintWords Go.Proofs.YtciceapcnjoogaaW.PrintLast

theorem frame2 (l : List S59) (Ts : List (List Int)) (hm : l.length ≤ maxLen) (hm1 : Ts.length ≤ maxLen) (hx : ∀ x ∈ Ts, x.length ≤ maxLen) (G : Nat → Option Bool) (h : l.length ≤ 1048576 → Ts.length ≤ 1048576 → Ts.flatten.length ≤ 1048576 → ∃ k, Ts.length < k ∧ G k = some true) :
    ∃ k, ((laws_szShopS.f l 1048576).bind fun t => if t < 0 then some true else ((laws_szIntSS.f k Ts t).bind fun u => if u < 0 then some true else G k)) = some true := by
  rw [szShop_is l hm]
  simp only [Option.bind_some]
  by_cases h1 : l.length > 1048576
  · refine ⟨0, ?_⟩
    rw [if_pos h1, if_pos (by omega)]
  · rw [if_neg h1]
    by_cases h2 : Ts.length ≤ 1048576 ∧ Ts.flatten.length ≤ 1048576
    · obtain ⟨k, hk, hG⟩ := h (by omega) h2.1 h2.2
      obtain ⟨r, g, _⟩ := szR_is Ts k (1048576 - (l.length : Int)) (by omega) (by omega) hm1 hx hk
      refine ⟨k, ?_⟩
      rw [if_neg (by omega), g, Option.bind_some]
      split
      · rfl
      · exact hG
    · obtain ⟨r, g, hr⟩ := szR_is Ts (Ts.length + 1) (1048576 - (l.length : Int)) (by omega) (by omega) hm1 hx (by omega)
      refine ⟨Ts.length + 1, ?_⟩
      rw [if_neg (by omega), g, Option.bind_some, if_pos]
      rcases Int.lt_or_le r 0 with h0 | h0
      · exact h0
      · exact absurd (hr h0) h2
theorem FnExactTripsOk : laws_FnExactTripsOk.Pure := by
  intro l Ts room hm hl hw hm1 hl1 hw1 _
  unfold laws_FnExactTripsOk.f
  refine frame2 l Ts hm hm1 (fun x hx => (hw1 x hx).1) _ (fun h1 h2 h3 => ?_)
  have hTl : ∀ T ∈ Ts, T.length ≤ 1048576 := fun T h => by have := row_le Ts T h; omega
  obtain ⟨K, b, hK⟩ := trips_both (l.map cvShop) Ts room (by simpa using h1) h2 h3
  obtain ⟨k, hk1, hk2, hk3⟩ : ∃ k, K ≤ k ∧ l.length < k ∧ Ts.length + 1048577 < k := ⟨K + l.length + Ts.length + 1048578, by omega, by omega, by omega⟩
  refine ⟨k, by omega, ?_⟩
  rw [toShop_is l k hl hk2, toR_is Ts k h2 hTl hk3]
  simp only [Option.bind_some, (hK k hk1).1, (hK k hk1).2.1, bne_self_eq_false, Bool.false_eq_true, if_false]
  rw [eqShop_is _ k (by simp; omega) (by simpa using hk2), eqR_is Ts k h2 hTl hk3]
  simp
end Go.Proofs.Ytciceapcnjoogaa.Pure
