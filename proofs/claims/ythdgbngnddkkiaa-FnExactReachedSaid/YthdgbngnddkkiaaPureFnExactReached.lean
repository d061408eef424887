/- What is reached from a lot: the law. -/
import Derived.Test.YthdgbngnddkkiaaPureReach
import Derived.Test.YthdgbngnddkkiaaPHXx12
namespace Go.Proofs.Ythdgbngnddkkiaa.Pure
set_option linter.unusedVariables false
set_option linter.unusedSimpArgs false
open Go.RowKit Go.Proofs.Ythdgbngnddkkiaa.PHX Go.Proofs.Ythdgbngnddkkiaa.Base Go.Proofs.YthdgbngnddkkiaaW.PrintWords Go.Proofs.YthdgbngnddkkiaaW.PrintLast

theorem FnExactReached : laws_FnExactReached.Pure := by
  intro l lot hm hl hw _
  by_cases h : l.length > 1048576
  · refine ⟨0, ?_⟩
    unfold laws_FnExactReached.f
    rw [szUse_is l hm]
    simp only [Option.bind_some]
    rw [if_pos h, if_pos (by omega)]
  · obtain ⟨K1, h1⟩ := reach_s (l.map cvUse) lot (by simp; omega)
    obtain ⟨K2, h2⟩ := reach_i (l.map cvUse) lot (by simp; omega)
    have hK : ∀ k, K1 + K2 ≤ k → spec_Reached.f k (l.map cvUse) lot = some (reachedV (l.map cvUse) lot) ∧ impl_Reached.f k (l.map cvUse) lot = some (reachedV (l.map cvUse) lot) := fun k hk => ⟨h1 k (by omega), h2 k (by omega)⟩
    obtain ⟨k, hk1, hk2, hk3⟩ : ∃ k, K1 + K2 ≤ k ∧ l.length < k ∧ 100 < k := ⟨K1 + K2 + l.length + 101, by omega, by omega, by omega⟩
    have hlen := reachedV_len (l.map cvUse) lot
    have m1 := markInts (reachedV (l.map cvUse) lot) k 1 (by omega) (by omega) (by omega) (by omega)
    have m2 := heldInts (reachedV (l.map cvUse) lot).length k 1 (by omega) (by omega) (by omega) (by omega)
    have m3 := eqInts (reachedV (l.map cvUse) lot) (reachedV (l.map cvUse) lot) k (by omega) (by omega)
    obtain ⟨y, hy⟩ := markUse (l.map cvUse) (k + 1) (by simp; omega) (by simp; omega)
    refine ⟨k + 1, ?_⟩
    unfold laws_FnExactReached.f
    rw [szUse_is l hm]
    simp only [Option.bind_some]
    rw [if_neg h, if_neg (by omega), toUse_is l _ hl (by omega)]
    simp only [Option.bind_some, (hK (k + 1) (by omega)).1, (hK (k + 1) (by omega)).2]
    rw [eqInts _ _ (k + 1) (by omega) (by omega), eqUse_is _ _ (by simp; omega) (by simp; omega), hy]
    simp only [Option.bind_some, decide_true, if_true, Bool.not_true]
    rw [if_neg (by omega)]
    simp only [laws_FnExactReached.j0, toUse_is l k hl (by omega), (hK k (by omega)).2, m1, m2, m3, Option.bind_some, decide_true, if_true, Bool.false_eq_true, if_false]
    rw [if_neg (by omega)]
    simp; omega
end Go.Proofs.Ythdgbngnddkkiaa.Pure
