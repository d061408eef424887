/- The largest common set of things: the law. -/
import Derived.Test.YtkgigoefmpkngaaPureLC
namespace Go.Proofs.Ytkgigoefmpkngaa.Pure
set_option linter.unusedVariables false
set_option linter.unusedSimpArgs false
open Go.RowKit Go.Proofs.Ytkgigoefmpkngaa.PCL Go.Proofs.Ytkgigoefmpkngaa.Base Go.Proofs.YtkgigoefmpkngaaW.PrintWords Go.Proofs.YtkgigoefmpkngaaW.PrintLast

theorem FnExactLargestCommon : laws_FnExactLargestCommon.Pure := by
  intro l least hm hl hw _
  unfold laws_FnExactLargestCommon.f
  refine frame l hm hw _ (fun h1 h2 => ?_)
  obtain ⟨K, v, hK, hv, _⟩ := lc_both (l.map cvBk) least (by simpa using h1) (map_short l h2)
  obtain ⟨k, hk1, hk2, hk3⟩ : ∃ k, K ≤ k ∧ l.length + 1048577 < k ∧ 12 < k := ⟨K + (l.length + 1048578), by omega, by omega, by omega⟩
  have m1 := markInts v k 1 (by omega) (by omega) (by omega) (by omega)
  have m2 := heldInts v.length k 1 (by omega) (by omega) (by omega) (by omega)
  obtain ⟨r, hr, hr0, _⟩ := markBk (k + 1) (by omega) (l.map cvBk) 1 (map_short l h2) (by omega) (by rw [List.length_map]; omega)
  refine ⟨k + 1, by omega, ?_⟩
  rw [toBk_is l (k + 1) h1 h2 (by omega)]
  simp only [Option.bind_some, (hK (k + 1) (by omega)).1, (hK (k + 1) (by omega)).2]
  rw [eqInts v v (k + 1) (by omega) (by omega), eqBk_is _ (k + 1) (by simpa using h1) (map_short l h2) (by rw [List.length_map]; omega), hr]
  simp only [Option.bind_some, decide_true, if_true, Bool.not_true]
  rw [if_neg (by omega)]
  simp only [laws_FnExactLargestCommon.j0, toBk_is l k h1 h2 hk2, (hK k hk1).2, m1, m2, eqInts v v k (by omega) (by omega), Option.bind_some, decide_true, if_true, Bool.false_eq_true, if_false]
  rw [if_neg (by omega), if_neg (by omega)]
end Go.Proofs.Ytkgigoefmpkngaa.Pure
