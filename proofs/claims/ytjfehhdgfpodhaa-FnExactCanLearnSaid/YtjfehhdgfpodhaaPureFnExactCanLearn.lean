/- What may be learned: the law. -/
import Derived.Test.YtjfehhdgfpodhaaPureF3
namespace Go.Proofs.Ytjfehhdgfpodhaa.Pure
set_option linter.unusedVariables false
set_option linter.unusedSimpArgs false
open Go.RowKit Go.Proofs.Ytjfehhdgfpodhaa.PFL Go.Proofs.Ytjfehhdgfpodhaa.Base Go.Proofs.YtjfehhdgfpodhaaW.PrintWords Go.Proofs.YtjfehhdgfpodhaaW.PrintLast

theorem FnExactCanLearn : laws_FnExactCanLearn.Pure := by
  intro l o hm hl hw hm1 hl1 hw1
  unfold laws_FnExactCanLearn.f
  by_cases hb : (o.length : Int) > 1048576
  · exact ⟨0, by rw [if_pos hb]⟩
  simp only [if_neg hb]
  refine frame l hm hw _ (fun h1 h2 => ?_)
  obtain ⟨K, v, hK, hv⟩ := canl_both (l.map cvSk) o (by simpa using h1) (map_short l h2) (by omega)
  obtain ⟨k, hk1, hk2, hk3⟩ : ∃ k, K ≤ k ∧ l.length + 1048577 < k ∧ o.length < k := ⟨K + (l.length + 1048578) + o.length, by omega, by omega, by omega⟩
  have m1 := markInts v k 1 (by omega) (by omega) (by omega) (by omega)
  have m2 := heldInts v.length k 1 (by omega) (by omega) (by omega) (by omega)
  obtain ⟨r, hr, hr0, hr1⟩ := markSk (k + 1) (by omega) (l.map cvSk) 1 (map_short l h2) (by omega) (by rw [List.length_map]; omega)
  rw [List.length_map] at hr1
  have m3 := markInts o (k + 1) r (by omega) (by omega) (by omega) (by omega)
  refine ⟨k + 1, by omega, ?_⟩
  rw [toSk_is l (k + 1) h1 h2 (by omega), toInts o (k + 1) hl1 (by omega)]
  simp only [Option.bind_some, (hK (k + 1) (by omega)).1, (hK (k + 1) (by omega)).2]
  rw [eqInts v v (k + 1) (by omega) (by omega), eqSk_is _ (k + 1) (by simpa using h1) (map_short l h2) (by rw [List.length_map]; omega), eqInts o o (k + 1) (by omega) (by omega), hr]
  simp only [Option.bind_some, decide_true, if_true, Bool.not_true, m3]
  rw [if_neg (by omega)]
  simp only [laws_FnExactCanLearn.j0, toSk_is l k h1 h2 hk2, toInts o k hl1 hk3, (hK k hk1).2, m1, m2, eqInts v v k (by omega) (by omega), Option.bind_some, decide_true, if_true, Bool.false_eq_true, if_false]
  rw [if_neg (by omega), if_neg (by omega)]
end Go.Proofs.Ytjfehhdgfpodhaa.Pure
