/- Valid skills: the law. -/
import Derived.Test.YtjfehhdgfpodhaaPureF2
namespace Go.Proofs.Ytjfehhdgfpodhaa.Pure
set_option linter.unusedVariables false
set_option linter.unusedSimpArgs false
open Go.RowKit Go.Proofs.Ytjfehhdgfpodhaa.PF Go.Proofs.Ytjfehhdgfpodhaa.Base Go.Proofs.YtjfehhdgfpodhaaW.PrintWords Go.Proofs.YtjfehhdgfpodhaaW.PrintLast

theorem FnExactSkillsOk : laws_FnExactSkillsOk.Pure := by
  intro l hm hl hw
  unfold laws_FnExactSkillsOk.f
  refine frame l hm hw _ (fun h1 h2 => ?_)
  obtain ⟨K, r, hK, _⟩ := ok_both (l.map cvSk) (by simpa using h1) (map_short l h2)
  obtain ⟨k, hk1, hk2⟩ : ∃ k, K ≤ k ∧ l.length + 1048577 < k := ⟨K + (l.length + 1048578), by omega, by omega⟩
  refine ⟨k, by omega, ?_⟩
  rw [toSk_is l k h1 h2 hk2]
  simp only [Option.bind_some, (hK k hk1).1, (hK k hk1).2]
  rw [eqSk_is _ k (by simpa using h1) (map_short l h2) (by simpa using hk2)]
  simp
end Go.Proofs.Ytjfehhdgfpodhaa.Pure
