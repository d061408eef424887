/-
  No cell of these rows narrows 'for every input' (looked for: loops, veiled, ifaces, maps, wideKeys, modest, calm, conditions, laid).
  DERIVED. THE GIVEN ROWS OF THIS SEAT. 7 by the template 'for every input the law returns true; each argument reads behind the call as it read before'; 0 by the template 'total and deterministic' (their statements: YtjfehhdgfpodhaaTotals.lean).
  GIVEN WITH THE SEED: the statements are not yours to turn. If you find one false, say at which input.
  Laid BY PROGRAM, IN A SANDBOX (cutbox-rows.mjs): the forced cells as the released guide's own fill.sh prints them over the translation e80595a280a78c1d… (all of the seat's roots in one cut). By AI agents, Wed Nov 11 2026. No macro, syntax, notation, axiom, sorry.
-/
import Derived.Test.YtjfehhdgfpodhaaChecked
import GoSem.Claim
import GoSem.ClaimJoined
import GoSem.ClaimMapViews
import Derived.JoinedTies
import Derived.KernelRfl
namespace Go.Proofs.Ytjfehhdgfpodhaa
/- THE CELL 'sum', in the pinned program and in every row, IS THE sha256 OF THE DUMP (.gsa) THAT YtjfehhdgfpodhaaProg.lean LOADS. Nothing in Lean hashes anything: it is a label: what it is worth is what the hold of that sum in a sandbox is worth. -/
noncomputable def Try.pinned : Pinned := { name := "ytjfehhdgfpodhaa", sum := "e80595a280a78c1dcb1969e920e16de520b39123a1c61c0c06dfe3dd6543a4d7", checked := Try.checked }
namespace Rows
def none {H : Type} : Left H := { results := [], args := [] }

/-- 'laws.FnSkills': WHATEVER THE INPUT: true; the input reads as it did. -/
def fnSkillsSpec : ChangeSpec := { name := "fnSkills", fn := fun _ => fun
  | [d] => { results := [.lit (.bool true)], args := [d] }
  | _ => none }
def fnSkillsRow : OpenClaim := { program := "ytjfehhdgfpodhaa", sum := "e80595a280a78c1dcb1969e920e16de520b39123a1c61c0c06dfe3dd6543a4d7", func := "loop.example/g03310/laws.FnSkills", spec := "fnSkills", unfollowed := true, recurses := true, apart := false }
def FnSkillsSaid : Prop := fnSkillsRow.holds Try.pinned (OpenSpec.ofChange fnSkillsSpec)

/-- ITS FALSE NEIGHBOUR: 'it returns false'. Refute it at one input. -/
def fnSkillsWrong : ChangeSpec := { name := "fnSkills", fn := fun _ => fun
  | [d] => { results := [.lit (.bool false)], args := [d] }
  | _ => none }
def FnSkillsWrongFalsely : Prop := fnSkillsRow.holds Try.pinned (OpenSpec.ofChange fnSkillsWrong)

/-- 'laws.FnExactSkillsOk': WHATEVER THE INPUT: true; the input reads as it did. -/
def fnExactSkillsOkSpec : ChangeSpec := { name := "fnExactSkillsOk", fn := fun _ => fun
  | [d] => { results := [.lit (.bool true)], args := [d] }
  | _ => none }
def fnExactSkillsOkRow : OpenClaim := { program := "ytjfehhdgfpodhaa", sum := "e80595a280a78c1dcb1969e920e16de520b39123a1c61c0c06dfe3dd6543a4d7", func := "loop.example/g03310/laws.FnExactSkillsOk", spec := "fnExactSkillsOk", unfollowed := true, recurses := true, apart := false }
def FnExactSkillsOkSaid : Prop := fnExactSkillsOkRow.holds Try.pinned (OpenSpec.ofChange fnExactSkillsOkSpec)

/-- ITS FALSE NEIGHBOUR: 'it returns false'. Refute it at one input. -/
def fnExactSkillsOkWrong : ChangeSpec := { name := "fnExactSkillsOk", fn := fun _ => fun
  | [d] => { results := [.lit (.bool false)], args := [d] }
  | _ => none }
def FnExactSkillsOkWrongFalsely : Prop := fnExactSkillsOkRow.holds Try.pinned (OpenSpec.ofChange fnExactSkillsOkWrong)

/-- 'laws.FnExactIsComplete': WHATEVER THE INPUT: true; the input reads as it did. -/
def fnExactIsCompleteSpec : ChangeSpec := { name := "fnExactIsComplete", fn := fun _ => fun
  | [d1, d2] => { results := [.lit (.bool true)], args := [d1, d2] }
  | _ => none }
def fnExactIsCompleteRow : OpenClaim := { program := "ytjfehhdgfpodhaa", sum := "e80595a280a78c1dcb1969e920e16de520b39123a1c61c0c06dfe3dd6543a4d7", func := "loop.example/g03310/laws.FnExactIsComplete", spec := "fnExactIsComplete", unfollowed := true, recurses := true, apart := false }
def FnExactIsCompleteSaid : Prop := fnExactIsCompleteRow.holds Try.pinned (OpenSpec.ofChange fnExactIsCompleteSpec)

/-- ITS FALSE NEIGHBOUR: 'it returns false'. Refute it at one input. -/
def fnExactIsCompleteWrong : ChangeSpec := { name := "fnExactIsComplete", fn := fun _ => fun
  | [d1, d2] => { results := [.lit (.bool false)], args := [d1, d2] }
  | _ => none }
def FnExactIsCompleteWrongFalsely : Prop := fnExactIsCompleteRow.holds Try.pinned (OpenSpec.ofChange fnExactIsCompleteWrong)

/-- 'laws.FnExactDepthOf': WHATEVER THE INPUT: true; the input reads as it did. -/
def fnExactDepthOfSpec : ChangeSpec := { name := "fnExactDepthOf", fn := fun _ => fun
  | [d1, d2] => { results := [.lit (.bool true)], args := [d1, d2] }
  | _ => none }
def fnExactDepthOfRow : OpenClaim := { program := "ytjfehhdgfpodhaa", sum := "e80595a280a78c1dcb1969e920e16de520b39123a1c61c0c06dfe3dd6543a4d7", func := "loop.example/g03310/laws.FnExactDepthOf", spec := "fnExactDepthOf", unfollowed := true, recurses := true, apart := false }
def FnExactDepthOfSaid : Prop := fnExactDepthOfRow.holds Try.pinned (OpenSpec.ofChange fnExactDepthOfSpec)

/-- ITS FALSE NEIGHBOUR: 'it returns false'. Refute it at one input. -/
def fnExactDepthOfWrong : ChangeSpec := { name := "fnExactDepthOf", fn := fun _ => fun
  | [d1, d2] => { results := [.lit (.bool false)], args := [d1, d2] }
  | _ => none }
def FnExactDepthOfWrongFalsely : Prop := fnExactDepthOfRow.holds Try.pinned (OpenSpec.ofChange fnExactDepthOfWrong)

/-- 'laws.FnExactDaysFor': WHATEVER THE INPUT: true; the input reads as it did. -/
def fnExactDaysForSpec : ChangeSpec := { name := "fnExactDaysFor", fn := fun _ => fun
  | [d1, d2] => { results := [.lit (.bool true)], args := [d1, d2] }
  | _ => none }
def fnExactDaysForRow : OpenClaim := { program := "ytjfehhdgfpodhaa", sum := "e80595a280a78c1dcb1969e920e16de520b39123a1c61c0c06dfe3dd6543a4d7", func := "loop.example/g03310/laws.FnExactDaysFor", spec := "fnExactDaysFor", unfollowed := true, recurses := true, apart := false }
def FnExactDaysForSaid : Prop := fnExactDaysForRow.holds Try.pinned (OpenSpec.ofChange fnExactDaysForSpec)

/-- ITS FALSE NEIGHBOUR: 'it returns false'. Refute it at one input. -/
def fnExactDaysForWrong : ChangeSpec := { name := "fnExactDaysFor", fn := fun _ => fun
  | [d1, d2] => { results := [.lit (.bool false)], args := [d1, d2] }
  | _ => none }
def FnExactDaysForWrongFalsely : Prop := fnExactDaysForRow.holds Try.pinned (OpenSpec.ofChange fnExactDaysForWrong)

/-- 'laws.FnExactLearnOrder': WHATEVER THE INPUT: true; the input reads as it did. -/
def fnExactLearnOrderSpec : ChangeSpec := { name := "fnExactLearnOrder", fn := fun _ => fun
  | [d] => { results := [.lit (.bool true)], args := [d] }
  | _ => none }
def fnExactLearnOrderRow : OpenClaim := { program := "ytjfehhdgfpodhaa", sum := "e80595a280a78c1dcb1969e920e16de520b39123a1c61c0c06dfe3dd6543a4d7", func := "loop.example/g03310/laws.FnExactLearnOrder", spec := "fnExactLearnOrder", unfollowed := true, recurses := true, apart := false }
def FnExactLearnOrderSaid : Prop := fnExactLearnOrderRow.holds Try.pinned (OpenSpec.ofChange fnExactLearnOrderSpec)

/-- ITS FALSE NEIGHBOUR: 'it returns false'. Refute it at one input. -/
def fnExactLearnOrderWrong : ChangeSpec := { name := "fnExactLearnOrder", fn := fun _ => fun
  | [d] => { results := [.lit (.bool false)], args := [d] }
  | _ => none }
def FnExactLearnOrderWrongFalsely : Prop := fnExactLearnOrderRow.holds Try.pinned (OpenSpec.ofChange fnExactLearnOrderWrong)

/-- 'laws.FnExactCanLearn': WHATEVER THE INPUT: true; the input reads as it did. -/
def fnExactCanLearnSpec : ChangeSpec := { name := "fnExactCanLearn", fn := fun _ => fun
  | [d1, d2] => { results := [.lit (.bool true)], args := [d1, d2] }
  | _ => none }
def fnExactCanLearnRow : OpenClaim := { program := "ytjfehhdgfpodhaa", sum := "e80595a280a78c1dcb1969e920e16de520b39123a1c61c0c06dfe3dd6543a4d7", func := "loop.example/g03310/laws.FnExactCanLearn", spec := "fnExactCanLearn", unfollowed := true, recurses := true, apart := false }
def FnExactCanLearnSaid : Prop := fnExactCanLearnRow.holds Try.pinned (OpenSpec.ofChange fnExactCanLearnSpec)

/-- ITS FALSE NEIGHBOUR: 'it returns false'. Refute it at one input. -/
def fnExactCanLearnWrong : ChangeSpec := { name := "fnExactCanLearn", fn := fun _ => fun
  | [d1, d2] => { results := [.lit (.bool false)], args := [d1, d2] }
  | _ => none }
def FnExactCanLearnWrongFalsely : Prop := fnExactCanLearnRow.holds Try.pinned (OpenSpec.ofChange fnExactCanLearnWrong)

/- THE SECOND FORM. 'bulk': how many values and letters a reading holds, each counted each time it is reached (what is shared counts as often as it is met; a slice's spare places count too). A statement '..UptoSaid' is the law's where the arguments, and the package variables that the reading takes, are together of bulk at most 1048576: NARROWER than '..Said'. Prove '..Said' where nothing that the law and all that it calls make is longer than what came in: it says more and counts as full. Else prove '..UptoSaid'. A law counts once. -/
mutual
def uptoBulk {H : Type} : DataW H → Nat
  | .lit (.string bytes) => bytes.length + 1
  | .lit _ => 1
  | .nil => 1
  | .ptr d => uptoBulk d + 1
  | .slice elems spare => uptoBulkAll elems + uptoBulkAll spare + 1
  | .agg parts => uptoBulkAll parts + 1
  | .iface _ d => uptoBulk d + 1
  | .map entries => uptoBulkEntries entries + 1
  | .held _ => 1
def uptoBulkAll {H : Type} : List (DataW H) → Nat
  | [] => 0
  | d :: r => uptoBulk d + uptoBulkAll r
def uptoBulkEntries {H : Type} : List (Lit × DataW H) → Nat
  | [] => 0
  | x :: r => uptoBulkEntry x + uptoBulkEntries r
def uptoBulkEntry {H : Type} : Lit × DataW H → Nat
  | (.string bytes, d) => bytes.length + uptoBulk d + 1
  | (_, d) => uptoBulk d + 1
 end
def uptoSmall : (H : Type) → List (DataW H) → Bool := fun _ ds => decide (uptoBulkAll ds ≤ 1048576)
def OpenSpec.upto (s : _root_.Go.ChangeSpec) : _root_.Go.OpenSpec := { _root_.Go.OpenSpec.ofChange s with cond := some uptoSmall }

/-- 'laws.FnSkills', WHERE WHAT IT READS IS OF BULK AT MOST 1048576: true; the input reads as it did. -/
def fnSkillsUptoRow : OpenClaim := { program := "ytjfehhdgfpodhaa", sum := "e80595a280a78c1dcb1969e920e16de520b39123a1c61c0c06dfe3dd6543a4d7", func := "loop.example/g03310/laws.FnSkills", spec := "fnSkills", unfollowed := true, recurses := true, apart := false, narrowed := true }
def FnSkillsUptoSaid : Prop := fnSkillsUptoRow.holds Try.pinned (OpenSpec.upto fnSkillsSpec)

/-- 'laws.FnExactSkillsOk', WHERE WHAT IT READS IS OF BULK AT MOST 1048576: true; the input reads as it did. -/
def fnExactSkillsOkUptoRow : OpenClaim := { program := "ytjfehhdgfpodhaa", sum := "e80595a280a78c1dcb1969e920e16de520b39123a1c61c0c06dfe3dd6543a4d7", func := "loop.example/g03310/laws.FnExactSkillsOk", spec := "fnExactSkillsOk", unfollowed := true, recurses := true, apart := false, narrowed := true }
def FnExactSkillsOkUptoSaid : Prop := fnExactSkillsOkUptoRow.holds Try.pinned (OpenSpec.upto fnExactSkillsOkSpec)

/-- 'laws.FnExactIsComplete', WHERE WHAT IT READS IS OF BULK AT MOST 1048576: true; the input reads as it did. -/
def fnExactIsCompleteUptoRow : OpenClaim := { program := "ytjfehhdgfpodhaa", sum := "e80595a280a78c1dcb1969e920e16de520b39123a1c61c0c06dfe3dd6543a4d7", func := "loop.example/g03310/laws.FnExactIsComplete", spec := "fnExactIsComplete", unfollowed := true, recurses := true, apart := false, narrowed := true }
def FnExactIsCompleteUptoSaid : Prop := fnExactIsCompleteUptoRow.holds Try.pinned (OpenSpec.upto fnExactIsCompleteSpec)

/-- 'laws.FnExactDepthOf', WHERE WHAT IT READS IS OF BULK AT MOST 1048576: true; the input reads as it did. -/
def fnExactDepthOfUptoRow : OpenClaim := { program := "ytjfehhdgfpodhaa", sum := "e80595a280a78c1dcb1969e920e16de520b39123a1c61c0c06dfe3dd6543a4d7", func := "loop.example/g03310/laws.FnExactDepthOf", spec := "fnExactDepthOf", unfollowed := true, recurses := true, apart := false, narrowed := true }
def FnExactDepthOfUptoSaid : Prop := fnExactDepthOfUptoRow.holds Try.pinned (OpenSpec.upto fnExactDepthOfSpec)

/-- 'laws.FnExactDaysFor', WHERE WHAT IT READS IS OF BULK AT MOST 1048576: true; the input reads as it did. -/
def fnExactDaysForUptoRow : OpenClaim := { program := "ytjfehhdgfpodhaa", sum := "e80595a280a78c1dcb1969e920e16de520b39123a1c61c0c06dfe3dd6543a4d7", func := "loop.example/g03310/laws.FnExactDaysFor", spec := "fnExactDaysFor", unfollowed := true, recurses := true, apart := false, narrowed := true }
def FnExactDaysForUptoSaid : Prop := fnExactDaysForUptoRow.holds Try.pinned (OpenSpec.upto fnExactDaysForSpec)

/-- 'laws.FnExactLearnOrder', WHERE WHAT IT READS IS OF BULK AT MOST 1048576: true; the input reads as it did. -/
def fnExactLearnOrderUptoRow : OpenClaim := { program := "ytjfehhdgfpodhaa", sum := "e80595a280a78c1dcb1969e920e16de520b39123a1c61c0c06dfe3dd6543a4d7", func := "loop.example/g03310/laws.FnExactLearnOrder", spec := "fnExactLearnOrder", unfollowed := true, recurses := true, apart := false, narrowed := true }
def FnExactLearnOrderUptoSaid : Prop := fnExactLearnOrderUptoRow.holds Try.pinned (OpenSpec.upto fnExactLearnOrderSpec)

/-- 'laws.FnExactCanLearn', WHERE WHAT IT READS IS OF BULK AT MOST 1048576: true; the input reads as it did. -/
def fnExactCanLearnUptoRow : OpenClaim := { program := "ytjfehhdgfpodhaa", sum := "e80595a280a78c1dcb1969e920e16de520b39123a1c61c0c06dfe3dd6543a4d7", func := "loop.example/g03310/laws.FnExactCanLearn", spec := "fnExactCanLearn", unfollowed := true, recurses := true, apart := false, narrowed := true }
def FnExactCanLearnUptoSaid : Prop := fnExactCanLearnUptoRow.holds Try.pinned (OpenSpec.upto fnExactCanLearnSpec)

end Rows
end Go.Proofs.Ytjfehhdgfpodhaa
