/-
  No cell of these rows narrows 'for every input' (looked for: loops, veiled, ifaces, maps, wideKeys, modest, calm, conditions, laid).
  DERIVED. THE GIVEN ROWS OF THIS SEAT. 8 by the template 'for every input the law returns true; each argument reads behind the call as it read before'; 0 by the template 'total and deterministic' (their statements: YtmfphmjaokeeaaaTotals.lean).
  GIVEN WITH THE SEED: the statements are not yours to turn. If you find one false, say at which input.
  Laid BY PROGRAM, IN A SANDBOX (cutbox-rows.mjs): the forced cells as the released guide's own fill.sh prints them over the translation 6c6bf5cbd89ec603… (all of the seat's roots in one cut). By AI agents, Wed Nov 11 2026. No macro, syntax, notation, axiom, sorry.
-/
import Derived.Test.YtmfphmjaokeeaaaChecked
import GoSem.Claim
import GoSem.ClaimJoined
import GoSem.ClaimMapViews
import Derived.JoinedTies
import Derived.KernelRfl
namespace Go.Proofs.Ytmfphmjaokeeaaa
/- THE CELL 'sum', in the pinned program and in every row, IS THE sha256 OF THE DUMP (.gsa) THAT YtmfphmjaokeeaaaProg.lean LOADS. Nothing in Lean hashes anything: it is a label: what it is worth is what the hold of that sum in a sandbox is worth. -/
noncomputable def Try.pinned : Pinned := { name := "ytmfphmjaokeeaaa", sum := "6c6bf5cbd89ec603ad560c484a9f7a31c0425d3eba4339e37621a9b60b4796f4", checked := Try.checked }
namespace Rows
def none {H : Type} : Left H := { results := [], args := [] }

/-- 'laws.FnExactCardOk': WHATEVER THE INPUT: true; the input reads as it did. -/
def fnExactCardOkSpec : ChangeSpec := { name := "fnExactCardOk", fn := fun _ => fun
  | [d] => { results := [.lit (.bool true)], args := [d] }
  | _ => none }
def fnExactCardOkRow : OpenClaim := { program := "ytmfphmjaokeeaaa", sum := "6c6bf5cbd89ec603ad560c484a9f7a31c0425d3eba4339e37621a9b60b4796f4", func := "loop.example/g03310/laws.FnExactCardOk", spec := "fnExactCardOk", apart := false }
def FnExactCardOkSaid : Prop := fnExactCardOkRow.holds Try.pinned (OpenSpec.ofChange fnExactCardOkSpec)

/-- ITS FALSE NEIGHBOUR: 'it returns false'. Refute it at one input. -/
def fnExactCardOkWrong : ChangeSpec := { name := "fnExactCardOk", fn := fun _ => fun
  | [d] => { results := [.lit (.bool false)], args := [d] }
  | _ => none }
def FnExactCardOkWrongFalsely : Prop := fnExactCardOkRow.holds Try.pinned (OpenSpec.ofChange fnExactCardOkWrong)

/-- 'laws.FnExactLoavesFor': WHATEVER THE INPUT: true; the input reads as it did. -/
def fnExactLoavesForSpec : ChangeSpec := { name := "fnExactLoavesFor", fn := fun _ => fun
  | [d1, d2] => { results := [.lit (.bool true)], args := [d1, d2] }
  | _ => none }
def fnExactLoavesForRow : OpenClaim := { program := "ytmfphmjaokeeaaa", sum := "6c6bf5cbd89ec603ad560c484a9f7a31c0425d3eba4339e37621a9b60b4796f4", func := "loop.example/g03310/laws.FnExactLoavesFor", spec := "fnExactLoavesFor", apart := false }
def FnExactLoavesForSaid : Prop := fnExactLoavesForRow.holds Try.pinned (OpenSpec.ofChange fnExactLoavesForSpec)

/-- ITS FALSE NEIGHBOUR: 'it returns false'. Refute it at one input. -/
def fnExactLoavesForWrong : ChangeSpec := { name := "fnExactLoavesFor", fn := fun _ => fun
  | [d1, d2] => { results := [.lit (.bool false)], args := [d1, d2] }
  | _ => none }
def FnExactLoavesForWrongFalsely : Prop := fnExactLoavesForRow.holds Try.pinned (OpenSpec.ofChange fnExactLoavesForWrong)

/-- 'laws.FnExactIceFor': WHATEVER THE INPUT: true; the input reads as it did. -/
def fnExactIceForSpec : ChangeSpec := { name := "fnExactIceFor", fn := fun _ => fun
  | [d1, d2] => { results := [.lit (.bool true)], args := [d1, d2] }
  | _ => none }
def fnExactIceForRow : OpenClaim := { program := "ytmfphmjaokeeaaa", sum := "6c6bf5cbd89ec603ad560c484a9f7a31c0425d3eba4339e37621a9b60b4796f4", func := "loop.example/g03310/laws.FnExactIceFor", spec := "fnExactIceFor", apart := false }
def FnExactIceForSaid : Prop := fnExactIceForRow.holds Try.pinned (OpenSpec.ofChange fnExactIceForSpec)

/-- ITS FALSE NEIGHBOUR: 'it returns false'. Refute it at one input. -/
def fnExactIceForWrong : ChangeSpec := { name := "fnExactIceFor", fn := fun _ => fun
  | [d1, d2] => { results := [.lit (.bool false)], args := [d1, d2] }
  | _ => none }
def FnExactIceForWrongFalsely : Prop := fnExactIceForRow.holds Try.pinned (OpenSpec.ofChange fnExactIceForWrong)

/-- 'laws.FnExactWaterFor': WHATEVER THE INPUT: true; the input reads as it did. -/
def fnExactWaterForSpec : ChangeSpec := { name := "fnExactWaterFor", fn := fun _ => fun
  | [d1, d2, d3, d4] => { results := [.lit (.bool true)], args := [d1, d2, d3, d4] }
  | _ => none }
def fnExactWaterForRow : OpenClaim := { program := "ytmfphmjaokeeaaa", sum := "6c6bf5cbd89ec603ad560c484a9f7a31c0425d3eba4339e37621a9b60b4796f4", func := "loop.example/g03310/laws.FnExactWaterFor", spec := "fnExactWaterFor", unfollowed := true, recurses := true, apart := false }
def FnExactWaterForSaid : Prop := fnExactWaterForRow.holds Try.pinned (OpenSpec.ofChange fnExactWaterForSpec)

/-- ITS FALSE NEIGHBOUR: 'it returns false'. Refute it at one input. -/
def fnExactWaterForWrong : ChangeSpec := { name := "fnExactWaterFor", fn := fun _ => fun
  | [d1, d2, d3, d4] => { results := [.lit (.bool false)], args := [d1, d2, d3, d4] }
  | _ => none }
def FnExactWaterForWrongFalsely : Prop := fnExactWaterForRow.holds Try.pinned (OpenSpec.ofChange fnExactWaterForWrong)

/-- 'laws.FnExactCanReach': WHATEVER THE INPUT: true; the input reads as it did. -/
def fnExactCanReachSpec : ChangeSpec := { name := "fnExactCanReach", fn := fun _ => fun
  | [d1, d2, d3, d4] => { results := [.lit (.bool true)], args := [d1, d2, d3, d4] }
  | _ => none }
def fnExactCanReachRow : OpenClaim := { program := "ytmfphmjaokeeaaa", sum := "6c6bf5cbd89ec603ad560c484a9f7a31c0425d3eba4339e37621a9b60b4796f4", func := "loop.example/g03310/laws.FnExactCanReach", spec := "fnExactCanReach", unfollowed := true, recurses := true, apart := false }
def FnExactCanReachSaid : Prop := fnExactCanReachRow.holds Try.pinned (OpenSpec.ofChange fnExactCanReachSpec)

/-- ITS FALSE NEIGHBOUR: 'it returns false'. Refute it at one input. -/
def fnExactCanReachWrong : ChangeSpec := { name := "fnExactCanReach", fn := fun _ => fun
  | [d1, d2, d3, d4] => { results := [.lit (.bool false)], args := [d1, d2, d3, d4] }
  | _ => none }
def FnExactCanReachWrongFalsely : Prop := fnExactCanReachRow.holds Try.pinned (OpenSpec.ofChange fnExactCanReachWrong)

/-- 'laws.FnExactDoughHeat': WHATEVER THE INPUT: true; the input reads as it did. -/
def fnExactDoughHeatSpec : ChangeSpec := { name := "fnExactDoughHeat", fn := fun _ => fun
  | [d1, d2, d3, d4] => { results := [.lit (.bool true)], args := [d1, d2, d3, d4] }
  | _ => none }
def fnExactDoughHeatRow : OpenClaim := { program := "ytmfphmjaokeeaaa", sum := "6c6bf5cbd89ec603ad560c484a9f7a31c0425d3eba4339e37621a9b60b4796f4", func := "loop.example/g03310/laws.FnExactDoughHeat", spec := "fnExactDoughHeat", unfollowed := true, recurses := true, apart := false }
def FnExactDoughHeatSaid : Prop := fnExactDoughHeatRow.holds Try.pinned (OpenSpec.ofChange fnExactDoughHeatSpec)

/-- ITS FALSE NEIGHBOUR: 'it returns false'. Refute it at one input. -/
def fnExactDoughHeatWrong : ChangeSpec := { name := "fnExactDoughHeat", fn := fun _ => fun
  | [d1, d2, d3, d4] => { results := [.lit (.bool false)], args := [d1, d2, d3, d4] }
  | _ => none }
def FnExactDoughHeatWrongFalsely : Prop := fnExactDoughHeatRow.holds Try.pinned (OpenSpec.ofChange fnExactDoughHeatWrong)

/-- 'laws.FnExactHottestFlour': WHATEVER THE INPUT: true; the input reads as it did. -/
def fnExactHottestFlourSpec : ChangeSpec := { name := "fnExactHottestFlour", fn := fun _ => fun
  | [d1, d2, d3] => { results := [.lit (.bool true)], args := [d1, d2, d3] }
  | _ => none }
def fnExactHottestFlourRow : OpenClaim := { program := "ytmfphmjaokeeaaa", sum := "6c6bf5cbd89ec603ad560c484a9f7a31c0425d3eba4339e37621a9b60b4796f4", func := "loop.example/g03310/laws.FnExactHottestFlour", spec := "fnExactHottestFlour", unfollowed := true, recurses := true, apart := false }
def FnExactHottestFlourSaid : Prop := fnExactHottestFlourRow.holds Try.pinned (OpenSpec.ofChange fnExactHottestFlourSpec)

/-- ITS FALSE NEIGHBOUR: 'it returns false'. Refute it at one input. -/
def fnExactHottestFlourWrong : ChangeSpec := { name := "fnExactHottestFlour", fn := fun _ => fun
  | [d1, d2, d3] => { results := [.lit (.bool false)], args := [d1, d2, d3] }
  | _ => none }
def FnExactHottestFlourWrongFalsely : Prop := fnExactHottestFlourRow.holds Try.pinned (OpenSpec.ofChange fnExactHottestFlourWrong)

/-- 'laws.FnWarms': WHATEVER THE INPUT: true; the input reads as it did. -/
def fnWarmsSpec : ChangeSpec := { name := "fnWarms", fn := fun _ => fun
  | [d] => { results := [.lit (.bool true)], args := [d] }
  | _ => none }
def fnWarmsRow : OpenClaim := { program := "ytmfphmjaokeeaaa", sum := "6c6bf5cbd89ec603ad560c484a9f7a31c0425d3eba4339e37621a9b60b4796f4", func := "loop.example/g03310/laws.FnWarms", spec := "fnWarms", unfollowed := true, recurses := true, apart := false }
def FnWarmsSaid : Prop := fnWarmsRow.holds Try.pinned (OpenSpec.ofChange fnWarmsSpec)

/-- ITS FALSE NEIGHBOUR: 'it returns false'. Refute it at one input. -/
def fnWarmsWrong : ChangeSpec := { name := "fnWarms", fn := fun _ => fun
  | [d] => { results := [.lit (.bool false)], args := [d] }
  | _ => none }
def FnWarmsWrongFalsely : Prop := fnWarmsRow.holds Try.pinned (OpenSpec.ofChange fnWarmsWrong)

/- THE SECOND FORM. 'bulk': how many values and letters a reading holds, each counted each time it is reached (what is shared counts as often as it is met; a slice's spare places count too). A statement '..UptoSaid' is the law's where the arguments, and the package variables that the reading takes, are together of bulk at most 1048576: NARROWER than '..Said'. Prove '..Said' where nothing that the law and all that it calls make is longer than what came in: it says more and counts as full. Else prove '..UptoSaid'. A law counts once. -/
mutual
def uptoBulk {H : Type} : DataW H → Nat
  | .lit (.string bytes) => bytes.length + 1
  | .lit _ => 1
  | .nil => 1
  | .ptr d => uptoBulk d + 1
  | .slice elems spare => uptoBulkAll elems + uptoBulkAll spare + 1
  | .agg parts => uptoBulkAll parts + 1
  | .iface _ d => uptoBulk d + 1
  | .map entries => uptoBulkEntries entries + 1
  | .held _ => 1
def uptoBulkAll {H : Type} : List (DataW H) → Nat
  | [] => 0
  | d :: r => uptoBulk d + uptoBulkAll r
def uptoBulkEntries {H : Type} : List (Lit × DataW H) → Nat
  | [] => 0
  | x :: r => uptoBulkEntry x + uptoBulkEntries r
def uptoBulkEntry {H : Type} : Lit × DataW H → Nat
  | (.string bytes, d) => bytes.length + uptoBulk d + 1
  | (_, d) => uptoBulk d + 1
 end
def uptoSmall : (H : Type) → List (DataW H) → Bool := fun _ ds => decide (uptoBulkAll ds ≤ 1048576)
def OpenSpec.upto (s : _root_.Go.ChangeSpec) : _root_.Go.OpenSpec := { _root_.Go.OpenSpec.ofChange s with cond := some uptoSmall }

/-- 'laws.FnExactCardOk', WHERE WHAT IT READS IS OF BULK AT MOST 1048576: true; the input reads as it did. -/
def fnExactCardOkUptoRow : OpenClaim := { program := "ytmfphmjaokeeaaa", sum := "6c6bf5cbd89ec603ad560c484a9f7a31c0425d3eba4339e37621a9b60b4796f4", func := "loop.example/g03310/laws.FnExactCardOk", spec := "fnExactCardOk", apart := false, narrowed := true }
def FnExactCardOkUptoSaid : Prop := fnExactCardOkUptoRow.holds Try.pinned (OpenSpec.upto fnExactCardOkSpec)

/-- 'laws.FnExactLoavesFor', WHERE WHAT IT READS IS OF BULK AT MOST 1048576: true; the input reads as it did. -/
def fnExactLoavesForUptoRow : OpenClaim := { program := "ytmfphmjaokeeaaa", sum := "6c6bf5cbd89ec603ad560c484a9f7a31c0425d3eba4339e37621a9b60b4796f4", func := "loop.example/g03310/laws.FnExactLoavesFor", spec := "fnExactLoavesFor", apart := false, narrowed := true }
def FnExactLoavesForUptoSaid : Prop := fnExactLoavesForUptoRow.holds Try.pinned (OpenSpec.upto fnExactLoavesForSpec)

/-- 'laws.FnExactIceFor', WHERE WHAT IT READS IS OF BULK AT MOST 1048576: true; the input reads as it did. -/
def fnExactIceForUptoRow : OpenClaim := { program := "ytmfphmjaokeeaaa", sum := "6c6bf5cbd89ec603ad560c484a9f7a31c0425d3eba4339e37621a9b60b4796f4", func := "loop.example/g03310/laws.FnExactIceFor", spec := "fnExactIceFor", apart := false, narrowed := true }
def FnExactIceForUptoSaid : Prop := fnExactIceForUptoRow.holds Try.pinned (OpenSpec.upto fnExactIceForSpec)

/-- 'laws.FnExactWaterFor', WHERE WHAT IT READS IS OF BULK AT MOST 1048576: true; the input reads as it did. -/
def fnExactWaterForUptoRow : OpenClaim := { program := "ytmfphmjaokeeaaa", sum := "6c6bf5cbd89ec603ad560c484a9f7a31c0425d3eba4339e37621a9b60b4796f4", func := "loop.example/g03310/laws.FnExactWaterFor", spec := "fnExactWaterFor", unfollowed := true, recurses := true, apart := false, narrowed := true }
def FnExactWaterForUptoSaid : Prop := fnExactWaterForUptoRow.holds Try.pinned (OpenSpec.upto fnExactWaterForSpec)

/-- 'laws.FnExactCanReach', WHERE WHAT IT READS IS OF BULK AT MOST 1048576: true; the input reads as it did. -/
def fnExactCanReachUptoRow : OpenClaim := { program := "ytmfphmjaokeeaaa", sum := "6c6bf5cbd89ec603ad560c484a9f7a31c0425d3eba4339e37621a9b60b4796f4", func := "loop.example/g03310/laws.FnExactCanReach", spec := "fnExactCanReach", unfollowed := true, recurses := true, apart := false, narrowed := true }
def FnExactCanReachUptoSaid : Prop := fnExactCanReachUptoRow.holds Try.pinned (OpenSpec.upto fnExactCanReachSpec)

/-- 'laws.FnExactDoughHeat', WHERE WHAT IT READS IS OF BULK AT MOST 1048576: true; the input reads as it did. -/
def fnExactDoughHeatUptoRow : OpenClaim := { program := "ytmfphmjaokeeaaa", sum := "6c6bf5cbd89ec603ad560c484a9f7a31c0425d3eba4339e37621a9b60b4796f4", func := "loop.example/g03310/laws.FnExactDoughHeat", spec := "fnExactDoughHeat", unfollowed := true, recurses := true, apart := false, narrowed := true }
def FnExactDoughHeatUptoSaid : Prop := fnExactDoughHeatUptoRow.holds Try.pinned (OpenSpec.upto fnExactDoughHeatSpec)

/-- 'laws.FnExactHottestFlour', WHERE WHAT IT READS IS OF BULK AT MOST 1048576: true; the input reads as it did. -/
def fnExactHottestFlourUptoRow : OpenClaim := { program := "ytmfphmjaokeeaaa", sum := "6c6bf5cbd89ec603ad560c484a9f7a31c0425d3eba4339e37621a9b60b4796f4", func := "loop.example/g03310/laws.FnExactHottestFlour", spec := "fnExactHottestFlour", unfollowed := true, recurses := true, apart := false, narrowed := true }
def FnExactHottestFlourUptoSaid : Prop := fnExactHottestFlourUptoRow.holds Try.pinned (OpenSpec.upto fnExactHottestFlourSpec)

/-- 'laws.FnWarms', WHERE WHAT IT READS IS OF BULK AT MOST 1048576: true; the input reads as it did. -/
def fnWarmsUptoRow : OpenClaim := { program := "ytmfphmjaokeeaaa", sum := "6c6bf5cbd89ec603ad560c484a9f7a31c0425d3eba4339e37621a9b60b4796f4", func := "loop.example/g03310/laws.FnWarms", spec := "fnWarms", unfollowed := true, recurses := true, apart := false, narrowed := true }
def FnWarmsUptoSaid : Prop := fnWarmsUptoRow.holds Try.pinned (OpenSpec.upto fnWarmsSpec)

end Rows
end Go.Proofs.Ytmfphmjaokeeaaa
