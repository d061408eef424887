/-
  No cell of these rows narrows 'for every input' (looked for: loops, veiled, ifaces, maps, wideKeys, modest, calm, conditions, laid).
  DERIVED. THE GIVEN ROWS OF THIS SEAT. 6 by the template 'for every input the law returns true; each argument reads behind the call as it read before'; 0 by the template 'total and deterministic' (their statements: YthdgbngnddkkiaaTotals.lean).
  GIVEN WITH THE SEED: the statements are not yours to turn. If you find one false, say at which input.
  Laid BY PROGRAM, IN A SANDBOX (cutbox-rows.mjs): the forced cells as the released guide's own fill.sh prints them over the translation ab7ca8904609c576… (all of the seat's roots in one cut). By AI agents, Wed Nov 11 2026. No macro, syntax, notation, axiom, sorry.
-/
import Derived.Test.YthdgbngnddkkiaaChecked
import GoSem.Claim
import GoSem.ClaimJoined
import GoSem.ClaimMapViews
import Derived.JoinedTies
import Derived.KernelRfl
namespace Go.Proofs.Ythdgbngnddkkiaa
/- THE CELL 'sum', in the pinned program and in every row, IS THE sha256 OF THE DUMP (.gsa) THAT YthdgbngnddkkiaaProg.lean LOADS. Nothing in Lean hashes anything: it is a label: what it is worth is what the hold of that sum in a sandbox is worth. -/
noncomputable def Try.pinned : Pinned := { name := "ythdgbngnddkkiaa", sum := "ab7ca8904609c576250e6120a29d2603a19dd0b06c34278805731050c6b3d2bc", checked := Try.checked }
namespace Rows
def none {H : Type} : Left H := { results := [], args := [] }

/-- 'laws.FnExactUsedOf': WHATEVER THE INPUT: true; the input reads as it did. -/
def fnExactUsedOfSpec : ChangeSpec := { name := "fnExactUsedOf", fn := fun _ => fun
  | [d1, d2] => { results := [.lit (.bool true)], args := [d1, d2] }
  | _ => none }
def fnExactUsedOfRow : OpenClaim := { program := "ythdgbngnddkkiaa", sum := "ab7ca8904609c576250e6120a29d2603a19dd0b06c34278805731050c6b3d2bc", func := "loop.example/g03310/laws.FnExactUsedOf", spec := "fnExactUsedOf", unfollowed := true, recurses := true, apart := false }
def FnExactUsedOfSaid : Prop := fnExactUsedOfRow.holds Try.pinned (OpenSpec.ofChange fnExactUsedOfSpec)

/-- ITS FALSE NEIGHBOUR: 'it returns false'. Refute it at one input. -/
def fnExactUsedOfWrong : ChangeSpec := { name := "fnExactUsedOf", fn := fun _ => fun
  | [d1, d2] => { results := [.lit (.bool false)], args := [d1, d2] }
  | _ => none }
def FnExactUsedOfWrongFalsely : Prop := fnExactUsedOfRow.holds Try.pinned (OpenSpec.ofChange fnExactUsedOfWrong)

/-- 'laws.FnExactBreadsOf': WHATEVER THE INPUT: true; the input reads as it did. -/
def fnExactBreadsOfSpec : ChangeSpec := { name := "fnExactBreadsOf", fn := fun _ => fun
  | [d1, d2] => { results := [.lit (.bool true)], args := [d1, d2] }
  | _ => none }
def fnExactBreadsOfRow : OpenClaim := { program := "ythdgbngnddkkiaa", sum := "ab7ca8904609c576250e6120a29d2603a19dd0b06c34278805731050c6b3d2bc", func := "loop.example/g03310/laws.FnExactBreadsOf", spec := "fnExactBreadsOf", unfollowed := true, recurses := true, apart := false }
def FnExactBreadsOfSaid : Prop := fnExactBreadsOfRow.holds Try.pinned (OpenSpec.ofChange fnExactBreadsOfSpec)

/-- ITS FALSE NEIGHBOUR: 'it returns false'. Refute it at one input. -/
def fnExactBreadsOfWrong : ChangeSpec := { name := "fnExactBreadsOf", fn := fun _ => fun
  | [d1, d2] => { results := [.lit (.bool false)], args := [d1, d2] }
  | _ => none }
def FnExactBreadsOfWrongFalsely : Prop := fnExactBreadsOfRow.holds Try.pinned (OpenSpec.ofChange fnExactBreadsOfWrong)

/-- 'laws.FnExactLotsOf': WHATEVER THE INPUT: true; the input reads as it did. -/
def fnExactLotsOfSpec : ChangeSpec := { name := "fnExactLotsOf", fn := fun _ => fun
  | [d1, d2] => { results := [.lit (.bool true)], args := [d1, d2] }
  | _ => none }
def fnExactLotsOfRow : OpenClaim := { program := "ythdgbngnddkkiaa", sum := "ab7ca8904609c576250e6120a29d2603a19dd0b06c34278805731050c6b3d2bc", func := "loop.example/g03310/laws.FnExactLotsOf", spec := "fnExactLotsOf", unfollowed := true, recurses := true, apart := false }
def FnExactLotsOfSaid : Prop := fnExactLotsOfRow.holds Try.pinned (OpenSpec.ofChange fnExactLotsOfSpec)

/-- ITS FALSE NEIGHBOUR: 'it returns false'. Refute it at one input. -/
def fnExactLotsOfWrong : ChangeSpec := { name := "fnExactLotsOf", fn := fun _ => fun
  | [d1, d2] => { results := [.lit (.bool false)], args := [d1, d2] }
  | _ => none }
def FnExactLotsOfWrongFalsely : Prop := fnExactLotsOfRow.holds Try.pinned (OpenSpec.ofChange fnExactLotsOfWrong)

/-- 'laws.FnLots': WHATEVER THE INPUT: true; the input reads as it did. -/
def fnLotsSpec : ChangeSpec := { name := "fnLots", fn := fun _ => fun
  | [d] => { results := [.lit (.bool true)], args := [d] }
  | _ => none }
def fnLotsRow : OpenClaim := { program := "ythdgbngnddkkiaa", sum := "ab7ca8904609c576250e6120a29d2603a19dd0b06c34278805731050c6b3d2bc", func := "loop.example/g03310/laws.FnLots", spec := "fnLots", unfollowed := true, recurses := true, apart := false }
def FnLotsSaid : Prop := fnLotsRow.holds Try.pinned (OpenSpec.ofChange fnLotsSpec)

/-- ITS FALSE NEIGHBOUR: 'it returns false'. Refute it at one input. -/
def fnLotsWrong : ChangeSpec := { name := "fnLots", fn := fun _ => fun
  | [d] => { results := [.lit (.bool false)], args := [d] }
  | _ => none }
def FnLotsWrongFalsely : Prop := fnLotsRow.holds Try.pinned (OpenSpec.ofChange fnLotsWrong)

/-- 'laws.FnExactSuspects': WHATEVER THE INPUT: true; the input reads as it did. -/
def fnExactSuspectsSpec : ChangeSpec := { name := "fnExactSuspects", fn := fun _ => fun
  | [d1, d2] => { results := [.lit (.bool true)], args := [d1, d2] }
  | _ => none }
def fnExactSuspectsRow : OpenClaim := { program := "ythdgbngnddkkiaa", sum := "ab7ca8904609c576250e6120a29d2603a19dd0b06c34278805731050c6b3d2bc", func := "loop.example/g03310/laws.FnExactSuspects", spec := "fnExactSuspects", unfollowed := true, recurses := true, apart := false }
def FnExactSuspectsSaid : Prop := fnExactSuspectsRow.holds Try.pinned (OpenSpec.ofChange fnExactSuspectsSpec)

/-- ITS FALSE NEIGHBOUR: 'it returns false'. Refute it at one input. -/
def fnExactSuspectsWrong : ChangeSpec := { name := "fnExactSuspects", fn := fun _ => fun
  | [d1, d2] => { results := [.lit (.bool false)], args := [d1, d2] }
  | _ => none }
def FnExactSuspectsWrongFalsely : Prop := fnExactSuspectsRow.holds Try.pinned (OpenSpec.ofChange fnExactSuspectsWrong)

/-- 'laws.FnExactReached': WHATEVER THE INPUT: true; the input reads as it did. -/
def fnExactReachedSpec : ChangeSpec := { name := "fnExactReached", fn := fun _ => fun
  | [d1, d2] => { results := [.lit (.bool true)], args := [d1, d2] }
  | _ => none }
def fnExactReachedRow : OpenClaim := { program := "ythdgbngnddkkiaa", sum := "ab7ca8904609c576250e6120a29d2603a19dd0b06c34278805731050c6b3d2bc", func := "loop.example/g03310/laws.FnExactReached", spec := "fnExactReached", unfollowed := true, recurses := true, apart := false }
def FnExactReachedSaid : Prop := fnExactReachedRow.holds Try.pinned (OpenSpec.ofChange fnExactReachedSpec)

/-- ITS FALSE NEIGHBOUR: 'it returns false'. Refute it at one input. -/
def fnExactReachedWrong : ChangeSpec := { name := "fnExactReached", fn := fun _ => fun
  | [d1, d2] => { results := [.lit (.bool false)], args := [d1, d2] }
  | _ => none }
def FnExactReachedWrongFalsely : Prop := fnExactReachedRow.holds Try.pinned (OpenSpec.ofChange fnExactReachedWrong)

/- THE SECOND FORM. 'bulk': how many values and letters a reading holds, each counted each time it is reached (what is shared counts as often as it is met; a slice's spare places count too). A statement '..UptoSaid' is the law's where the arguments, and the package variables that the reading takes, are together of bulk at most 1048576: NARROWER than '..Said'. Prove '..Said' where nothing that the law and all that it calls make is longer than what came in: it says more and counts as full. Else prove '..UptoSaid'. A law counts once. -/
mutual
def uptoBulk {H : Type} : DataW H → Nat
  | .lit (.string bytes) => bytes.length + 1
  | .lit _ => 1
  | .nil => 1
  | .ptr d => uptoBulk d + 1
  | .slice elems spare => uptoBulkAll elems + uptoBulkAll spare + 1
  | .agg parts => uptoBulkAll parts + 1
  | .iface _ d => uptoBulk d + 1
  | .map entries => uptoBulkEntries entries + 1
  | .held _ => 1
def uptoBulkAll {H : Type} : List (DataW H) → Nat
  | [] => 0
  | d :: r => uptoBulk d + uptoBulkAll r
def uptoBulkEntries {H : Type} : List (Lit × DataW H) → Nat
  | [] => 0
  | x :: r => uptoBulkEntry x + uptoBulkEntries r
def uptoBulkEntry {H : Type} : Lit × DataW H → Nat
  | (.string bytes, d) => bytes.length + uptoBulk d + 1
  | (_, d) => uptoBulk d + 1
 end
def uptoSmall : (H : Type) → List (DataW H) → Bool := fun _ ds => decide (uptoBulkAll ds ≤ 1048576)
def OpenSpec.upto (s : _root_.Go.ChangeSpec) : _root_.Go.OpenSpec := { _root_.Go.OpenSpec.ofChange s with cond := some uptoSmall }

/-- 'laws.FnExactUsedOf', WHERE WHAT IT READS IS OF BULK AT MOST 1048576: true; the input reads as it did. -/
def fnExactUsedOfUptoRow : OpenClaim := { program := "ythdgbngnddkkiaa", sum := "ab7ca8904609c576250e6120a29d2603a19dd0b06c34278805731050c6b3d2bc", func := "loop.example/g03310/laws.FnExactUsedOf", spec := "fnExactUsedOf", unfollowed := true, recurses := true, apart := false, narrowed := true }
def FnExactUsedOfUptoSaid : Prop := fnExactUsedOfUptoRow.holds Try.pinned (OpenSpec.upto fnExactUsedOfSpec)

/-- 'laws.FnExactBreadsOf', WHERE WHAT IT READS IS OF BULK AT MOST 1048576: true; the input reads as it did. -/
def fnExactBreadsOfUptoRow : OpenClaim := { program := "ythdgbngnddkkiaa", sum := "ab7ca8904609c576250e6120a29d2603a19dd0b06c34278805731050c6b3d2bc", func := "loop.example/g03310/laws.FnExactBreadsOf", spec := "fnExactBreadsOf", unfollowed := true, recurses := true, apart := false, narrowed := true }
def FnExactBreadsOfUptoSaid : Prop := fnExactBreadsOfUptoRow.holds Try.pinned (OpenSpec.upto fnExactBreadsOfSpec)

/-- 'laws.FnExactLotsOf', WHERE WHAT IT READS IS OF BULK AT MOST 1048576: true; the input reads as it did. -/
def fnExactLotsOfUptoRow : OpenClaim := { program := "ythdgbngnddkkiaa", sum := "ab7ca8904609c576250e6120a29d2603a19dd0b06c34278805731050c6b3d2bc", func := "loop.example/g03310/laws.FnExactLotsOf", spec := "fnExactLotsOf", unfollowed := true, recurses := true, apart := false, narrowed := true }
def FnExactLotsOfUptoSaid : Prop := fnExactLotsOfUptoRow.holds Try.pinned (OpenSpec.upto fnExactLotsOfSpec)

/-- 'laws.FnLots', WHERE WHAT IT READS IS OF BULK AT MOST 1048576: true; the input reads as it did. -/
def fnLotsUptoRow : OpenClaim := { program := "ythdgbngnddkkiaa", sum := "ab7ca8904609c576250e6120a29d2603a19dd0b06c34278805731050c6b3d2bc", func := "loop.example/g03310/laws.FnLots", spec := "fnLots", unfollowed := true, recurses := true, apart := false, narrowed := true }
def FnLotsUptoSaid : Prop := fnLotsUptoRow.holds Try.pinned (OpenSpec.upto fnLotsSpec)

/-- 'laws.FnExactSuspects', WHERE WHAT IT READS IS OF BULK AT MOST 1048576: true; the input reads as it did. -/
def fnExactSuspectsUptoRow : OpenClaim := { program := "ythdgbngnddkkiaa", sum := "ab7ca8904609c576250e6120a29d2603a19dd0b06c34278805731050c6b3d2bc", func := "loop.example/g03310/laws.FnExactSuspects", spec := "fnExactSuspects", unfollowed := true, recurses := true, apart := false, narrowed := true }
def FnExactSuspectsUptoSaid : Prop := fnExactSuspectsUptoRow.holds Try.pinned (OpenSpec.upto fnExactSuspectsSpec)

/-- 'laws.FnExactReached', WHERE WHAT IT READS IS OF BULK AT MOST 1048576: true; the input reads as it did. -/
def fnExactReachedUptoRow : OpenClaim := { program := "ythdgbngnddkkiaa", sum := "ab7ca8904609c576250e6120a29d2603a19dd0b06c34278805731050c6b3d2bc", func := "loop.example/g03310/laws.FnExactReached", spec := "fnExactReached", unfollowed := true, recurses := true, apart := false, narrowed := true }
def FnExactReachedUptoSaid : Prop := fnExactReachedUptoRow.holds Try.pinned (OpenSpec.upto fnExactReachedSpec)

end Rows
end Go.Proofs.Ythdgbngnddkkiaa
