/-
  No cell of these rows narrows 'for every input' (looked for: loops, veiled, ifaces, maps, wideKeys, modest, calm, conditions, laid).
  DERIVED. THE GIVEN ROWS OF THIS SEAT. 7 by the template 'for every input the law returns true; each argument reads behind the call as it read before'; 0 by the template 'total and deterministic' (their statements: YtobngbiiifjgkaaTotals.lean).
  GIVEN WITH THE SEED: the statements are not yours to turn. If you find one false, say at which input.
  Laid BY PROGRAM, IN A SANDBOX (cutbox-rows.mjs): the forced cells as the released guide's own fill.sh prints them over the translation 1b7d9a0a569cacd3… (all of the seat's roots in one cut). By AI agents, Wed Nov 11 2026. No macro, syntax, notation, axiom, sorry.
-/
import Derived.Test.YtobngbiiifjgkaaChecked
import GoSem.Claim
import GoSem.ClaimJoined
import GoSem.ClaimMapViews
import Derived.JoinedTies
import Derived.KernelRfl
namespace Go.Proofs.Ytobngbiiifjgkaa
/- THE CELL 'sum', in the pinned program and in every row, IS THE sha256 OF THE DUMP (.gsa) THAT YtobngbiiifjgkaaProg.lean LOADS. Nothing in Lean hashes anything: it is a label: what it is worth is what the hold of that sum in a sandbox is worth. -/
noncomputable def Try.pinned : Pinned := { name := "ytobngbiiifjgkaa", sum := "1b7d9a0a569cacd3fae92d2b29ce1fc92aac44804fa80ff3c1124929bf17ab50", checked := Try.checked }
namespace Rows
def none {H : Type} : Left H := { results := [], args := [] }

/-- 'laws.FnExactCostOk': WHATEVER THE INPUT: true; the input reads as it did. -/
def fnExactCostOkSpec : ChangeSpec := { name := "fnExactCostOk", fn := fun _ => fun
  | [d] => { results := [.lit (.bool true)], args := [d] }
  | _ => none }
def fnExactCostOkRow : OpenClaim := { program := "ytobngbiiifjgkaa", sum := "1b7d9a0a569cacd3fae92d2b29ce1fc92aac44804fa80ff3c1124929bf17ab50", func := "loop.example/g03310/laws.FnExactCostOk", spec := "fnExactCostOk", unfollowed := true, recurses := true, apart := false }
def FnExactCostOkSaid : Prop := fnExactCostOkRow.holds Try.pinned (OpenSpec.ofChange fnExactCostOkSpec)

/-- ITS FALSE NEIGHBOUR: 'it returns false'. Refute it at one input. -/
def fnExactCostOkWrong : ChangeSpec := { name := "fnExactCostOk", fn := fun _ => fun
  | [d] => { results := [.lit (.bool false)], args := [d] }
  | _ => none }
def FnExactCostOkWrongFalsely : Prop := fnExactCostOkRow.holds Try.pinned (OpenSpec.ofChange fnExactCostOkWrong)

/-- 'laws.FnExactPriceFor': WHATEVER THE INPUT: true; the input reads as it did. -/
def fnExactPriceForSpec : ChangeSpec := { name := "fnExactPriceFor", fn := fun _ => fun
  | [d1, d2] => { results := [.lit (.bool true)], args := [d1, d2] }
  | _ => none }
def fnExactPriceForRow : OpenClaim := { program := "ytobngbiiifjgkaa", sum := "1b7d9a0a569cacd3fae92d2b29ce1fc92aac44804fa80ff3c1124929bf17ab50", func := "loop.example/g03310/laws.FnExactPriceFor", spec := "fnExactPriceFor", unfollowed := true, recurses := true, apart := false }
def FnExactPriceForSaid : Prop := fnExactPriceForRow.holds Try.pinned (OpenSpec.ofChange fnExactPriceForSpec)

/-- ITS FALSE NEIGHBOUR: 'it returns false'. Refute it at one input. -/
def fnExactPriceForWrong : ChangeSpec := { name := "fnExactPriceFor", fn := fun _ => fun
  | [d1, d2] => { results := [.lit (.bool false)], args := [d1, d2] }
  | _ => none }
def FnExactPriceForWrongFalsely : Prop := fnExactPriceForRow.holds Try.pinned (OpenSpec.ofChange fnExactPriceForWrong)

/-- 'laws.FnExactLargestPart': WHATEVER THE INPUT: true; the input reads as it did. -/
def fnExactLargestPartSpec : ChangeSpec := { name := "fnExactLargestPart", fn := fun _ => fun
  | [d] => { results := [.lit (.bool true)], args := [d] }
  | _ => none }
def fnExactLargestPartRow : OpenClaim := { program := "ytobngbiiifjgkaa", sum := "1b7d9a0a569cacd3fae92d2b29ce1fc92aac44804fa80ff3c1124929bf17ab50", func := "loop.example/g03310/laws.FnExactLargestPart", spec := "fnExactLargestPart", unfollowed := true, recurses := true, apart := false }
def FnExactLargestPartSaid : Prop := fnExactLargestPartRow.holds Try.pinned (OpenSpec.ofChange fnExactLargestPartSpec)

/-- ITS FALSE NEIGHBOUR: 'it returns false'. Refute it at one input. -/
def fnExactLargestPartWrong : ChangeSpec := { name := "fnExactLargestPart", fn := fun _ => fun
  | [d] => { results := [.lit (.bool false)], args := [d] }
  | _ => none }
def FnExactLargestPartWrongFalsely : Prop := fnExactLargestPartRow.holds Try.pinned (OpenSpec.ofChange fnExactLargestPartWrong)

/-- 'laws.FnExactPerLoaf': WHATEVER THE INPUT: true; the input reads as it did. -/
def fnExactPerLoafSpec : ChangeSpec := { name := "fnExactPerLoaf", fn := fun _ => fun
  | [d1, d2] => { results := [.lit (.bool true)], args := [d1, d2] }
  | _ => none }
def fnExactPerLoafRow : OpenClaim := { program := "ytobngbiiifjgkaa", sum := "1b7d9a0a569cacd3fae92d2b29ce1fc92aac44804fa80ff3c1124929bf17ab50", func := "loop.example/g03310/laws.FnExactPerLoaf", spec := "fnExactPerLoaf", unfollowed := true, recurses := true, apart := false }
def FnExactPerLoafSaid : Prop := fnExactPerLoafRow.holds Try.pinned (OpenSpec.ofChange fnExactPerLoafSpec)

/-- ITS FALSE NEIGHBOUR: 'it returns false'. Refute it at one input. -/
def fnExactPerLoafWrong : ChangeSpec := { name := "fnExactPerLoaf", fn := fun _ => fun
  | [d1, d2] => { results := [.lit (.bool false)], args := [d1, d2] }
  | _ => none }
def FnExactPerLoafWrongFalsely : Prop := fnExactPerLoafRow.holds Try.pinned (OpenSpec.ofChange fnExactPerLoafWrong)

/-- 'laws.FnExactAddCosts': WHATEVER THE INPUT: true; the input reads as it did. -/
def fnExactAddCostsSpec : ChangeSpec := { name := "fnExactAddCosts", fn := fun _ => fun
  | [d1, d2] => { results := [.lit (.bool true)], args := [d1, d2] }
  | _ => none }
def fnExactAddCostsRow : OpenClaim := { program := "ytobngbiiifjgkaa", sum := "1b7d9a0a569cacd3fae92d2b29ce1fc92aac44804fa80ff3c1124929bf17ab50", func := "loop.example/g03310/laws.FnExactAddCosts", spec := "fnExactAddCosts", unfollowed := true, recurses := true, apart := false }
def FnExactAddCostsSaid : Prop := fnExactAddCostsRow.holds Try.pinned (OpenSpec.ofChange fnExactAddCostsSpec)

/-- ITS FALSE NEIGHBOUR: 'it returns false'. Refute it at one input. -/
def fnExactAddCostsWrong : ChangeSpec := { name := "fnExactAddCosts", fn := fun _ => fun
  | [d1, d2] => { results := [.lit (.bool false)], args := [d1, d2] }
  | _ => none }
def FnExactAddCostsWrongFalsely : Prop := fnExactAddCostsRow.holds Try.pinned (OpenSpec.ofChange fnExactAddCostsWrong)

/-- 'laws.FnExactMarginOf': WHATEVER THE INPUT: true; the input reads as it did. -/
def fnExactMarginOfSpec : ChangeSpec := { name := "fnExactMarginOf", fn := fun _ => fun
  | [d1, d2] => { results := [.lit (.bool true)], args := [d1, d2] }
  | _ => none }
def fnExactMarginOfRow : OpenClaim := { program := "ytobngbiiifjgkaa", sum := "1b7d9a0a569cacd3fae92d2b29ce1fc92aac44804fa80ff3c1124929bf17ab50", func := "loop.example/g03310/laws.FnExactMarginOf", spec := "fnExactMarginOf", unfollowed := true, recurses := true, apart := false }
def FnExactMarginOfSaid : Prop := fnExactMarginOfRow.holds Try.pinned (OpenSpec.ofChange fnExactMarginOfSpec)

/-- ITS FALSE NEIGHBOUR: 'it returns false'. Refute it at one input. -/
def fnExactMarginOfWrong : ChangeSpec := { name := "fnExactMarginOf", fn := fun _ => fun
  | [d1, d2] => { results := [.lit (.bool false)], args := [d1, d2] }
  | _ => none }
def FnExactMarginOfWrongFalsely : Prop := fnExactMarginOfRow.holds Try.pinned (OpenSpec.ofChange fnExactMarginOfWrong)

/-- 'laws.FnCosts': WHATEVER THE INPUT: true; the input reads as it did. -/
def fnCostsSpec : ChangeSpec := { name := "fnCosts", fn := fun _ => fun
  | [d] => { results := [.lit (.bool true)], args := [d] }
  | _ => none }
def fnCostsRow : OpenClaim := { program := "ytobngbiiifjgkaa", sum := "1b7d9a0a569cacd3fae92d2b29ce1fc92aac44804fa80ff3c1124929bf17ab50", func := "loop.example/g03310/laws.FnCosts", spec := "fnCosts", unfollowed := true, recurses := true, apart := false }
def FnCostsSaid : Prop := fnCostsRow.holds Try.pinned (OpenSpec.ofChange fnCostsSpec)

/-- ITS FALSE NEIGHBOUR: 'it returns false'. Refute it at one input. -/
def fnCostsWrong : ChangeSpec := { name := "fnCosts", fn := fun _ => fun
  | [d] => { results := [.lit (.bool false)], args := [d] }
  | _ => none }
def FnCostsWrongFalsely : Prop := fnCostsRow.holds Try.pinned (OpenSpec.ofChange fnCostsWrong)

/- THE SECOND FORM. 'bulk': how many values and letters a reading holds, each counted each time it is reached (what is shared counts as often as it is met; a slice's spare places count too). A statement '..UptoSaid' is the law's where the arguments, and the package variables that the reading takes, are together of bulk at most 1048576: NARROWER than '..Said'. Prove '..Said' where nothing that the law and all that it calls make is longer than what came in: it says more and counts as full. Else prove '..UptoSaid'. A law counts once. -/
mutual
def uptoBulk {H : Type} : DataW H → Nat
  | .lit (.string bytes) => bytes.length + 1
  | .lit _ => 1
  | .nil => 1
  | .ptr d => uptoBulk d + 1
  | .slice elems spare => uptoBulkAll elems + uptoBulkAll spare + 1
  | .agg parts => uptoBulkAll parts + 1
  | .iface _ d => uptoBulk d + 1
  | .map entries => uptoBulkEntries entries + 1
  | .held _ => 1
def uptoBulkAll {H : Type} : List (DataW H) → Nat
  | [] => 0
  | d :: r => uptoBulk d + uptoBulkAll r
def uptoBulkEntries {H : Type} : List (Lit × DataW H) → Nat
  | [] => 0
  | x :: r => uptoBulkEntry x + uptoBulkEntries r
def uptoBulkEntry {H : Type} : Lit × DataW H → Nat
  | (.string bytes, d) => bytes.length + uptoBulk d + 1
  | (_, d) => uptoBulk d + 1
 end
def uptoSmall : (H : Type) → List (DataW H) → Bool := fun _ ds => decide (uptoBulkAll ds ≤ 1048576)
def OpenSpec.upto (s : _root_.Go.ChangeSpec) : _root_.Go.OpenSpec := { _root_.Go.OpenSpec.ofChange s with cond := some uptoSmall }

/-- 'laws.FnExactCostOk', WHERE WHAT IT READS IS OF BULK AT MOST 1048576: true; the input reads as it did. -/
def fnExactCostOkUptoRow : OpenClaim := { program := "ytobngbiiifjgkaa", sum := "1b7d9a0a569cacd3fae92d2b29ce1fc92aac44804fa80ff3c1124929bf17ab50", func := "loop.example/g03310/laws.FnExactCostOk", spec := "fnExactCostOk", unfollowed := true, recurses := true, apart := false, narrowed := true }
def FnExactCostOkUptoSaid : Prop := fnExactCostOkUptoRow.holds Try.pinned (OpenSpec.upto fnExactCostOkSpec)

/-- 'laws.FnExactPriceFor', WHERE WHAT IT READS IS OF BULK AT MOST 1048576: true; the input reads as it did. -/
def fnExactPriceForUptoRow : OpenClaim := { program := "ytobngbiiifjgkaa", sum := "1b7d9a0a569cacd3fae92d2b29ce1fc92aac44804fa80ff3c1124929bf17ab50", func := "loop.example/g03310/laws.FnExactPriceFor", spec := "fnExactPriceFor", unfollowed := true, recurses := true, apart := false, narrowed := true }
def FnExactPriceForUptoSaid : Prop := fnExactPriceForUptoRow.holds Try.pinned (OpenSpec.upto fnExactPriceForSpec)

/-- 'laws.FnExactLargestPart', WHERE WHAT IT READS IS OF BULK AT MOST 1048576: true; the input reads as it did. -/
def fnExactLargestPartUptoRow : OpenClaim := { program := "ytobngbiiifjgkaa", sum := "1b7d9a0a569cacd3fae92d2b29ce1fc92aac44804fa80ff3c1124929bf17ab50", func := "loop.example/g03310/laws.FnExactLargestPart", spec := "fnExactLargestPart", unfollowed := true, recurses := true, apart := false, narrowed := true }
def FnExactLargestPartUptoSaid : Prop := fnExactLargestPartUptoRow.holds Try.pinned (OpenSpec.upto fnExactLargestPartSpec)

/-- 'laws.FnExactPerLoaf', WHERE WHAT IT READS IS OF BULK AT MOST 1048576: true; the input reads as it did. -/
def fnExactPerLoafUptoRow : OpenClaim := { program := "ytobngbiiifjgkaa", sum := "1b7d9a0a569cacd3fae92d2b29ce1fc92aac44804fa80ff3c1124929bf17ab50", func := "loop.example/g03310/laws.FnExactPerLoaf", spec := "fnExactPerLoaf", unfollowed := true, recurses := true, apart := false, narrowed := true }
def FnExactPerLoafUptoSaid : Prop := fnExactPerLoafUptoRow.holds Try.pinned (OpenSpec.upto fnExactPerLoafSpec)

/-- 'laws.FnExactAddCosts', WHERE WHAT IT READS IS OF BULK AT MOST 1048576: true; the input reads as it did. -/
def fnExactAddCostsUptoRow : OpenClaim := { program := "ytobngbiiifjgkaa", sum := "1b7d9a0a569cacd3fae92d2b29ce1fc92aac44804fa80ff3c1124929bf17ab50", func := "loop.example/g03310/laws.FnExactAddCosts", spec := "fnExactAddCosts", unfollowed := true, recurses := true, apart := false, narrowed := true }
def FnExactAddCostsUptoSaid : Prop := fnExactAddCostsUptoRow.holds Try.pinned (OpenSpec.upto fnExactAddCostsSpec)

/-- 'laws.FnExactMarginOf', WHERE WHAT IT READS IS OF BULK AT MOST 1048576: true; the input reads as it did. -/
def fnExactMarginOfUptoRow : OpenClaim := { program := "ytobngbiiifjgkaa", sum := "1b7d9a0a569cacd3fae92d2b29ce1fc92aac44804fa80ff3c1124929bf17ab50", func := "loop.example/g03310/laws.FnExactMarginOf", spec := "fnExactMarginOf", unfollowed := true, recurses := true, apart := false, narrowed := true }
def FnExactMarginOfUptoSaid : Prop := fnExactMarginOfUptoRow.holds Try.pinned (OpenSpec.upto fnExactMarginOfSpec)

/-- 'laws.FnCosts', WHERE WHAT IT READS IS OF BULK AT MOST 1048576: true; the input reads as it did. -/
def fnCostsUptoRow : OpenClaim := { program := "ytobngbiiifjgkaa", sum := "1b7d9a0a569cacd3fae92d2b29ce1fc92aac44804fa80ff3c1124929bf17ab50", func := "loop.example/g03310/laws.FnCosts", spec := "fnCosts", unfollowed := true, recurses := true, apart := false, narrowed := true }
def FnCostsUptoSaid : Prop := fnCostsUptoRow.holds Try.pinned (OpenSpec.upto fnCostsSpec)

end Rows
end Go.Proofs.Ytobngbiiifjgkaa
