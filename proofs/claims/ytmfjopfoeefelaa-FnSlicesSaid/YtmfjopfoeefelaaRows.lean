/-
  No cell of these rows narrows 'for every input' (looked for: loops, veiled, ifaces, maps, wideKeys, modest, calm, conditions, laid).
  DERIVED. THE GIVEN ROWS OF THIS SEAT. 7 by the template 'for every input the law returns true; each argument reads behind the call as it read before'; 0 by the template 'total and deterministic' (their statements: YtmfjopfoeefelaaTotals.lean).
  GIVEN WITH THE SEED: the statements are not yours to turn. If you find one false, say at which input.
  Laid BY PROGRAM, IN A SANDBOX (cutbox-rows.mjs): the forced cells as the released guide's own fill.sh prints them over the translation 7254505f16d78c67… (all of the seat's roots in one cut). By AI agents, Wed Nov 11 2026. No macro, syntax, notation, axiom, sorry.
-/
import Derived.Test.YtmfjopfoeefelaaChecked
import GoSem.Claim
import GoSem.ClaimJoined
import GoSem.ClaimMapViews
import Derived.JoinedTies
import Derived.KernelRfl
namespace Go.Proofs.Ytmfjopfoeefelaa
/- THE CELL 'sum', in the pinned program and in every row, IS THE sha256 OF THE DUMP (.gsa) THAT YtmfjopfoeefelaaProg.lean LOADS. Nothing in Lean hashes anything: it is a label: what it is worth is what the hold of that sum in a sandbox is worth. -/
noncomputable def Try.pinned : Pinned := { name := "ytmfjopfoeefelaa", sum := "7254505f16d78c671253f271c60bf73a5466cd9fbd1f88359fd4a10c59ec751b", checked := Try.checked }
namespace Rows
def none {H : Type} : Left H := { results := [], args := [] }

/-- 'laws.FnExactSlicesOf': WHATEVER THE INPUT: true; the input reads as it did. -/
def fnExactSlicesOfSpec : ChangeSpec := { name := "fnExactSlicesOf", fn := fun _ => fun
  | [d1, d2] => { results := [.lit (.bool true)], args := [d1, d2] }
  | _ => none }
def fnExactSlicesOfRow : OpenClaim := { program := "ytmfjopfoeefelaa", sum := "7254505f16d78c671253f271c60bf73a5466cd9fbd1f88359fd4a10c59ec751b", func := "loop.example/g03310/laws.FnExactSlicesOf", spec := "fnExactSlicesOf", apart := false }
def FnExactSlicesOfSaid : Prop := fnExactSlicesOfRow.holds Try.pinned (OpenSpec.ofChange fnExactSlicesOfSpec)

/-- ITS FALSE NEIGHBOUR: 'it returns false'. Refute it at one input. -/
def fnExactSlicesOfWrong : ChangeSpec := { name := "fnExactSlicesOf", fn := fun _ => fun
  | [d1, d2] => { results := [.lit (.bool false)], args := [d1, d2] }
  | _ => none }
def FnExactSlicesOfWrongFalsely : Prop := fnExactSlicesOfRow.holds Try.pinned (OpenSpec.ofChange fnExactSlicesOfWrong)

/-- 'laws.FnExactLastSlice': WHATEVER THE INPUT: true; the input reads as it did. -/
def fnExactLastSliceSpec : ChangeSpec := { name := "fnExactLastSlice", fn := fun _ => fun
  | [d1, d2] => { results := [.lit (.bool true)], args := [d1, d2] }
  | _ => none }
def fnExactLastSliceRow : OpenClaim := { program := "ytmfjopfoeefelaa", sum := "7254505f16d78c671253f271c60bf73a5466cd9fbd1f88359fd4a10c59ec751b", func := "loop.example/g03310/laws.FnExactLastSlice", spec := "fnExactLastSlice", apart := false }
def FnExactLastSliceSaid : Prop := fnExactLastSliceRow.holds Try.pinned (OpenSpec.ofChange fnExactLastSliceSpec)

/-- ITS FALSE NEIGHBOUR: 'it returns false'. Refute it at one input. -/
def fnExactLastSliceWrong : ChangeSpec := { name := "fnExactLastSlice", fn := fun _ => fun
  | [d1, d2] => { results := [.lit (.bool false)], args := [d1, d2] }
  | _ => none }
def FnExactLastSliceWrongFalsely : Prop := fnExactLastSliceRow.holds Try.pinned (OpenSpec.ofChange fnExactLastSliceWrong)

/-- 'laws.FnExactThickestFor': WHATEVER THE INPUT: true; the input reads as it did. -/
def fnExactThickestForSpec : ChangeSpec := { name := "fnExactThickestFor", fn := fun _ => fun
  | [d1, d2] => { results := [.lit (.bool true)], args := [d1, d2] }
  | _ => none }
def fnExactThickestForRow : OpenClaim := { program := "ytmfjopfoeefelaa", sum := "7254505f16d78c671253f271c60bf73a5466cd9fbd1f88359fd4a10c59ec751b", func := "loop.example/g03310/laws.FnExactThickestFor", spec := "fnExactThickestFor", apart := false }
def FnExactThickestForSaid : Prop := fnExactThickestForRow.holds Try.pinned (OpenSpec.ofChange fnExactThickestForSpec)

/-- ITS FALSE NEIGHBOUR: 'it returns false'. Refute it at one input. -/
def fnExactThickestForWrong : ChangeSpec := { name := "fnExactThickestFor", fn := fun _ => fun
  | [d1, d2] => { results := [.lit (.bool false)], args := [d1, d2] }
  | _ => none }
def FnExactThickestForWrongFalsely : Prop := fnExactThickestForRow.holds Try.pinned (OpenSpec.ofChange fnExactThickestForWrong)

/-- 'laws.FnExactCrustParts': WHATEVER THE INPUT: true; the input reads as it did. -/
def fnExactCrustPartsSpec : ChangeSpec := { name := "fnExactCrustParts", fn := fun _ => fun
  | [d1, d2, d3] => { results := [.lit (.bool true)], args := [d1, d2, d3] }
  | _ => none }
def fnExactCrustPartsRow : OpenClaim := { program := "ytmfjopfoeefelaa", sum := "7254505f16d78c671253f271c60bf73a5466cd9fbd1f88359fd4a10c59ec751b", func := "loop.example/g03310/laws.FnExactCrustParts", spec := "fnExactCrustParts", unfollowed := true, recurses := true, apart := false }
def FnExactCrustPartsSaid : Prop := fnExactCrustPartsRow.holds Try.pinned (OpenSpec.ofChange fnExactCrustPartsSpec)

/-- ITS FALSE NEIGHBOUR: 'it returns false'. Refute it at one input. -/
def fnExactCrustPartsWrong : ChangeSpec := { name := "fnExactCrustParts", fn := fun _ => fun
  | [d1, d2, d3] => { results := [.lit (.bool false)], args := [d1, d2, d3] }
  | _ => none }
def FnExactCrustPartsWrongFalsely : Prop := fnExactCrustPartsRow.holds Try.pinned (OpenSpec.ofChange fnExactCrustPartsWrong)

/-- 'laws.FnExactEvenSlices': WHATEVER THE INPUT: true; the input reads as it did. -/
def fnExactEvenSlicesSpec : ChangeSpec := { name := "fnExactEvenSlices", fn := fun _ => fun
  | [d1, d2] => { results := [.lit (.bool true)], args := [d1, d2] }
  | _ => none }
def fnExactEvenSlicesRow : OpenClaim := { program := "ytmfjopfoeefelaa", sum := "7254505f16d78c671253f271c60bf73a5466cd9fbd1f88359fd4a10c59ec751b", func := "loop.example/g03310/laws.FnExactEvenSlices", spec := "fnExactEvenSlices", apart := false }
def FnExactEvenSlicesSaid : Prop := fnExactEvenSlicesRow.holds Try.pinned (OpenSpec.ofChange fnExactEvenSlicesSpec)

/-- ITS FALSE NEIGHBOUR: 'it returns false'. Refute it at one input. -/
def fnExactEvenSlicesWrong : ChangeSpec := { name := "fnExactEvenSlices", fn := fun _ => fun
  | [d1, d2] => { results := [.lit (.bool false)], args := [d1, d2] }
  | _ => none }
def FnExactEvenSlicesWrongFalsely : Prop := fnExactEvenSlicesRow.holds Try.pinned (OpenSpec.ofChange fnExactEvenSlicesWrong)

/-- 'laws.FnExactCutsNeeded': WHATEVER THE INPUT: true; the input reads as it did. -/
def fnExactCutsNeededSpec : ChangeSpec := { name := "fnExactCutsNeeded", fn := fun _ => fun
  | [d1, d2] => { results := [.lit (.bool true)], args := [d1, d2] }
  | _ => none }
def fnExactCutsNeededRow : OpenClaim := { program := "ytmfjopfoeefelaa", sum := "7254505f16d78c671253f271c60bf73a5466cd9fbd1f88359fd4a10c59ec751b", func := "loop.example/g03310/laws.FnExactCutsNeeded", spec := "fnExactCutsNeeded", apart := false }
def FnExactCutsNeededSaid : Prop := fnExactCutsNeededRow.holds Try.pinned (OpenSpec.ofChange fnExactCutsNeededSpec)

/-- ITS FALSE NEIGHBOUR: 'it returns false'. Refute it at one input. -/
def fnExactCutsNeededWrong : ChangeSpec := { name := "fnExactCutsNeeded", fn := fun _ => fun
  | [d1, d2] => { results := [.lit (.bool false)], args := [d1, d2] }
  | _ => none }
def FnExactCutsNeededWrongFalsely : Prop := fnExactCutsNeededRow.holds Try.pinned (OpenSpec.ofChange fnExactCutsNeededWrong)

/-- 'laws.FnSlices': WHATEVER THE INPUT: true; the input reads as it did. -/
def fnSlicesSpec : ChangeSpec := { name := "fnSlices", fn := fun _ => fun
  | [d] => { results := [.lit (.bool true)], args := [d] }
  | _ => none }
def fnSlicesRow : OpenClaim := { program := "ytmfjopfoeefelaa", sum := "7254505f16d78c671253f271c60bf73a5466cd9fbd1f88359fd4a10c59ec751b", func := "loop.example/g03310/laws.FnSlices", spec := "fnSlices", unfollowed := true, recurses := true, apart := false }
def FnSlicesSaid : Prop := fnSlicesRow.holds Try.pinned (OpenSpec.ofChange fnSlicesSpec)

/-- ITS FALSE NEIGHBOUR: 'it returns false'. Refute it at one input. -/
def fnSlicesWrong : ChangeSpec := { name := "fnSlices", fn := fun _ => fun
  | [d] => { results := [.lit (.bool false)], args := [d] }
  | _ => none }
def FnSlicesWrongFalsely : Prop := fnSlicesRow.holds Try.pinned (OpenSpec.ofChange fnSlicesWrong)

/- THE SECOND FORM. 'bulk': how many values and letters a reading holds, each counted each time it is reached (what is shared counts as often as it is met; a slice's spare places count too). A statement '..UptoSaid' is the law's where the arguments, and the package variables that the reading takes, are together of bulk at most 1048576: NARROWER than '..Said'. Prove '..Said' where nothing that the law and all that it calls make is longer than what came in: it says more and counts as full. Else prove '..UptoSaid'. A law counts once. -/
mutual
def uptoBulk {H : Type} : DataW H → Nat
  | .lit (.string bytes) => bytes.length + 1
  | .lit _ => 1
  | .nil => 1
  | .ptr d => uptoBulk d + 1
  | .slice elems spare => uptoBulkAll elems + uptoBulkAll spare + 1
  | .agg parts => uptoBulkAll parts + 1
  | .iface _ d => uptoBulk d + 1
  | .map entries => uptoBulkEntries entries + 1
  | .held _ => 1
def uptoBulkAll {H : Type} : List (DataW H) → Nat
  | [] => 0
  | d :: r => uptoBulk d + uptoBulkAll r
def uptoBulkEntries {H : Type} : List (Lit × DataW H) → Nat
  | [] => 0
  | x :: r => uptoBulkEntry x + uptoBulkEntries r
def uptoBulkEntry {H : Type} : Lit × DataW H → Nat
  | (.string bytes, d) => bytes.length + uptoBulk d + 1
  | (_, d) => uptoBulk d + 1
 end
def uptoSmall : (H : Type) → List (DataW H) → Bool := fun _ ds => decide (uptoBulkAll ds ≤ 1048576)
def OpenSpec.upto (s : _root_.Go.ChangeSpec) : _root_.Go.OpenSpec := { _root_.Go.OpenSpec.ofChange s with cond := some uptoSmall }

/-- 'laws.FnExactSlicesOf', WHERE WHAT IT READS IS OF BULK AT MOST 1048576: true; the input reads as it did. -/
def fnExactSlicesOfUptoRow : OpenClaim := { program := "ytmfjopfoeefelaa", sum := "7254505f16d78c671253f271c60bf73a5466cd9fbd1f88359fd4a10c59ec751b", func := "loop.example/g03310/laws.FnExactSlicesOf", spec := "fnExactSlicesOf", apart := false, narrowed := true }
def FnExactSlicesOfUptoSaid : Prop := fnExactSlicesOfUptoRow.holds Try.pinned (OpenSpec.upto fnExactSlicesOfSpec)

/-- 'laws.FnExactLastSlice', WHERE WHAT IT READS IS OF BULK AT MOST 1048576: true; the input reads as it did. -/
def fnExactLastSliceUptoRow : OpenClaim := { program := "ytmfjopfoeefelaa", sum := "7254505f16d78c671253f271c60bf73a5466cd9fbd1f88359fd4a10c59ec751b", func := "loop.example/g03310/laws.FnExactLastSlice", spec := "fnExactLastSlice", apart := false, narrowed := true }
def FnExactLastSliceUptoSaid : Prop := fnExactLastSliceUptoRow.holds Try.pinned (OpenSpec.upto fnExactLastSliceSpec)

/-- 'laws.FnExactThickestFor', WHERE WHAT IT READS IS OF BULK AT MOST 1048576: true; the input reads as it did. -/
def fnExactThickestForUptoRow : OpenClaim := { program := "ytmfjopfoeefelaa", sum := "7254505f16d78c671253f271c60bf73a5466cd9fbd1f88359fd4a10c59ec751b", func := "loop.example/g03310/laws.FnExactThickestFor", spec := "fnExactThickestFor", apart := false, narrowed := true }
def FnExactThickestForUptoSaid : Prop := fnExactThickestForUptoRow.holds Try.pinned (OpenSpec.upto fnExactThickestForSpec)

/-- 'laws.FnExactCrustParts', WHERE WHAT IT READS IS OF BULK AT MOST 1048576: true; the input reads as it did. -/
def fnExactCrustPartsUptoRow : OpenClaim := { program := "ytmfjopfoeefelaa", sum := "7254505f16d78c671253f271c60bf73a5466cd9fbd1f88359fd4a10c59ec751b", func := "loop.example/g03310/laws.FnExactCrustParts", spec := "fnExactCrustParts", unfollowed := true, recurses := true, apart := false, narrowed := true }
def FnExactCrustPartsUptoSaid : Prop := fnExactCrustPartsUptoRow.holds Try.pinned (OpenSpec.upto fnExactCrustPartsSpec)

/-- 'laws.FnExactEvenSlices', WHERE WHAT IT READS IS OF BULK AT MOST 1048576: true; the input reads as it did. -/
def fnExactEvenSlicesUptoRow : OpenClaim := { program := "ytmfjopfoeefelaa", sum := "7254505f16d78c671253f271c60bf73a5466cd9fbd1f88359fd4a10c59ec751b", func := "loop.example/g03310/laws.FnExactEvenSlices", spec := "fnExactEvenSlices", apart := false, narrowed := true }
def FnExactEvenSlicesUptoSaid : Prop := fnExactEvenSlicesUptoRow.holds Try.pinned (OpenSpec.upto fnExactEvenSlicesSpec)

/-- 'laws.FnExactCutsNeeded', WHERE WHAT IT READS IS OF BULK AT MOST 1048576: true; the input reads as it did. -/
def fnExactCutsNeededUptoRow : OpenClaim := { program := "ytmfjopfoeefelaa", sum := "7254505f16d78c671253f271c60bf73a5466cd9fbd1f88359fd4a10c59ec751b", func := "loop.example/g03310/laws.FnExactCutsNeeded", spec := "fnExactCutsNeeded", apart := false, narrowed := true }
def FnExactCutsNeededUptoSaid : Prop := fnExactCutsNeededUptoRow.holds Try.pinned (OpenSpec.upto fnExactCutsNeededSpec)

/-- 'laws.FnSlices', WHERE WHAT IT READS IS OF BULK AT MOST 1048576: true; the input reads as it did. -/
def fnSlicesUptoRow : OpenClaim := { program := "ytmfjopfoeefelaa", sum := "7254505f16d78c671253f271c60bf73a5466cd9fbd1f88359fd4a10c59ec751b", func := "loop.example/g03310/laws.FnSlices", spec := "fnSlices", unfollowed := true, recurses := true, apart := false, narrowed := true }
def FnSlicesUptoSaid : Prop := fnSlicesUptoRow.holds Try.pinned (OpenSpec.upto fnSlicesSpec)

end Rows
end Go.Proofs.Ytmfjopfoeefelaa
