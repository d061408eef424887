/-
  No cell of these rows narrows 'for every input' (looked for: loops, veiled, ifaces, maps, wideKeys, modest, calm, conditions, laid).
  DERIVED. THE GIVEN ROWS OF THIS SEAT. 7 by the template 'for every input the law returns true; each argument reads behind the call as it read before'; 0 by the template 'total and deterministic' (their statements: YtkgigoefmpkngaaTotals.lean).
  GIVEN WITH THE SEED: the statements are not yours to turn. If you find one false, say at which input.
  Laid BY PROGRAM, IN A SANDBOX (cutbox-rows.mjs): the forced cells as the released guide's own fill.sh prints them over the translation a309bdaf9c6bce2a… (all of the seat's roots in one cut). By AI agents, Wed Nov 11 2026. No macro, syntax, notation, axiom, sorry.
-/
import Derived.Test.YtkgigoefmpkngaaChecked
import GoSem.Claim
import GoSem.ClaimJoined
import GoSem.ClaimMapViews
import Derived.JoinedTies
import Derived.KernelRfl
namespace Go.Proofs.Ytkgigoefmpkngaa
/- THE CELL 'sum', in the pinned program and in every row, IS THE sha256 OF THE DUMP (.gsa) THAT YtkgigoefmpkngaaProg.lean LOADS. Nothing in Lean hashes anything: it is a label: what it is worth is what the hold of that sum in a sandbox is worth. -/
noncomputable def Try.pinned : Pinned := { name := "ytkgigoefmpkngaa", sum := "a309bdaf9c6bce2a97e7b0b552fed3a84bebfb110db6f21ad690d74a12ddcedf", checked := Try.checked }
namespace Rows
def none {H : Type} : Left H := { results := [], args := [] }

/-- 'laws.FnExactBasketsOk': WHATEVER THE INPUT: true; the input reads as it did. -/
def fnExactBasketsOkSpec : ChangeSpec := { name := "fnExactBasketsOk", fn := fun _ => fun
  | [d] => { results := [.lit (.bool true)], args := [d] }
  | _ => none }
def fnExactBasketsOkRow : OpenClaim := { program := "ytkgigoefmpkngaa", sum := "a309bdaf9c6bce2a97e7b0b552fed3a84bebfb110db6f21ad690d74a12ddcedf", func := "loop.example/g03310/laws.FnExactBasketsOk", spec := "fnExactBasketsOk", unfollowed := true, recurses := true, apart := false }
def FnExactBasketsOkSaid : Prop := fnExactBasketsOkRow.holds Try.pinned (OpenSpec.ofChange fnExactBasketsOkSpec)

/-- ITS FALSE NEIGHBOUR: 'it returns false'. Refute it at one input. -/
def fnExactBasketsOkWrong : ChangeSpec := { name := "fnExactBasketsOk", fn := fun _ => fun
  | [d] => { results := [.lit (.bool false)], args := [d] }
  | _ => none }
def FnExactBasketsOkWrongFalsely : Prop := fnExactBasketsOkRow.holds Try.pinned (OpenSpec.ofChange fnExactBasketsOkWrong)

/-- 'laws.FnExactCountWith': WHATEVER THE INPUT: true; the input reads as it did. -/
def fnExactCountWithSpec : ChangeSpec := { name := "fnExactCountWith", fn := fun _ => fun
  | [d1, d2] => { results := [.lit (.bool true)], args := [d1, d2] }
  | _ => none }
def fnExactCountWithRow : OpenClaim := { program := "ytkgigoefmpkngaa", sum := "a309bdaf9c6bce2a97e7b0b552fed3a84bebfb110db6f21ad690d74a12ddcedf", func := "loop.example/g03310/laws.FnExactCountWith", spec := "fnExactCountWith", unfollowed := true, recurses := true, apart := false }
def FnExactCountWithSaid : Prop := fnExactCountWithRow.holds Try.pinned (OpenSpec.ofChange fnExactCountWithSpec)

/-- ITS FALSE NEIGHBOUR: 'it returns false'. Refute it at one input. -/
def fnExactCountWithWrong : ChangeSpec := { name := "fnExactCountWith", fn := fun _ => fun
  | [d1, d2] => { results := [.lit (.bool false)], args := [d1, d2] }
  | _ => none }
def FnExactCountWithWrongFalsely : Prop := fnExactCountWithRow.holds Try.pinned (OpenSpec.ofChange fnExactCountWithWrong)

/-- 'laws.FnExactCommonPairs': WHATEVER THE INPUT: true; the input reads as it did. -/
def fnExactCommonPairsSpec : ChangeSpec := { name := "fnExactCommonPairs", fn := fun _ => fun
  | [d1, d2] => { results := [.lit (.bool true)], args := [d1, d2] }
  | _ => none }
def fnExactCommonPairsRow : OpenClaim := { program := "ytkgigoefmpkngaa", sum := "a309bdaf9c6bce2a97e7b0b552fed3a84bebfb110db6f21ad690d74a12ddcedf", func := "loop.example/g03310/laws.FnExactCommonPairs", spec := "fnExactCommonPairs", unfollowed := true, recurses := true, apart := false }
def FnExactCommonPairsSaid : Prop := fnExactCommonPairsRow.holds Try.pinned (OpenSpec.ofChange fnExactCommonPairsSpec)

/-- ITS FALSE NEIGHBOUR: 'it returns false'. Refute it at one input. -/
def fnExactCommonPairsWrong : ChangeSpec := { name := "fnExactCommonPairs", fn := fun _ => fun
  | [d1, d2] => { results := [.lit (.bool false)], args := [d1, d2] }
  | _ => none }
def FnExactCommonPairsWrongFalsely : Prop := fnExactCommonPairsRow.holds Try.pinned (OpenSpec.ofChange fnExactCommonPairsWrong)

/-- 'laws.FnExactLargestCommon': WHATEVER THE INPUT: true; the input reads as it did. -/
def fnExactLargestCommonSpec : ChangeSpec := { name := "fnExactLargestCommon", fn := fun _ => fun
  | [d1, d2] => { results := [.lit (.bool true)], args := [d1, d2] }
  | _ => none }
def fnExactLargestCommonRow : OpenClaim := { program := "ytkgigoefmpkngaa", sum := "a309bdaf9c6bce2a97e7b0b552fed3a84bebfb110db6f21ad690d74a12ddcedf", func := "loop.example/g03310/laws.FnExactLargestCommon", spec := "fnExactLargestCommon", unfollowed := true, recurses := true, apart := false }
def FnExactLargestCommonSaid : Prop := fnExactLargestCommonRow.holds Try.pinned (OpenSpec.ofChange fnExactLargestCommonSpec)

/-- ITS FALSE NEIGHBOUR: 'it returns false'. Refute it at one input. -/
def fnExactLargestCommonWrong : ChangeSpec := { name := "fnExactLargestCommon", fn := fun _ => fun
  | [d1, d2] => { results := [.lit (.bool false)], args := [d1, d2] }
  | _ => none }
def FnExactLargestCommonWrongFalsely : Prop := fnExactLargestCommonRow.holds Try.pinned (OpenSpec.ofChange fnExactLargestCommonWrong)

/-- 'laws.FnExactFollowsFrom': WHATEVER THE INPUT: true; the input reads as it did. -/
def fnExactFollowsFromSpec : ChangeSpec := { name := "fnExactFollowsFrom", fn := fun _ => fun
  | [d1, d2, d3, d4] => { results := [.lit (.bool true)], args := [d1, d2, d3, d4] }
  | _ => none }
def fnExactFollowsFromRow : OpenClaim := { program := "ytkgigoefmpkngaa", sum := "a309bdaf9c6bce2a97e7b0b552fed3a84bebfb110db6f21ad690d74a12ddcedf", func := "loop.example/g03310/laws.FnExactFollowsFrom", spec := "fnExactFollowsFrom", unfollowed := true, recurses := true, apart := false }
def FnExactFollowsFromSaid : Prop := fnExactFollowsFromRow.holds Try.pinned (OpenSpec.ofChange fnExactFollowsFromSpec)

/-- ITS FALSE NEIGHBOUR: 'it returns false'. Refute it at one input. -/
def fnExactFollowsFromWrong : ChangeSpec := { name := "fnExactFollowsFrom", fn := fun _ => fun
  | [d1, d2, d3, d4] => { results := [.lit (.bool false)], args := [d1, d2, d3, d4] }
  | _ => none }
def FnExactFollowsFromWrongFalsely : Prop := fnExactFollowsFromRow.holds Try.pinned (OpenSpec.ofChange fnExactFollowsFromWrong)

/-- 'laws.FnExactNextThing': WHATEVER THE INPUT: true; the input reads as it did. -/
def fnExactNextThingSpec : ChangeSpec := { name := "fnExactNextThing", fn := fun _ => fun
  | [d1, d2] => { results := [.lit (.bool true)], args := [d1, d2] }
  | _ => none }
def fnExactNextThingRow : OpenClaim := { program := "ytkgigoefmpkngaa", sum := "a309bdaf9c6bce2a97e7b0b552fed3a84bebfb110db6f21ad690d74a12ddcedf", func := "loop.example/g03310/laws.FnExactNextThing", spec := "fnExactNextThing", unfollowed := true, recurses := true, apart := false }
def FnExactNextThingSaid : Prop := fnExactNextThingRow.holds Try.pinned (OpenSpec.ofChange fnExactNextThingSpec)

/-- ITS FALSE NEIGHBOUR: 'it returns false'. Refute it at one input. -/
def fnExactNextThingWrong : ChangeSpec := { name := "fnExactNextThing", fn := fun _ => fun
  | [d1, d2] => { results := [.lit (.bool false)], args := [d1, d2] }
  | _ => none }
def FnExactNextThingWrongFalsely : Prop := fnExactNextThingRow.holds Try.pinned (OpenSpec.ofChange fnExactNextThingWrong)

/-- 'laws.FnBaskets': WHATEVER THE INPUT: true; the input reads as it did. -/
def fnBasketsSpec : ChangeSpec := { name := "fnBaskets", fn := fun _ => fun
  | [d] => { results := [.lit (.bool true)], args := [d] }
  | _ => none }
def fnBasketsRow : OpenClaim := { program := "ytkgigoefmpkngaa", sum := "a309bdaf9c6bce2a97e7b0b552fed3a84bebfb110db6f21ad690d74a12ddcedf", func := "loop.example/g03310/laws.FnBaskets", spec := "fnBaskets", unfollowed := true, recurses := true, apart := false }
def FnBasketsSaid : Prop := fnBasketsRow.holds Try.pinned (OpenSpec.ofChange fnBasketsSpec)

/-- ITS FALSE NEIGHBOUR: 'it returns false'. Refute it at one input. -/
def fnBasketsWrong : ChangeSpec := { name := "fnBaskets", fn := fun _ => fun
  | [d] => { results := [.lit (.bool false)], args := [d] }
  | _ => none }
def FnBasketsWrongFalsely : Prop := fnBasketsRow.holds Try.pinned (OpenSpec.ofChange fnBasketsWrong)

/- THE SECOND FORM. 'bulk': how many values and letters a reading holds, each counted each time it is reached (what is shared counts as often as it is met; a slice's spare places count too). A statement '..UptoSaid' is the law's where the arguments, and the package variables that the reading takes, are together of bulk at most 1048576: NARROWER than '..Said'. Prove '..Said' where nothing that the law and all that it calls make is longer than what came in: it says more and counts as full. Else prove '..UptoSaid'. A law counts once. -/
mutual
def uptoBulk {H : Type} : DataW H → Nat
  | .lit (.string bytes) => bytes.length + 1
  | .lit _ => 1
  | .nil => 1
  | .ptr d => uptoBulk d + 1
  | .slice elems spare => uptoBulkAll elems + uptoBulkAll spare + 1
  | .agg parts => uptoBulkAll parts + 1
  | .iface _ d => uptoBulk d + 1
  | .map entries => uptoBulkEntries entries + 1
  | .held _ => 1
def uptoBulkAll {H : Type} : List (DataW H) → Nat
  | [] => 0
  | d :: r => uptoBulk d + uptoBulkAll r
def uptoBulkEntries {H : Type} : List (Lit × DataW H) → Nat
  | [] => 0
  | x :: r => uptoBulkEntry x + uptoBulkEntries r
def uptoBulkEntry {H : Type} : Lit × DataW H → Nat
  | (.string bytes, d) => bytes.length + uptoBulk d + 1
  | (_, d) => uptoBulk d + 1
 end
def uptoSmall : (H : Type) → List (DataW H) → Bool := fun _ ds => decide (uptoBulkAll ds ≤ 1048576)
def OpenSpec.upto (s : _root_.Go.ChangeSpec) : _root_.Go.OpenSpec := { _root_.Go.OpenSpec.ofChange s with cond := some uptoSmall }

/-- 'laws.FnExactBasketsOk', WHERE WHAT IT READS IS OF BULK AT MOST 1048576: true; the input reads as it did. -/
def fnExactBasketsOkUptoRow : OpenClaim := { program := "ytkgigoefmpkngaa", sum := "a309bdaf9c6bce2a97e7b0b552fed3a84bebfb110db6f21ad690d74a12ddcedf", func := "loop.example/g03310/laws.FnExactBasketsOk", spec := "fnExactBasketsOk", unfollowed := true, recurses := true, apart := false, narrowed := true }
def FnExactBasketsOkUptoSaid : Prop := fnExactBasketsOkUptoRow.holds Try.pinned (OpenSpec.upto fnExactBasketsOkSpec)

/-- 'laws.FnExactCountWith', WHERE WHAT IT READS IS OF BULK AT MOST 1048576: true; the input reads as it did. -/
def fnExactCountWithUptoRow : OpenClaim := { program := "ytkgigoefmpkngaa", sum := "a309bdaf9c6bce2a97e7b0b552fed3a84bebfb110db6f21ad690d74a12ddcedf", func := "loop.example/g03310/laws.FnExactCountWith", spec := "fnExactCountWith", unfollowed := true, recurses := true, apart := false, narrowed := true }
def FnExactCountWithUptoSaid : Prop := fnExactCountWithUptoRow.holds Try.pinned (OpenSpec.upto fnExactCountWithSpec)

/-- 'laws.FnExactCommonPairs', WHERE WHAT IT READS IS OF BULK AT MOST 1048576: true; the input reads as it did. -/
def fnExactCommonPairsUptoRow : OpenClaim := { program := "ytkgigoefmpkngaa", sum := "a309bdaf9c6bce2a97e7b0b552fed3a84bebfb110db6f21ad690d74a12ddcedf", func := "loop.example/g03310/laws.FnExactCommonPairs", spec := "fnExactCommonPairs", unfollowed := true, recurses := true, apart := false, narrowed := true }
def FnExactCommonPairsUptoSaid : Prop := fnExactCommonPairsUptoRow.holds Try.pinned (OpenSpec.upto fnExactCommonPairsSpec)

/-- 'laws.FnExactLargestCommon', WHERE WHAT IT READS IS OF BULK AT MOST 1048576: true; the input reads as it did. -/
def fnExactLargestCommonUptoRow : OpenClaim := { program := "ytkgigoefmpkngaa", sum := "a309bdaf9c6bce2a97e7b0b552fed3a84bebfb110db6f21ad690d74a12ddcedf", func := "loop.example/g03310/laws.FnExactLargestCommon", spec := "fnExactLargestCommon", unfollowed := true, recurses := true, apart := false, narrowed := true }
def FnExactLargestCommonUptoSaid : Prop := fnExactLargestCommonUptoRow.holds Try.pinned (OpenSpec.upto fnExactLargestCommonSpec)

/-- 'laws.FnExactFollowsFrom', WHERE WHAT IT READS IS OF BULK AT MOST 1048576: true; the input reads as it did. -/
def fnExactFollowsFromUptoRow : OpenClaim := { program := "ytkgigoefmpkngaa", sum := "a309bdaf9c6bce2a97e7b0b552fed3a84bebfb110db6f21ad690d74a12ddcedf", func := "loop.example/g03310/laws.FnExactFollowsFrom", spec := "fnExactFollowsFrom", unfollowed := true, recurses := true, apart := false, narrowed := true }
def FnExactFollowsFromUptoSaid : Prop := fnExactFollowsFromUptoRow.holds Try.pinned (OpenSpec.upto fnExactFollowsFromSpec)

/-- 'laws.FnExactNextThing', WHERE WHAT IT READS IS OF BULK AT MOST 1048576: true; the input reads as it did. -/
def fnExactNextThingUptoRow : OpenClaim := { program := "ytkgigoefmpkngaa", sum := "a309bdaf9c6bce2a97e7b0b552fed3a84bebfb110db6f21ad690d74a12ddcedf", func := "loop.example/g03310/laws.FnExactNextThing", spec := "fnExactNextThing", unfollowed := true, recurses := true, apart := false, narrowed := true }
def FnExactNextThingUptoSaid : Prop := fnExactNextThingUptoRow.holds Try.pinned (OpenSpec.upto fnExactNextThingSpec)

/-- 'laws.FnBaskets', WHERE WHAT IT READS IS OF BULK AT MOST 1048576: true; the input reads as it did. -/
def fnBasketsUptoRow : OpenClaim := { program := "ytkgigoefmpkngaa", sum := "a309bdaf9c6bce2a97e7b0b552fed3a84bebfb110db6f21ad690d74a12ddcedf", func := "loop.example/g03310/laws.FnBaskets", spec := "fnBaskets", unfollowed := true, recurses := true, apart := false, narrowed := true }
def FnBasketsUptoSaid : Prop := fnBasketsUptoRow.holds Try.pinned (OpenSpec.upto fnBasketsSpec)

end Rows
end Go.Proofs.Ytkgigoefmpkngaa
