/-
  No cell of these rows narrows 'for every input' (looked for: loops, veiled, ifaces, maps, wideKeys, modest, calm, conditions, laid).
  DERIVED. THE GIVEN ROWS OF THIS SEAT. 6 by the template 'for every input the law returns true; each argument reads behind the call as it read before'; 0 by the template 'total and deterministic' (their statements: YtciceapcnjoogaaTotals.lean).
  GIVEN WITH THE SEED: the statements are not yours to turn. If you find one false, say at which input.
  Laid BY PROGRAM, IN A SANDBOX (cutbox-rows.mjs): the forced cells as the released guide's own fill.sh prints them over the translation 62c49c9c4460b281… (all of the seat's roots in one cut). By AI agents, Wed Nov 11 2026. No macro, syntax, notation, axiom, sorry.
-/
import Derived.Test.YtciceapcnjoogaaChecked
import GoSem.Claim
import GoSem.ClaimJoined
import GoSem.ClaimMapViews
import Derived.JoinedTies
import Derived.KernelRfl
namespace Go.Proofs.Ytciceapcnjoogaa
/- THE CELL 'sum', in the pinned program and in every row, IS THE sha256 OF THE DUMP (.gsa) THAT YtciceapcnjoogaaProg.lean LOADS. Nothing in Lean hashes anything: it is a label: what it is worth is what the hold of that sum in a sandbox is worth. -/
noncomputable def Try.pinned : Pinned := { name := "ytciceapcnjoogaa", sum := "62c49c9c4460b281da506117d48b69cfbad7f5e3541dc236336ec17904baea6b", checked := Try.checked }
namespace Rows
def none {H : Type} : Left H := { results := [], args := [] }

/-- 'laws.FnVans': WHATEVER THE INPUT: true; the input reads as it did. -/
def fnVansSpec : ChangeSpec := { name := "fnVans", fn := fun _ => fun
  | [d] => { results := [.lit (.bool true)], args := [d] }
  | _ => none }
def fnVansRow : OpenClaim := { program := "ytciceapcnjoogaa", sum := "62c49c9c4460b281da506117d48b69cfbad7f5e3541dc236336ec17904baea6b", func := "loop.example/g03310/laws.FnVans", spec := "fnVans", unfollowed := true, recurses := true, apart := false }
def FnVansSaid : Prop := fnVansRow.holds Try.pinned (OpenSpec.ofChange fnVansSpec)

/-- ITS FALSE NEIGHBOUR: 'it returns false'. Refute it at one input. -/
def fnVansWrong : ChangeSpec := { name := "fnVans", fn := fun _ => fun
  | [d] => { results := [.lit (.bool false)], args := [d] }
  | _ => none }
def FnVansWrongFalsely : Prop := fnVansRow.holds Try.pinned (OpenSpec.ofChange fnVansWrong)

/-- 'laws.FnExactShopsOk': WHATEVER THE INPUT: true; the input reads as it did. -/
def fnExactShopsOkSpec : ChangeSpec := { name := "fnExactShopsOk", fn := fun _ => fun
  | [d] => { results := [.lit (.bool true)], args := [d] }
  | _ => none }
def fnExactShopsOkRow : OpenClaim := { program := "ytciceapcnjoogaa", sum := "62c49c9c4460b281da506117d48b69cfbad7f5e3541dc236336ec17904baea6b", func := "loop.example/g03310/laws.FnExactShopsOk", spec := "fnExactShopsOk", apart := false }
def FnExactShopsOkSaid : Prop := fnExactShopsOkRow.holds Try.pinned (OpenSpec.ofChange fnExactShopsOkSpec)

/-- ITS FALSE NEIGHBOUR: 'it returns false'. Refute it at one input. -/
def fnExactShopsOkWrong : ChangeSpec := { name := "fnExactShopsOk", fn := fun _ => fun
  | [d] => { results := [.lit (.bool false)], args := [d] }
  | _ => none }
def FnExactShopsOkWrongFalsely : Prop := fnExactShopsOkRow.holds Try.pinned (OpenSpec.ofChange fnExactShopsOkWrong)

/-- 'laws.FnExactLeastWay': WHATEVER THE INPUT: true; the input reads as it did. -/
def fnExactLeastWaySpec : ChangeSpec := { name := "fnExactLeastWay", fn := fun _ => fun
  | [d1, d2] => { results := [.lit (.bool true)], args := [d1, d2] }
  | _ => none }
def fnExactLeastWayRow : OpenClaim := { program := "ytciceapcnjoogaa", sum := "62c49c9c4460b281da506117d48b69cfbad7f5e3541dc236336ec17904baea6b", func := "loop.example/g03310/laws.FnExactLeastWay", spec := "fnExactLeastWay", unfollowed := true, recurses := true, apart := false }
def FnExactLeastWaySaid : Prop := fnExactLeastWayRow.holds Try.pinned (OpenSpec.ofChange fnExactLeastWaySpec)

/-- ITS FALSE NEIGHBOUR: 'it returns false'. Refute it at one input. -/
def fnExactLeastWayWrong : ChangeSpec := { name := "fnExactLeastWay", fn := fun _ => fun
  | [d1, d2] => { results := [.lit (.bool false)], args := [d1, d2] }
  | _ => none }
def FnExactLeastWayWrongFalsely : Prop := fnExactLeastWayRow.holds Try.pinned (OpenSpec.ofChange fnExactLeastWayWrong)

/-- 'laws.FnExactFarFirst': WHATEVER THE INPUT: true; the input reads as it did. -/
def fnExactFarFirstSpec : ChangeSpec := { name := "fnExactFarFirst", fn := fun _ => fun
  | [d1, d2] => { results := [.lit (.bool true)], args := [d1, d2] }
  | _ => none }
def fnExactFarFirstRow : OpenClaim := { program := "ytciceapcnjoogaa", sum := "62c49c9c4460b281da506117d48b69cfbad7f5e3541dc236336ec17904baea6b", func := "loop.example/g03310/laws.FnExactFarFirst", spec := "fnExactFarFirst", unfollowed := true, recurses := true, apart := false }
def FnExactFarFirstSaid : Prop := fnExactFarFirstRow.holds Try.pinned (OpenSpec.ofChange fnExactFarFirstSpec)

/-- ITS FALSE NEIGHBOUR: 'it returns false'. Refute it at one input. -/
def fnExactFarFirstWrong : ChangeSpec := { name := "fnExactFarFirst", fn := fun _ => fun
  | [d1, d2] => { results := [.lit (.bool false)], args := [d1, d2] }
  | _ => none }
def FnExactFarFirstWrongFalsely : Prop := fnExactFarFirstRow.holds Try.pinned (OpenSpec.ofChange fnExactFarFirstWrong)

/-- 'laws.FnExactTripsOk': WHATEVER THE INPUT: true; the input reads as it did. -/
def fnExactTripsOkSpec : ChangeSpec := { name := "fnExactTripsOk", fn := fun _ => fun
  | [d1, d2, d3] => { results := [.lit (.bool true)], args := [d1, d2, d3] }
  | _ => none }
def fnExactTripsOkRow : OpenClaim := { program := "ytciceapcnjoogaa", sum := "62c49c9c4460b281da506117d48b69cfbad7f5e3541dc236336ec17904baea6b", func := "loop.example/g03310/laws.FnExactTripsOk", spec := "fnExactTripsOk", unfollowed := true, recurses := true, apart := false }
def FnExactTripsOkSaid : Prop := fnExactTripsOkRow.holds Try.pinned (OpenSpec.ofChange fnExactTripsOkSpec)

/-- ITS FALSE NEIGHBOUR: 'it returns false'. Refute it at one input. -/
def fnExactTripsOkWrong : ChangeSpec := { name := "fnExactTripsOk", fn := fun _ => fun
  | [d1, d2, d3] => { results := [.lit (.bool false)], args := [d1, d2, d3] }
  | _ => none }
def FnExactTripsOkWrongFalsely : Prop := fnExactTripsOkRow.holds Try.pinned (OpenSpec.ofChange fnExactTripsOkWrong)

/-- 'laws.FnExactWayOf': WHATEVER THE INPUT: true; the input reads as it did. -/
def fnExactWayOfSpec : ChangeSpec := { name := "fnExactWayOf", fn := fun _ => fun
  | [d1, d2] => { results := [.lit (.bool true)], args := [d1, d2] }
  | _ => none }
def fnExactWayOfRow : OpenClaim := { program := "ytciceapcnjoogaa", sum := "62c49c9c4460b281da506117d48b69cfbad7f5e3541dc236336ec17904baea6b", func := "loop.example/g03310/laws.FnExactWayOf", spec := "fnExactWayOf", unfollowed := true, recurses := true, apart := false }
def FnExactWayOfSaid : Prop := fnExactWayOfRow.holds Try.pinned (OpenSpec.ofChange fnExactWayOfSpec)

/-- ITS FALSE NEIGHBOUR: 'it returns false'. Refute it at one input. -/
def fnExactWayOfWrong : ChangeSpec := { name := "fnExactWayOf", fn := fun _ => fun
  | [d1, d2] => { results := [.lit (.bool false)], args := [d1, d2] }
  | _ => none }
def FnExactWayOfWrongFalsely : Prop := fnExactWayOfRow.holds Try.pinned (OpenSpec.ofChange fnExactWayOfWrong)

/- THE SECOND FORM. 'bulk': how many values and letters a reading holds, each counted each time it is reached (what is shared counts as often as it is met; a slice's spare places count too). A statement '..UptoSaid' is the law's where the arguments, and the package variables that the reading takes, are together of bulk at most 1048576: NARROWER than '..Said'. Prove '..Said' where nothing that the law and all that it calls make is longer than what came in: it says more and counts as full. Else prove '..UptoSaid'. A law counts once. -/
mutual
def uptoBulk {H : Type} : DataW H → Nat
  | .lit (.string bytes) => bytes.length + 1
  | .lit _ => 1
  | .nil => 1
  | .ptr d => uptoBulk d + 1
  | .slice elems spare => uptoBulkAll elems + uptoBulkAll spare + 1
  | .agg parts => uptoBulkAll parts + 1
  | .iface _ d => uptoBulk d + 1
  | .map entries => uptoBulkEntries entries + 1
  | .held _ => 1
def uptoBulkAll {H : Type} : List (DataW H) → Nat
  | [] => 0
  | d :: r => uptoBulk d + uptoBulkAll r
def uptoBulkEntries {H : Type} : List (Lit × DataW H) → Nat
  | [] => 0
  | x :: r => uptoBulkEntry x + uptoBulkEntries r
def uptoBulkEntry {H : Type} : Lit × DataW H → Nat
  | (.string bytes, d) => bytes.length + uptoBulk d + 1
  | (_, d) => uptoBulk d + 1
 end
def uptoSmall : (H : Type) → List (DataW H) → Bool := fun _ ds => decide (uptoBulkAll ds ≤ 1048576)
def OpenSpec.upto (s : _root_.Go.ChangeSpec) : _root_.Go.OpenSpec := { _root_.Go.OpenSpec.ofChange s with cond := some uptoSmall }

/-- 'laws.FnVans', WHERE WHAT IT READS IS OF BULK AT MOST 1048576: true; the input reads as it did. -/
def fnVansUptoRow : OpenClaim := { program := "ytciceapcnjoogaa", sum := "62c49c9c4460b281da506117d48b69cfbad7f5e3541dc236336ec17904baea6b", func := "loop.example/g03310/laws.FnVans", spec := "fnVans", unfollowed := true, recurses := true, apart := false, narrowed := true }
def FnVansUptoSaid : Prop := fnVansUptoRow.holds Try.pinned (OpenSpec.upto fnVansSpec)

/-- 'laws.FnExactShopsOk', WHERE WHAT IT READS IS OF BULK AT MOST 1048576: true; the input reads as it did. -/
def fnExactShopsOkUptoRow : OpenClaim := { program := "ytciceapcnjoogaa", sum := "62c49c9c4460b281da506117d48b69cfbad7f5e3541dc236336ec17904baea6b", func := "loop.example/g03310/laws.FnExactShopsOk", spec := "fnExactShopsOk", apart := false, narrowed := true }
def FnExactShopsOkUptoSaid : Prop := fnExactShopsOkUptoRow.holds Try.pinned (OpenSpec.upto fnExactShopsOkSpec)

/-- 'laws.FnExactLeastWay', WHERE WHAT IT READS IS OF BULK AT MOST 1048576: true; the input reads as it did. -/
def fnExactLeastWayUptoRow : OpenClaim := { program := "ytciceapcnjoogaa", sum := "62c49c9c4460b281da506117d48b69cfbad7f5e3541dc236336ec17904baea6b", func := "loop.example/g03310/laws.FnExactLeastWay", spec := "fnExactLeastWay", unfollowed := true, recurses := true, apart := false, narrowed := true }
def FnExactLeastWayUptoSaid : Prop := fnExactLeastWayUptoRow.holds Try.pinned (OpenSpec.upto fnExactLeastWaySpec)

/-- 'laws.FnExactFarFirst', WHERE WHAT IT READS IS OF BULK AT MOST 1048576: true; the input reads as it did. -/
def fnExactFarFirstUptoRow : OpenClaim := { program := "ytciceapcnjoogaa", sum := "62c49c9c4460b281da506117d48b69cfbad7f5e3541dc236336ec17904baea6b", func := "loop.example/g03310/laws.FnExactFarFirst", spec := "fnExactFarFirst", unfollowed := true, recurses := true, apart := false, narrowed := true }
def FnExactFarFirstUptoSaid : Prop := fnExactFarFirstUptoRow.holds Try.pinned (OpenSpec.upto fnExactFarFirstSpec)

/-- 'laws.FnExactTripsOk', WHERE WHAT IT READS IS OF BULK AT MOST 1048576: true; the input reads as it did. -/
def fnExactTripsOkUptoRow : OpenClaim := { program := "ytciceapcnjoogaa", sum := "62c49c9c4460b281da506117d48b69cfbad7f5e3541dc236336ec17904baea6b", func := "loop.example/g03310/laws.FnExactTripsOk", spec := "fnExactTripsOk", unfollowed := true, recurses := true, apart := false, narrowed := true }
def FnExactTripsOkUptoSaid : Prop := fnExactTripsOkUptoRow.holds Try.pinned (OpenSpec.upto fnExactTripsOkSpec)

/-- 'laws.FnExactWayOf', WHERE WHAT IT READS IS OF BULK AT MOST 1048576: true; the input reads as it did. -/
def fnExactWayOfUptoRow : OpenClaim := { program := "ytciceapcnjoogaa", sum := "62c49c9c4460b281da506117d48b69cfbad7f5e3541dc236336ec17904baea6b", func := "loop.example/g03310/laws.FnExactWayOf", spec := "fnExactWayOf", unfollowed := true, recurses := true, apart := false, narrowed := true }
def FnExactWayOfUptoSaid : Prop := fnExactWayOfUptoRow.holds Try.pinned (OpenSpec.upto fnExactWayOfSpec)

end Rows
end Go.Proofs.Ytciceapcnjoogaa
