/-
  No cell of these rows narrows 'for every input' (looked for: loops, veiled, ifaces, maps, wideKeys, modest, calm, conditions, laid).
  DERIVED. THE GIVEN ROWS OF THIS SEAT. 7 by the template 'for every input the law returns true; each argument reads behind the call as it read before'; 0 by the template 'total and deterministic' (their statements: YtdlolekpdophcaaTotals.lean).
  GIVEN WITH THE SEED: the statements are not yours to turn. If you find one false, say at which input.
  Laid BY PROGRAM, IN A SANDBOX (cutbox-rows.mjs): the forced cells as the released guide's own fill.sh prints them over the translation 4379e66695786a92… (all of the seat's roots in one cut). By AI agents, Wed Nov 11 2026. No macro, syntax, notation, axiom, sorry.
-/
import Derived.Test.YtdlolekpdophcaaChecked
import GoSem.Claim
import GoSem.ClaimJoined
import GoSem.ClaimMapViews
import Derived.JoinedTies
import Derived.KernelRfl
namespace Go.Proofs.Ytdlolekpdophcaa
/- THE CELL 'sum', in the pinned program and in every row, IS THE sha256 OF THE DUMP (.gsa) THAT YtdlolekpdophcaaProg.lean LOADS. Nothing in Lean hashes anything: it is a label: what it is worth is what the hold of that sum in a sandbox is worth. -/
noncomputable def Try.pinned : Pinned := { name := "ytdlolekpdophcaa", sum := "4379e66695786a926b35d3e17d719b8c144fce457a814cf2e86767befbb05c03", checked := Try.checked }
namespace Rows
def none {H : Type} : Left H := { results := [], args := [] }

/-- 'laws.FnExactShiftsOk': WHATEVER THE INPUT: true; the input reads as it did. -/
def fnExactShiftsOkSpec : ChangeSpec := { name := "fnExactShiftsOk", fn := fun _ => fun
  | [d] => { results := [.lit (.bool true)], args := [d] }
  | _ => none }
def fnExactShiftsOkRow : OpenClaim := { program := "ytdlolekpdophcaa", sum := "4379e66695786a926b35d3e17d719b8c144fce457a814cf2e86767befbb05c03", func := "loop.example/g03310/laws.FnExactShiftsOk", spec := "fnExactShiftsOk", apart := false }
def FnExactShiftsOkSaid : Prop := fnExactShiftsOkRow.holds Try.pinned (OpenSpec.ofChange fnExactShiftsOkSpec)

/-- ITS FALSE NEIGHBOUR: 'it returns false'. Refute it at one input. -/
def fnExactShiftsOkWrong : ChangeSpec := { name := "fnExactShiftsOk", fn := fun _ => fun
  | [d] => { results := [.lit (.bool false)], args := [d] }
  | _ => none }
def FnExactShiftsOkWrongFalsely : Prop := fnExactShiftsOkRow.holds Try.pinned (OpenSpec.ofChange fnExactShiftsOkWrong)

/-- 'laws.FnExactHoursOf': WHATEVER THE INPUT: true; the input reads as it did. -/
def fnExactHoursOfSpec : ChangeSpec := { name := "fnExactHoursOf", fn := fun _ => fun
  | [d] => { results := [.lit (.bool true)], args := [d] }
  | _ => none }
def fnExactHoursOfRow : OpenClaim := { program := "ytdlolekpdophcaa", sum := "4379e66695786a926b35d3e17d719b8c144fce457a814cf2e86767befbb05c03", func := "loop.example/g03310/laws.FnExactHoursOf", spec := "fnExactHoursOf", apart := false }
def FnExactHoursOfSaid : Prop := fnExactHoursOfRow.holds Try.pinned (OpenSpec.ofChange fnExactHoursOfSpec)

/-- ITS FALSE NEIGHBOUR: 'it returns false'. Refute it at one input. -/
def fnExactHoursOfWrong : ChangeSpec := { name := "fnExactHoursOf", fn := fun _ => fun
  | [d] => { results := [.lit (.bool false)], args := [d] }
  | _ => none }
def FnExactHoursOfWrongFalsely : Prop := fnExactHoursOfRow.holds Try.pinned (OpenSpec.ofChange fnExactHoursOfWrong)

/-- 'laws.FnExactRestBetween': WHATEVER THE INPUT: true; the input reads as it did. -/
def fnExactRestBetweenSpec : ChangeSpec := { name := "fnExactRestBetween", fn := fun _ => fun
  | [d] => { results := [.lit (.bool true)], args := [d] }
  | _ => none }
def fnExactRestBetweenRow : OpenClaim := { program := "ytdlolekpdophcaa", sum := "4379e66695786a926b35d3e17d719b8c144fce457a814cf2e86767befbb05c03", func := "loop.example/g03310/laws.FnExactRestBetween", spec := "fnExactRestBetween", apart := false }
def FnExactRestBetweenSaid : Prop := fnExactRestBetweenRow.holds Try.pinned (OpenSpec.ofChange fnExactRestBetweenSpec)

/-- ITS FALSE NEIGHBOUR: 'it returns false'. Refute it at one input. -/
def fnExactRestBetweenWrong : ChangeSpec := { name := "fnExactRestBetween", fn := fun _ => fun
  | [d] => { results := [.lit (.bool false)], args := [d] }
  | _ => none }
def FnExactRestBetweenWrongFalsely : Prop := fnExactRestBetweenRow.holds Try.pinned (OpenSpec.ofChange fnExactRestBetweenWrong)

/-- 'laws.FnExactNightHours': WHATEVER THE INPUT: true; the input reads as it did. -/
def fnExactNightHoursSpec : ChangeSpec := { name := "fnExactNightHours", fn := fun _ => fun
  | [d] => { results := [.lit (.bool true)], args := [d] }
  | _ => none }
def fnExactNightHoursRow : OpenClaim := { program := "ytdlolekpdophcaa", sum := "4379e66695786a926b35d3e17d719b8c144fce457a814cf2e86767befbb05c03", func := "loop.example/g03310/laws.FnExactNightHours", spec := "fnExactNightHours", apart := false }
def FnExactNightHoursSaid : Prop := fnExactNightHoursRow.holds Try.pinned (OpenSpec.ofChange fnExactNightHoursSpec)

/-- ITS FALSE NEIGHBOUR: 'it returns false'. Refute it at one input. -/
def fnExactNightHoursWrong : ChangeSpec := { name := "fnExactNightHours", fn := fun _ => fun
  | [d] => { results := [.lit (.bool false)], args := [d] }
  | _ => none }
def FnExactNightHoursWrongFalsely : Prop := fnExactNightHoursRow.holds Try.pinned (OpenSpec.ofChange fnExactNightHoursWrong)

/-- 'laws.FnExactIsAllowed': WHATEVER THE INPUT: true; the input reads as it did. -/
def fnExactIsAllowedSpec : ChangeSpec := { name := "fnExactIsAllowed", fn := fun _ => fun
  | [d1, d2, d3] => { results := [.lit (.bool true)], args := [d1, d2, d3] }
  | _ => none }
def fnExactIsAllowedRow : OpenClaim := { program := "ytdlolekpdophcaa", sum := "4379e66695786a926b35d3e17d719b8c144fce457a814cf2e86767befbb05c03", func := "loop.example/g03310/laws.FnExactIsAllowed", spec := "fnExactIsAllowed", apart := false }
def FnExactIsAllowedSaid : Prop := fnExactIsAllowedRow.holds Try.pinned (OpenSpec.ofChange fnExactIsAllowedSpec)

/-- ITS FALSE NEIGHBOUR: 'it returns false'. Refute it at one input. -/
def fnExactIsAllowedWrong : ChangeSpec := { name := "fnExactIsAllowed", fn := fun _ => fun
  | [d1, d2, d3] => { results := [.lit (.bool false)], args := [d1, d2, d3] }
  | _ => none }
def FnExactIsAllowedWrongFalsely : Prop := fnExactIsAllowedRow.holds Try.pinned (OpenSpec.ofChange fnExactIsAllowedWrong)

/-- 'laws.FnShifts': WHATEVER THE INPUT: true; the input reads as it did. -/
def fnShiftsSpec : ChangeSpec := { name := "fnShifts", fn := fun _ => fun
  | [d] => { results := [.lit (.bool true)], args := [d] }
  | _ => none }
def fnShiftsRow : OpenClaim := { program := "ytdlolekpdophcaa", sum := "4379e66695786a926b35d3e17d719b8c144fce457a814cf2e86767befbb05c03", func := "loop.example/g03310/laws.FnShifts", spec := "fnShifts", unfollowed := true, recurses := true, apart := false }
def FnShiftsSaid : Prop := fnShiftsRow.holds Try.pinned (OpenSpec.ofChange fnShiftsSpec)

/-- ITS FALSE NEIGHBOUR: 'it returns false'. Refute it at one input. -/
def fnShiftsWrong : ChangeSpec := { name := "fnShifts", fn := fun _ => fun
  | [d] => { results := [.lit (.bool false)], args := [d] }
  | _ => none }
def FnShiftsWrongFalsely : Prop := fnShiftsRow.holds Try.pinned (OpenSpec.ofChange fnShiftsWrong)

/-- 'laws.FnExactMostShifts': WHATEVER THE INPUT: true; the input reads as it did. -/
def fnExactMostShiftsSpec : ChangeSpec := { name := "fnExactMostShifts", fn := fun _ => fun
  | [d1, d2] => { results := [.lit (.bool true)], args := [d1, d2] }
  | _ => none }
def fnExactMostShiftsRow : OpenClaim := { program := "ytdlolekpdophcaa", sum := "4379e66695786a926b35d3e17d719b8c144fce457a814cf2e86767befbb05c03", func := "loop.example/g03310/laws.FnExactMostShifts", spec := "fnExactMostShifts", unfollowed := true, recurses := true, apart := false }
def FnExactMostShiftsSaid : Prop := fnExactMostShiftsRow.holds Try.pinned (OpenSpec.ofChange fnExactMostShiftsSpec)

/-- ITS FALSE NEIGHBOUR: 'it returns false'. Refute it at one input. -/
def fnExactMostShiftsWrong : ChangeSpec := { name := "fnExactMostShifts", fn := fun _ => fun
  | [d1, d2] => { results := [.lit (.bool false)], args := [d1, d2] }
  | _ => none }
def FnExactMostShiftsWrongFalsely : Prop := fnExactMostShiftsRow.holds Try.pinned (OpenSpec.ofChange fnExactMostShiftsWrong)

/- THE SECOND FORM. 'bulk': how many values and letters a reading holds, each counted each time it is reached (what is shared counts as often as it is met; a slice's spare places count too). A statement '..UptoSaid' is the law's where the arguments, and the package variables that the reading takes, are together of bulk at most 1048576: NARROWER than '..Said'. Prove '..Said' where nothing that the law and all that it calls make is longer than what came in: it says more and counts as full. Else prove '..UptoSaid'. A law counts once. -/
mutual
def uptoBulk {H : Type} : DataW H → Nat
  | .lit (.string bytes) => bytes.length + 1
  | .lit _ => 1
  | .nil => 1
  | .ptr d => uptoBulk d + 1
  | .slice elems spare => uptoBulkAll elems + uptoBulkAll spare + 1
  | .agg parts => uptoBulkAll parts + 1
  | .iface _ d => uptoBulk d + 1
  | .map entries => uptoBulkEntries entries + 1
  | .held _ => 1
def uptoBulkAll {H : Type} : List (DataW H) → Nat
  | [] => 0
  | d :: r => uptoBulk d + uptoBulkAll r
def uptoBulkEntries {H : Type} : List (Lit × DataW H) → Nat
  | [] => 0
  | x :: r => uptoBulkEntry x + uptoBulkEntries r
def uptoBulkEntry {H : Type} : Lit × DataW H → Nat
  | (.string bytes, d) => bytes.length + uptoBulk d + 1
  | (_, d) => uptoBulk d + 1
 end
def uptoSmall : (H : Type) → List (DataW H) → Bool := fun _ ds => decide (uptoBulkAll ds ≤ 1048576)
def OpenSpec.upto (s : _root_.Go.ChangeSpec) : _root_.Go.OpenSpec := { _root_.Go.OpenSpec.ofChange s with cond := some uptoSmall }

/-- 'laws.FnExactShiftsOk', WHERE WHAT IT READS IS OF BULK AT MOST 1048576: true; the input reads as it did. -/
def fnExactShiftsOkUptoRow : OpenClaim := { program := "ytdlolekpdophcaa", sum := "4379e66695786a926b35d3e17d719b8c144fce457a814cf2e86767befbb05c03", func := "loop.example/g03310/laws.FnExactShiftsOk", spec := "fnExactShiftsOk", apart := false, narrowed := true }
def FnExactShiftsOkUptoSaid : Prop := fnExactShiftsOkUptoRow.holds Try.pinned (OpenSpec.upto fnExactShiftsOkSpec)

/-- 'laws.FnExactHoursOf', WHERE WHAT IT READS IS OF BULK AT MOST 1048576: true; the input reads as it did. -/
def fnExactHoursOfUptoRow : OpenClaim := { program := "ytdlolekpdophcaa", sum := "4379e66695786a926b35d3e17d719b8c144fce457a814cf2e86767befbb05c03", func := "loop.example/g03310/laws.FnExactHoursOf", spec := "fnExactHoursOf", apart := false, narrowed := true }
def FnExactHoursOfUptoSaid : Prop := fnExactHoursOfUptoRow.holds Try.pinned (OpenSpec.upto fnExactHoursOfSpec)

/-- 'laws.FnExactRestBetween', WHERE WHAT IT READS IS OF BULK AT MOST 1048576: true; the input reads as it did. -/
def fnExactRestBetweenUptoRow : OpenClaim := { program := "ytdlolekpdophcaa", sum := "4379e66695786a926b35d3e17d719b8c144fce457a814cf2e86767befbb05c03", func := "loop.example/g03310/laws.FnExactRestBetween", spec := "fnExactRestBetween", apart := false, narrowed := true }
def FnExactRestBetweenUptoSaid : Prop := fnExactRestBetweenUptoRow.holds Try.pinned (OpenSpec.upto fnExactRestBetweenSpec)

/-- 'laws.FnExactNightHours', WHERE WHAT IT READS IS OF BULK AT MOST 1048576: true; the input reads as it did. -/
def fnExactNightHoursUptoRow : OpenClaim := { program := "ytdlolekpdophcaa", sum := "4379e66695786a926b35d3e17d719b8c144fce457a814cf2e86767befbb05c03", func := "loop.example/g03310/laws.FnExactNightHours", spec := "fnExactNightHours", apart := false, narrowed := true }
def FnExactNightHoursUptoSaid : Prop := fnExactNightHoursUptoRow.holds Try.pinned (OpenSpec.upto fnExactNightHoursSpec)

/-- 'laws.FnExactIsAllowed', WHERE WHAT IT READS IS OF BULK AT MOST 1048576: true; the input reads as it did. -/
def fnExactIsAllowedUptoRow : OpenClaim := { program := "ytdlolekpdophcaa", sum := "4379e66695786a926b35d3e17d719b8c144fce457a814cf2e86767befbb05c03", func := "loop.example/g03310/laws.FnExactIsAllowed", spec := "fnExactIsAllowed", apart := false, narrowed := true }
def FnExactIsAllowedUptoSaid : Prop := fnExactIsAllowedUptoRow.holds Try.pinned (OpenSpec.upto fnExactIsAllowedSpec)

/-- 'laws.FnShifts', WHERE WHAT IT READS IS OF BULK AT MOST 1048576: true; the input reads as it did. -/
def fnShiftsUptoRow : OpenClaim := { program := "ytdlolekpdophcaa", sum := "4379e66695786a926b35d3e17d719b8c144fce457a814cf2e86767befbb05c03", func := "loop.example/g03310/laws.FnShifts", spec := "fnShifts", unfollowed := true, recurses := true, apart := false, narrowed := true }
def FnShiftsUptoSaid : Prop := fnShiftsUptoRow.holds Try.pinned (OpenSpec.upto fnShiftsSpec)

/-- 'laws.FnExactMostShifts', WHERE WHAT IT READS IS OF BULK AT MOST 1048576: true; the input reads as it did. -/
def fnExactMostShiftsUptoRow : OpenClaim := { program := "ytdlolekpdophcaa", sum := "4379e66695786a926b35d3e17d719b8c144fce457a814cf2e86767befbb05c03", func := "loop.example/g03310/laws.FnExactMostShifts", spec := "fnExactMostShifts", unfollowed := true, recurses := true, apart := false, narrowed := true }
def FnExactMostShiftsUptoSaid : Prop := fnExactMostShiftsUptoRow.holds Try.pinned (OpenSpec.upto fnExactMostShiftsSpec)

end Rows
end Go.Proofs.Ytdlolekpdophcaa
