-- The row of the law laws_FnExactSuspects: written by a program of this session (wip/hprint.py) out of its Pure and its walk.
import Derived.Test.YthdgbngnddkkiaaRows
import Derived.Test.YthdgbngnddkkiaaPHXx10
import Derived.Test.YthdgbngnddkkiaaPureFnExactSuspects
import Derived.Test.YthdgbngnddkkiaaOpn
import Derived.WalkKit
import Derived.ProofKit
import Derived.OpenShut
import Derived.ShutString
import Derived.ChangeOld
import Derived.Below
import Derived.SizedLaws
namespace Go.Proofs.Ythdgbngnddkkiaa.fnExactSuspects
open Go.ChangeShapes Go.WideShapes Go.ChangeAt Go.RowKit Go.Proofs.Ythdgbngnddkkiaa Go.Proofs.Ythdgbngnddkkiaa.PHX
open Go.Proofs.YthdgbngnddkkiaaW.PrintWords
open Go.ChangeMaps (open_string shut_string)
set_option linter.unusedVariables false
set_option linter.unusedSimpArgs false
theorem own : ownKnob Try.prog.godebug = none := by kernel_rfl
theorem laidOut : laidOutB Try.prog = true := by kernel_rfl
set_option maxRecDepth 100000 in
theorem lifted (os : Os) (started : os.Started) (H : Type) (enc : TypeId × Value → H) :
    ReturnsInHanded {} Try.checked os 7 .any (Rows.fnExactSuspectsSpec.pre6 enc Try.prog Try.f7 Rows.fnExactSuspectsRow.domain false) (Rows.fnExactSuspectsSpec.post enc Try.prog Try.f7 false true false false) := by
  refine returnsInHanded_of_change_sized (C := Try.checked) own started (by kernel_rfl) Try.func7
    (ChangeSpec.witness6 (enc := enc) (C := Try.checked) false ⟨#[], #[.slice none 0 0, .slice none 0 0], []⟩ 8 (by kernel_rfl) (by kernel_rfl) (by kernel_rfl) (by kernel_rfl)) ?_
  intro W base args ds gs before hval0 hW hcnd hsz0 _
  have hsz : (DataW.weightsEach Try.prog (Try.f7.params.toList ++ Rows.fnExactSuspectsSpec.plain.varTypes Try.prog) (ds ++ gs)).all (· ≤ reachBytes) = true := hsz0
  have hval : ∀ (j : Nat) t v, Try.f7.params[j]? = some t → args[j]? = some v → Value.okWide Try.prog W .any base t v := hval0
  have hW' := hW
  obtain ⟨p, q, hA0, hV, rfl, hfz, hnd⟩ := hW
  have hA : DataW.TrodAll enc Try.prog W 0 (fun _ => true) true Try.f7.params.toList args.toList ds p := hA0
  rw [Try.params7] at hA hval hsz
  obtain ⟨v0, vs0, d0, ds0, p0, q0, hargs, rfl, rfl, h0, r0⟩ := trodAll_cons hA
  obtain ⟨v1, vs1, d1, ds1, p1, q1, rfl, rfl, rfl, h1, r1⟩ := trodAll_cons r0
  obtain ⟨rfl, rfl, rfl⟩ := trodAll_nil r1
  obtain rfl : args = #[v0, v1] := by cases args; simp_all
  obtain ⟨rfl, rfl⟩ := trodVars_none hV
  obtain ⟨A0, len0, c0, rfl⟩ := okWide_slice Try.underlying22 (hval 0 22 v0 rfl rfl)
  have k0 := h0
  have lt0 : ∀ x ∈ p0, x.block < W.heap.size := by obtain ⟨m, hm⟩ := k0; exact DataW.trod_lt m _ _ _ hm
  obtain ⟨l0, rfl, hc0, hr0, hm0, hw0⟩ := Opn.Opn.arg Try.underlying22 (by kernel_rfl) (show Opn.Opn enc Try.prog k45 45 (fun x => wfS45 x) from Opn.Opn.iso _ (fun p => ⟨p.1, p.2.1, p.2.2⟩) (fun _ => rfl) (Opn.Opn.struct3 Try.underlying45 (by kernel_rfl) (Opn.Opn.int Try.underlying3) (Opn.Opn.int Try.underlying3) (Opn.Opn.int Try.underlying3) rfl rfl rfl (by kernel_rfl) (by kernel_rfl) (by kernel_rfl))) h0
  have hy0 := Opn.sized_any hsz (j := 0) (t := 22) rfl rfl Try.underlying22 (B := 24) (by kernel_rfl) k0
  obtain ⟨A1, len1, c1, rfl⟩ := okWide_slice Try.underlying29 (hval 1 29 v1 rfl rfl)
  have k1 := h1
  have lt1 : ∀ x ∈ p1, x.block < W.heap.size := by obtain ⟨m, hm⟩ := k1; exact DataW.trod_lt m _ _ _ hm
  obtain ⟨l1, rfl, hc1, hr1, hm1, hw1⟩ := Opn.Opn.arg Try.underlying29 (by kernel_rfl) (Opn.Opn.int Try.underlying3) h1
  have hy1 := Opn.sized_any hsz (j := 1) (t := 29) rfl rfl Try.underlying29 (B := 8) (by kernel_rfl) k1
  clear hA0 hval0 hsz0 hsz
  refine (PHX.laws_FnExactSuspects.walk Pure.FnExactSuspects A0 c0 l0 A1 c1 l1 W hr0 hc0 hm0 hy0 hw0 hr1 hc1 hm1 hy1 hw1).mono fun e W' ⟨he, bel⟩ => ?_
  subst he
  exact ⟨_, rfl, _, _, _, [], _, [], hW', trodAll_mk1 (shut_bool Try.underlying4 _), (trodAll_cons_mk (Below.trod laidOut (by kernel_rfl) (of_decide_eq_true (by kernel_rfl)) k0 bel lt0) (trodAll_cons_mk (Below.trod laidOut (by kernel_rfl) (of_decide_eq_true (by kernel_rfl)) k1 bel lt1) trodAll_mk0)), rfl, bel.frame _, fun h => by cases h⟩
theorem over : Rows.fnExactSuspectsRow.holds Try.pinned (OpenSpec.ofChange Rows.fnExactSuspectsSpec) :=
  OpenClaim.holds_of_wide 7 Try.f7 rfl rfl rfl rfl rfl rfl rfl ⟨rfl, rfl, rfl, rfl, rfl⟩ rfl rfl rfl rfl rfl (by kernel_rfl) Try.func7 (by kernel_rfl)
    (of_decide_eq_true (by kernel_rfl)) (by unfold Func.isWrapper; first | (rw [if_pos (by decide +kernel)]; kernel_rfl) | (rw [if_neg (by decide +kernel)]; exact ⟨rfl, rfl⟩))
    (fun os started H enc _ => lifted os started H enc)
theorem proved : Rows.FnExactSuspectsSaid := over
#print axioms proved
end Go.Proofs.Ythdgbngnddkkiaa.fnExactSuspects
namespace Go.Proofs.Ythdgbngnddkkiaa
/-- The row, under a short name, for the claim. -/
theorem fnExactSuspects_holds : Rows.FnExactSuspectsSaid := fnExactSuspects.proved
end Go.Proofs.Ythdgbngnddkkiaa
