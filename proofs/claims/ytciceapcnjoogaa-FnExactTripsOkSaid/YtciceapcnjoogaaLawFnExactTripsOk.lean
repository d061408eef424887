-- The row of the law laws_FnExactTripsOk: written by a program of this session (wip/hprint.py) out of its Pure and its walk.
import Derived.Test.YtciceapcnjoogaaRows
import Derived.Test.YtciceapcnjoogaaPDTx6
import Derived.Test.YtciceapcnjoogaaPureFnExactTripsOk
import Derived.Test.YtciceapcnjoogaaOpn
import Derived.WalkKit
import Derived.ProofKit
import Derived.OpenShut
import Derived.ShutString
import Derived.ChangeOld
import Derived.Below
import Derived.SizedLaws
namespace Go.Proofs.Ytciceapcnjoogaa.fnExactTripsOk
open Go.ChangeShapes Go.WideShapes Go.ChangeAt Go.RowKit Go.Proofs.Ytciceapcnjoogaa Go.Proofs.Ytciceapcnjoogaa.PDT
open Go.Proofs.YtciceapcnjoogaaW.PrintWords
open Go.ChangeMaps (open_string shut_string)
set_option linter.unusedVariables false
set_option linter.unusedSimpArgs false
theorem own : ownKnob Try.prog.godebug = none := by kernel_rfl
theorem laidOut : laidOutB Try.prog = true := by kernel_rfl
set_option maxRecDepth 100000 in
theorem lifted (os : Os) (started : os.Started) (H : Type) (enc : TypeId × Value → H) :
    ReturnsInHanded {} Try.checked os 7 .any (Rows.fnExactTripsOkSpec.pre6 enc Try.prog Try.f7 Rows.fnExactTripsOkRow.domain false) (Rows.fnExactTripsOkSpec.post enc Try.prog Try.f7 false true false false) := by
  refine returnsInHanded_of_change_sized (C := Try.checked) own started (by kernel_rfl) Try.func7
    (ChangeSpec.witness6 (enc := enc) (C := Try.checked) false ⟨#[], #[.slice none 0 0, .slice none 0 0, .int .i64 0], []⟩ 8 (by kernel_rfl) (by kernel_rfl) (by kernel_rfl) (by kernel_rfl)) ?_
  intro W base args ds gs before hval0 hW hcnd hsz0 _
  have hsz : (DataW.weightsEach Try.prog (Try.f7.params.toList ++ Rows.fnExactTripsOkSpec.plain.varTypes Try.prog) (ds ++ gs)).all (· ≤ reachBytes) = true := hsz0
  have hval : ∀ (j : Nat) t v, Try.f7.params[j]? = some t → args[j]? = some v → Value.okWide Try.prog W .any base t v := hval0
  have hW' := hW
  obtain ⟨p, q, hA0, hV, rfl, hfz, hnd⟩ := hW
  have hA : DataW.TrodAll enc Try.prog W 0 (fun _ => true) true Try.f7.params.toList args.toList ds p := hA0
  rw [Try.params7] at hA hval hsz
  obtain ⟨v0, vs0, d0, ds0, p0, q0, hargs, rfl, rfl, h0, r0⟩ := trodAll_cons hA
  obtain ⟨v1, vs1, d1, ds1, p1, q1, rfl, rfl, rfl, h1, r1⟩ := trodAll_cons r0
  obtain ⟨v2, vs2, d2, ds2, p2, q2, rfl, rfl, rfl, h2, r2⟩ := trodAll_cons r1
  obtain ⟨rfl, rfl, rfl⟩ := trodAll_nil r2
  obtain rfl : args = #[v0, v1, v2] := by cases args; simp_all
  obtain ⟨rfl, rfl⟩ := trodVars_none hV
  obtain ⟨A0, len0, c0, rfl⟩ := okWide_slice Try.underlying37 (hval 0 37 v0 rfl rfl)
  have k0 := h0
  have lt0 : ∀ x ∈ p0, x.block < W.heap.size := by obtain ⟨m, hm⟩ := k0; exact DataW.trod_lt m _ _ _ hm
  obtain ⟨l0, rfl, hc0, hr0, hm0, hw0⟩ := Opn.Opn.arg Try.underlying37 (by kernel_rfl) (show Opn.Opn enc Try.prog k59 59 (fun x => wfS59 x) from Opn.Opn.iso _ (fun p => ⟨p.1, p.2⟩) (fun _ => rfl) (Opn.Opn.struct2 Try.underlying59 (by kernel_rfl) (Opn.Opn.int Try.underlying3) (Opn.Opn.int Try.underlying3) rfl rfl (by kernel_rfl) (by kernel_rfl))) h0
  have hy0 := Opn.sized_any hsz (j := 0) (t := 37) rfl rfl Try.underlying37 (B := 16) (by kernel_rfl) k0
  obtain ⟨A1, len1, c1, rfl⟩ := okWide_slice Try.underlying27 (hval 1 27 v1 rfl rfl)
  have k1 := h1
  have lt1 : ∀ x ∈ p1, x.block < W.heap.size := by obtain ⟨m, hm⟩ := k1; exact DataW.trod_lt m _ _ _ hm
  obtain ⟨l1, rfl, hc1, hr1, hm1, hw1⟩ := Opn.Opn.arg Try.underlying27 (by kernel_rfl) (Opn.Opn.slice Try.underlying33 (by kernel_rfl) (Opn.Opn.int Try.underlying3)) h1
  have hy1 := Opn.sized_any hsz (j := 1) (t := 27) rfl rfl Try.underlying27 (B := 24) (by kernel_rfl) k1
  obtain ⟨a2, rfl, rfl, rfl, w2⟩ := open_int Try.underlying3 (hval 2 3 v2 rfl rfl) h2
  clear hA0 hval0 hsz0 hsz
  refine (PDT.laws_FnExactTripsOk.walk Pure.FnExactTripsOk A0 c0 l0 A1 c1 l1 a2 W hr0 hc0 hm0 hy0 hw0 hr1 hc1 hm1 hy1 hw1 w2).mono fun e W' ⟨he, bel⟩ => ?_
  subst he
  exact ⟨_, rfl, _, _, _, [], _, [], hW', trodAll_mk1 (shut_bool Try.underlying4 _), (trodAll_cons_mk (Below.trod laidOut (by kernel_rfl) (of_decide_eq_true (by kernel_rfl)) k0 bel lt0) (trodAll_cons_mk (Below.trod laidOut (by kernel_rfl) (of_decide_eq_true (by kernel_rfl)) k1 bel lt1) (trodAll_cons_mk (shut_int Try.underlying3 w2) trodAll_mk0))), rfl, bel.frame _, fun h => by cases h⟩
theorem over : Rows.fnExactTripsOkRow.holds Try.pinned (OpenSpec.ofChange Rows.fnExactTripsOkSpec) :=
  OpenClaim.holds_of_wide 7 Try.f7 rfl rfl rfl rfl rfl rfl rfl ⟨rfl, rfl, rfl, rfl, rfl⟩ rfl rfl rfl rfl rfl (by kernel_rfl) Try.func7 (by kernel_rfl)
    (of_decide_eq_true (by kernel_rfl)) (by unfold Func.isWrapper; first | (rw [if_pos (by decide +kernel)]; kernel_rfl) | (rw [if_neg (by decide +kernel)]; exact ⟨rfl, rfl⟩))
    (fun os started H enc _ => lifted os started H enc)
theorem proved : Rows.FnExactTripsOkSaid := over
#print axioms proved
end Go.Proofs.Ytciceapcnjoogaa.fnExactTripsOk
namespace Go.Proofs.Ytciceapcnjoogaa
/-- The row, under a short name, for the claim. -/
theorem fnExactTripsOk_holds : Rows.FnExactTripsOkSaid := fnExactTripsOk.proved
end Go.Proofs.Ytciceapcnjoogaa
