-- Written by a program of this session (wip/hprint.py, over the kit's print).
import Derived.Test.YthdgbngnddkkiaaPHXx0
import Derived.Test.YthdgbngnddkkiaaPHXx1
import Derived.Test.YthdgbngnddkkiaaPHXx2
import Derived.Test.YthdgbngnddkkiaaPHXx3
import Derived.Test.YthdgbngnddkkiaaPHXx7
import Derived.Test.YthdgbngnddkkiaaPHXx9
namespace Go.Proofs.Ythdgbngnddkkiaa.PHX
open Go.RowKit Go.Proofs.YthdgbngnddkkiaaW.PrintWords Go.Proofs.YthdgbngnddkkiaaW.PrintLast Go.Proofs.YthdgbngnddkkiaaW.PrintMore
attribute [local go_sem] max2_int min2_int max_two min_two max_three min_three max_four min_four   -- for this text's walks alone
set_option linter.unusedVariables false
set_option linter.unusedSimpArgs false

/-! ### laws_FnExactSuspects: function 7 -/
def laws_FnExactSuspects.j0 : Nat → List (S45) → List Int → List Int → List Int → Bool → Option (Bool)
 | 0, _, _, _, _, _ => none
 | k + 1, x0, x1, x6, x9, x61 => if x61 = true then (some false) else ((laws_markIntS.f k x9 1).bind fun bt447 => ((laws_heldIntS.f k bt447.2 1).bind fun t449 => (if t449 < 0 then (some false) else (if t449 = bt447.1 then ((laws_toUseS.f k x0).bind fun t450 => ((laws_toIntS.f k x1).bind fun t453 => ((impl_Suspects.f k t450 t453).bind fun t456 => ((laws_eqIntS.f k t456 x6).bind fun t459 => (if t459 = true then ((laws_heldIntS.f k bt447.2 1).bind fun t460 => (if t460 < 0 then (some false) else (if t460 = bt447.1 then (some true) else (some false)))) else (some false)))))) else (some false)))))
def laws_FnExactSuspects.f (k : Nat) (l0 : List (S45)) (l1 : List Int) : Option (Bool) := if (l1.length : Int) > 1048576 then (some true) else ((laws_szUseS.f l0 1048576).bind fun t414 => (if t414 < 0 then (some true) else ((laws_toUseS.f k l0).bind fun t415 => ((laws_toIntS.f k l1).bind fun t418 => ((spec_Suspects.f k t415 t418).bind fun t421 => ((laws_toUseS.f k l0).bind fun t424 => ((laws_toIntS.f k l1).bind fun t427 => ((impl_Suspects.f k t424 t427).bind fun t430 => ((laws_eqIntS.f k t430 t421).bind fun t433 => (if t433 = true then ((laws_toUseS.f k l0).bind fun t434 => ((laws_eqUseS.f k t424 t434).bind fun t437 => (if t437 = true then ((laws_toIntS.f k l1).bind fun t438 => ((laws_eqIntS.f k t427 t438).bind fun t441 => (if t441 = true then ((laws_markUseS.f k t424 1).bind fun bt442 => ((laws_markIntS.f k t427 bt442.1).bind fun bt444 => (if bt444.1 < 0 then (laws_FnExactSuspects.j0 k l0 l1 t421 t430 true) else ((laws_eqIntS.f k t430 t421).bind fun t446 => (laws_FnExactSuspects.j0 k l0 l1 t421 t430 (!t446)))))) else (some false)))) else (some false)))) else (some false)))))))))))
theorem laws_FnExactSuspects.mono_l : ∀ k, (∀ y0 y1 y2 y3 y4, LeO (laws_FnExactSuspects.j0 k y0 y1 y2 y3 y4) (laws_FnExactSuspects.j0 (k + 1) y0 y1 y2 y3 y4))
 | 0 => fun _ _ _ _ _ r h => by simp [laws_FnExactSuspects.j0] at h
 | k + 1 => by
  have ih0 := laws_FnExactSuspects.mono_l k
  ·intro y0 y1 y2 y3 y4
   unfold laws_FnExactSuspects.j0
   repeat' first
   | (with_reducible exact ih0 _ _ _ _ _)
   | (with_reducible exact impl_Suspects.mono _ _ _)
   | (with_reducible exact laws_eqIntS.mono _ _ _)
   | (with_reducible exact laws_eqUseS.mono _ _ _)
   | (with_reducible exact laws_heldIntS.mono _ _ _)
   | (with_reducible exact laws_markIntS.mono _ _ _)
   | (with_reducible exact laws_markUseS.mono _ _ _)
   | (with_reducible exact laws_toIntS.mono _ _)
   | (with_reducible exact laws_toUseS.mono _ _)
   | (with_reducible exact spec_Suspects.mono _ _ _)
   | (with_reducible exact LeO.refl _)
   | (with_reducible exact LeO.none _)
   | (with_reducible refine LeO.ite ?_ ?_)
   | (with_reducible refine LeO.bind ?_ (fun _ => ?_))
   | exact ih0 _ _ _ _ _
   | exact impl_Suspects.mono _ _ _
   | exact laws_eqIntS.mono _ _ _
   | exact laws_eqUseS.mono _ _ _
   | exact laws_heldIntS.mono _ _ _
   | exact laws_markIntS.mono _ _ _
   | exact laws_markUseS.mono _ _ _
   | exact laws_toIntS.mono _ _
   | exact laws_toUseS.mono _ _
   | exact spec_Suspects.mono _ _ _
   | exact LeO.none _
   | refine LeO.ite ?_ ?_
   | refine LeO.bind ?_ (fun _ => ?_)
theorem laws_FnExactSuspects.mono : ∀ a0 a1 k, LeO (laws_FnExactSuspects.f k a0 a1) (laws_FnExactSuspects.f (k + 1) a0 a1) := by
 intro a0 a1 k
 have ih0 := laws_FnExactSuspects.mono_l k
 unfold laws_FnExactSuspects.f
 repeat' first
   | (with_reducible exact ih0 _ _ _ _ _)
   | (with_reducible exact impl_Suspects.mono _ _ _)
   | (with_reducible exact laws_eqIntS.mono _ _ _)
   | (with_reducible exact laws_eqUseS.mono _ _ _)
   | (with_reducible exact laws_heldIntS.mono _ _ _)
   | (with_reducible exact laws_markIntS.mono _ _ _)
   | (with_reducible exact laws_markUseS.mono _ _ _)
   | (with_reducible exact laws_toIntS.mono _ _)
   | (with_reducible exact laws_toUseS.mono _ _)
   | (with_reducible exact spec_Suspects.mono _ _ _)
   | (with_reducible exact LeO.refl _)
   | (with_reducible exact LeO.none _)
   | (with_reducible refine LeO.ite ?_ ?_)
   | (with_reducible refine LeO.bind ?_ (fun _ => ?_))
   | exact ih0 _ _ _ _ _
   | exact impl_Suspects.mono _ _ _
   | exact laws_eqIntS.mono _ _ _
   | exact laws_eqUseS.mono _ _ _
   | exact laws_heldIntS.mono _ _ _
   | exact laws_markIntS.mono _ _ _
   | exact laws_markUseS.mono _ _ _
   | exact laws_toIntS.mono _ _
   | exact laws_toUseS.mono _ _
   | exact spec_Suspects.mono _ _ _
   | exact LeO.none _
   | refine LeO.ite ?_ ?_
   | refine LeO.bind ?_ (fun _ => ?_)
theorem laws_FnExactSuspects.j0_no {k : Nat} {x0 : List (S45)} {x1 : List Int} {x6 : List Int} {x9 : List Int} {r : Bool} (hr : r = true) (h : laws_FnExactSuspects.j0 k x0 x1 x6 x9 true = some r) : False := by
 subst hr
 cases k <;> simp [laws_FnExactSuspects.j0] at h
set_option maxHeartbeats 8000000 in
set_option maxRecDepth 100000 in
theorem laws_FnExactSuspects.calls (k : Nat) (A0 : Option Addr) (c0 : Nat) (l0 : List (S45)) (A1 : Option Addr) (c1 : Nat) (l1 : List Int) (r : Bool) (w : World) (hr0 : Kd.C k45 w A0 l0.length l0) (hc0 : l0.length ≤ c0) (hr1 : Kd.C (Kd.int .i64) w A1 l1.length l1) (hc1 : l1.length ≤ c1) (hrt_ : r = true) (h : laws_FnExactSuspects.f k l0 l1 = some r) :
  Calls Try.prog 7 #[.slice A0 l0.length c0, .slice A1 l1.length c1] w fun e w' => e = .returned (.bool r) ∧ Below w.heap.size w w' := by
 have HRT := Aside0.mk hrt_
 clear hrt_
 have HR0 := Aside0.mk hr0
 have HC0 := Aside0.mk hc0
 clear hr0 hc0
 have HR1 := Aside0.mk hr1
 have HC1 := Aside0.mk hc1
 clear hr1 hc1
 have HB := Aside0.mk (Below.refl w.heap.size w)
 have H : (if (l1.length : Int) > 1048576 then (some true) else ((laws_szUseS.f l0 1048576).bind fun t414 => (if t414 < 0 then (some true) else ((laws_toUseS.f k l0).bind fun t415 => ((laws_toIntS.f k l1).bind fun t418 => ((spec_Suspects.f k t415 t418).bind fun t421 => ((laws_toUseS.f k l0).bind fun t424 => ((laws_toIntS.f k l1).bind fun t427 => ((impl_Suspects.f k t424 t427).bind fun t430 => ((laws_eqIntS.f k t430 t421).bind fun t433 => (if t433 = true then ((laws_toUseS.f k l0).bind fun t434 => ((laws_eqUseS.f k t424 t434).bind fun t437 => (if t437 = true then ((laws_toIntS.f k l1).bind fun t438 => ((laws_eqIntS.f k t427 t438).bind fun t441 => (if t441 = true then ((laws_markUseS.f k t424 1).bind fun bt442 => ((laws_markIntS.f k t427 bt442.1).bind fun bt444 => (if bt444.1 < 0 then (laws_FnExactSuspects.j0 k l0 l1 t421 t430 true) else ((laws_eqIntS.f k t430 t421).bind fun t446 => (laws_FnExactSuspects.j0 k l0 l1 t421 t430 (!t446)))))) else (some false)))) else (some false)))) else (some false)))))))))))) = some r := h
 clear h
 by_cases c3 : (l1.length : Int) > 1048576
 ·rw [if_pos c3] at H
  have c3b0 : decide (1048576 < (l1.length : Int)) = true := decide_eq_true c3
  have c3b1 : decide (1048576 < l1.length) = true := decide_eq_true (by omega)
  clear c3
  obtain rfl := Option.some.inj H
  go_enter Try.func7, Try.ntmps7
  go_wp2
  go_ret
  exact ⟨by first | rfl | (simp [errW_none, errW_some] <;> rfl) | (simp [*, errW_none, errW_some] <;> rfl), by repeat (first | (with_reducible first | exact HB.out | apply below_alloc | apply pw_below_drewN | apply below_drew1) | exact HB.out)⟩
 ·rw [if_neg c3] at H
  have c3b0 : decide (1048576 < (l1.length : Int)) = false := decide_eq_false c3
  have c3b1 : decide (1048576 < l1.length) = false := decide_eq_false (by omega)
  clear c3
  replace H := Option.bind_eq_some_iff.mp H
  obtain ⟨t414, A40, H⟩ := H
  replace H : (if t414 < 0 then (some true) else ((laws_toUseS.f k l0).bind fun t415 => ((laws_toIntS.f k l1).bind fun t418 => ((spec_Suspects.f k t415 t418).bind fun t421 => ((laws_toUseS.f k l0).bind fun t424 => ((laws_toIntS.f k l1).bind fun t427 => ((impl_Suspects.f k t424 t427).bind fun t430 => ((laws_eqIntS.f k t430 t421).bind fun t433 => (if t433 = true then ((laws_toUseS.f k l0).bind fun t434 => ((laws_eqUseS.f k t424 t434).bind fun t437 => (if t437 = true then ((laws_toIntS.f k l1).bind fun t438 => ((laws_eqIntS.f k t427 t438).bind fun t441 => (if t441 = true then ((laws_markUseS.f k t424 1).bind fun bt442 => ((laws_markIntS.f k t427 bt442.1).bind fun bt444 => (if bt444.1 < 0 then (laws_FnExactSuspects.j0 k l0 l1 t421 t430 true) else ((laws_eqIntS.f k t430 t421).bind fun t446 => (laws_FnExactSuspects.j0 k l0 l1 t421 t430 (!t446)))))) else (some false)))) else (some false)))) else (some false)))))))))) = some r := H
  have A4 := Aside0.mk A40
  clear A40
  by_cases c5 : t414 < 0
  ·rw [if_pos c5] at H
   have c5b0 : decide (t414 < 0) = true := decide_eq_true c5
   clear c5
   obtain rfl := Option.some.inj H
   go_enter Try.func7, Try.ntmps7
   go_wp2_with (first | ((with_reducible refine gate_callee (f := 9) rfl ?_); refine goesL_ (some 19) rfl rfl Try.func9 (by kernel_rfl) rfl #[.slice A0 l0.length c0, .int .i64 1048576] rfl (by (try simp only [List.map_toArray, List.map_cons, List.map_nil]); first | done | rfl | (simp only [List.length_drop, List.length_take]; rfl)) ?_; (with_reducible refine (laws_szUseS.calls _ _ l0 1048576 t414 _ ?side1 ?side2 A4.out).mono ?_); (case side1 => repeat (first | exact HR0.out | (with_reducible refine Kd.C_alloc ?_ _) | (with_reducible refine Kd.C_drewN ?_ _) | (with_reducible refine Kd.C_drew ?_))); (case side2 => exact HC0.out); rintro e w' ⟨rfl, ⟨nd, rfl⟩⟩; refine ⟨_, rfl, ?_⟩))
   go_ret
   exact ⟨by first | rfl | (simp [errW_none, errW_some] <;> rfl) | (simp [*, errW_none, errW_some] <;> rfl), by repeat (first | (with_reducible first | exact HB.out | apply below_alloc | apply pw_below_drewN | apply below_drew1) | exact HB.out)⟩
  ·rw [if_neg c5] at H
   have c5b0 : decide (t414 < 0) = false := decide_eq_false c5
   clear c5
   replace H := Option.bind_eq_some_iff.mp H
   obtain ⟨t415, A60, H⟩ := H
   replace H : ((laws_toIntS.f k l1).bind fun t418 => ((spec_Suspects.f k t415 t418).bind fun t421 => ((laws_toUseS.f k l0).bind fun t424 => ((laws_toIntS.f k l1).bind fun t427 => ((impl_Suspects.f k t424 t427).bind fun t430 => ((laws_eqIntS.f k t430 t421).bind fun t433 => (if t433 = true then ((laws_toUseS.f k l0).bind fun t434 => ((laws_eqUseS.f k t424 t434).bind fun t437 => (if t437 = true then ((laws_toIntS.f k l1).bind fun t438 => ((laws_eqIntS.f k t427 t438).bind fun t441 => (if t441 = true then ((laws_markUseS.f k t424 1).bind fun bt442 => ((laws_markIntS.f k t427 bt442.1).bind fun bt444 => (if bt444.1 < 0 then (laws_FnExactSuspects.j0 k l0 l1 t421 t430 true) else ((laws_eqIntS.f k t430 t421).bind fun t446 => (laws_FnExactSuspects.j0 k l0 l1 t421 t430 (!t446)))))) else (some false)))) else (some false)))) else (some false)))))))) = some r := H
   have A6 := Aside0.mk A60
   clear A60
   replace H := Option.bind_eq_some_iff.mp H
   obtain ⟨t418, A70, H⟩ := H
   replace H : ((spec_Suspects.f k t415 t418).bind fun t421 => ((laws_toUseS.f k l0).bind fun t424 => ((laws_toIntS.f k l1).bind fun t427 => ((impl_Suspects.f k t424 t427).bind fun t430 => ((laws_eqIntS.f k t430 t421).bind fun t433 => (if t433 = true then ((laws_toUseS.f k l0).bind fun t434 => ((laws_eqUseS.f k t424 t434).bind fun t437 => (if t437 = true then ((laws_toIntS.f k l1).bind fun t438 => ((laws_eqIntS.f k t427 t438).bind fun t441 => (if t441 = true then ((laws_markUseS.f k t424 1).bind fun bt442 => ((laws_markIntS.f k t427 bt442.1).bind fun bt444 => (if bt444.1 < 0 then (laws_FnExactSuspects.j0 k l0 l1 t421 t430 true) else ((laws_eqIntS.f k t430 t421).bind fun t446 => (laws_FnExactSuspects.j0 k l0 l1 t421 t430 (!t446)))))) else (some false)))) else (some false)))) else (some false))))))) = some r := H
   have A7 := Aside0.mk A70
   clear A70
   replace H := Option.bind_eq_some_iff.mp H
   obtain ⟨t421, A80, H⟩ := H
   replace H : ((laws_toUseS.f k l0).bind fun t424 => ((laws_toIntS.f k l1).bind fun t427 => ((impl_Suspects.f k t424 t427).bind fun t430 => ((laws_eqIntS.f k t430 t421).bind fun t433 => (if t433 = true then ((laws_toUseS.f k l0).bind fun t434 => ((laws_eqUseS.f k t424 t434).bind fun t437 => (if t437 = true then ((laws_toIntS.f k l1).bind fun t438 => ((laws_eqIntS.f k t427 t438).bind fun t441 => (if t441 = true then ((laws_markUseS.f k t424 1).bind fun bt442 => ((laws_markIntS.f k t427 bt442.1).bind fun bt444 => (if bt444.1 < 0 then (laws_FnExactSuspects.j0 k l0 l1 t421 t430 true) else ((laws_eqIntS.f k t430 t421).bind fun t446 => (laws_FnExactSuspects.j0 k l0 l1 t421 t430 (!t446)))))) else (some false)))) else (some false)))) else (some false)))))) = some r := H
   have A8 := Aside0.mk A80
   clear A80
   replace H := Option.bind_eq_some_iff.mp H
   obtain ⟨t424, A90, H⟩ := H
   replace H : ((laws_toIntS.f k l1).bind fun t427 => ((impl_Suspects.f k t424 t427).bind fun t430 => ((laws_eqIntS.f k t430 t421).bind fun t433 => (if t433 = true then ((laws_toUseS.f k l0).bind fun t434 => ((laws_eqUseS.f k t424 t434).bind fun t437 => (if t437 = true then ((laws_toIntS.f k l1).bind fun t438 => ((laws_eqIntS.f k t427 t438).bind fun t441 => (if t441 = true then ((laws_markUseS.f k t424 1).bind fun bt442 => ((laws_markIntS.f k t427 bt442.1).bind fun bt444 => (if bt444.1 < 0 then (laws_FnExactSuspects.j0 k l0 l1 t421 t430 true) else ((laws_eqIntS.f k t430 t421).bind fun t446 => (laws_FnExactSuspects.j0 k l0 l1 t421 t430 (!t446)))))) else (some false)))) else (some false)))) else (some false))))) = some r := H
   have A9 := Aside0.mk A90
   clear A90
   replace H := Option.bind_eq_some_iff.mp H
   obtain ⟨t427, A100, H⟩ := H
   replace H : ((impl_Suspects.f k t424 t427).bind fun t430 => ((laws_eqIntS.f k t430 t421).bind fun t433 => (if t433 = true then ((laws_toUseS.f k l0).bind fun t434 => ((laws_eqUseS.f k t424 t434).bind fun t437 => (if t437 = true then ((laws_toIntS.f k l1).bind fun t438 => ((laws_eqIntS.f k t427 t438).bind fun t441 => (if t441 = true then ((laws_markUseS.f k t424 1).bind fun bt442 => ((laws_markIntS.f k t427 bt442.1).bind fun bt444 => (if bt444.1 < 0 then (laws_FnExactSuspects.j0 k l0 l1 t421 t430 true) else ((laws_eqIntS.f k t430 t421).bind fun t446 => (laws_FnExactSuspects.j0 k l0 l1 t421 t430 (!t446)))))) else (some false)))) else (some false)))) else (some false)))) = some r := H
   have A10 := Aside0.mk A100
   clear A100
   replace H := Option.bind_eq_some_iff.mp H
   obtain ⟨t430, A110, H⟩ := H
   replace H : ((laws_eqIntS.f k t430 t421).bind fun t433 => (if t433 = true then ((laws_toUseS.f k l0).bind fun t434 => ((laws_eqUseS.f k t424 t434).bind fun t437 => (if t437 = true then ((laws_toIntS.f k l1).bind fun t438 => ((laws_eqIntS.f k t427 t438).bind fun t441 => (if t441 = true then ((laws_markUseS.f k t424 1).bind fun bt442 => ((laws_markIntS.f k t427 bt442.1).bind fun bt444 => (if bt444.1 < 0 then (laws_FnExactSuspects.j0 k l0 l1 t421 t430 true) else ((laws_eqIntS.f k t430 t421).bind fun t446 => (laws_FnExactSuspects.j0 k l0 l1 t421 t430 (!t446)))))) else (some false)))) else (some false)))) else (some false))) = some r := H
   have A11 := Aside0.mk A110
   clear A110
   replace H := Option.bind_eq_some_iff.mp H
   obtain ⟨t433, A120, H⟩ := H
   replace H : (if t433 = true then ((laws_toUseS.f k l0).bind fun t434 => ((laws_eqUseS.f k t424 t434).bind fun t437 => (if t437 = true then ((laws_toIntS.f k l1).bind fun t438 => ((laws_eqIntS.f k t427 t438).bind fun t441 => (if t441 = true then ((laws_markUseS.f k t424 1).bind fun bt442 => ((laws_markIntS.f k t427 bt442.1).bind fun bt444 => (if bt444.1 < 0 then (laws_FnExactSuspects.j0 k l0 l1 t421 t430 true) else ((laws_eqIntS.f k t430 t421).bind fun t446 => (laws_FnExactSuspects.j0 k l0 l1 t421 t430 (!t446)))))) else (some false)))) else (some false)))) else (some false)) = some r := H
   have A12 := Aside0.mk A120
   clear A120
   by_cases c13 : t433 = true
   ·subst c13
    have H1 : ((laws_toUseS.f k l0).bind fun t434 => ((laws_eqUseS.f k t424 t434).bind fun t437 => (if t437 = true then ((laws_toIntS.f k l1).bind fun t438 => ((laws_eqIntS.f k t427 t438).bind fun t441 => (if t441 = true then ((laws_markUseS.f k t424 1).bind fun bt442 => ((laws_markIntS.f k t427 bt442.1).bind fun bt444 => (if bt444.1 < 0 then (laws_FnExactSuspects.j0 k l0 l1 t421 t430 true) else ((laws_eqIntS.f k t430 t421).bind fun t446 => (laws_FnExactSuspects.j0 k l0 l1 t421 t430 (!t446)))))) else (some false)))) else (some false)))) = some r := by rw [if_pos rfl] at H; exact H
    clear H
    have H := H1
    clear H1
    replace H := Option.bind_eq_some_iff.mp H
    obtain ⟨t434, A140, H⟩ := H
    replace H : ((laws_eqUseS.f k t424 t434).bind fun t437 => (if t437 = true then ((laws_toIntS.f k l1).bind fun t438 => ((laws_eqIntS.f k t427 t438).bind fun t441 => (if t441 = true then ((laws_markUseS.f k t424 1).bind fun bt442 => ((laws_markIntS.f k t427 bt442.1).bind fun bt444 => (if bt444.1 < 0 then (laws_FnExactSuspects.j0 k l0 l1 t421 t430 true) else ((laws_eqIntS.f k t430 t421).bind fun t446 => (laws_FnExactSuspects.j0 k l0 l1 t421 t430 (!t446)))))) else (some false)))) else (some false))) = some r := H
    have A14 := Aside0.mk A140
    clear A140
    replace H := Option.bind_eq_some_iff.mp H
    obtain ⟨t437, A150, H⟩ := H
    replace H : (if t437 = true then ((laws_toIntS.f k l1).bind fun t438 => ((laws_eqIntS.f k t427 t438).bind fun t441 => (if t441 = true then ((laws_markUseS.f k t424 1).bind fun bt442 => ((laws_markIntS.f k t427 bt442.1).bind fun bt444 => (if bt444.1 < 0 then (laws_FnExactSuspects.j0 k l0 l1 t421 t430 true) else ((laws_eqIntS.f k t430 t421).bind fun t446 => (laws_FnExactSuspects.j0 k l0 l1 t421 t430 (!t446)))))) else (some false)))) else (some false)) = some r := H
    have A15 := Aside0.mk A150
    clear A150
    by_cases c16 : t437 = true
    ·subst c16
     have H1 : ((laws_toIntS.f k l1).bind fun t438 => ((laws_eqIntS.f k t427 t438).bind fun t441 => (if t441 = true then ((laws_markUseS.f k t424 1).bind fun bt442 => ((laws_markIntS.f k t427 bt442.1).bind fun bt444 => (if bt444.1 < 0 then (laws_FnExactSuspects.j0 k l0 l1 t421 t430 true) else ((laws_eqIntS.f k t430 t421).bind fun t446 => (laws_FnExactSuspects.j0 k l0 l1 t421 t430 (!t446)))))) else (some false)))) = some r := by rw [if_pos rfl] at H; exact H
     clear H
     have H := H1
     clear H1
     replace H := Option.bind_eq_some_iff.mp H
     obtain ⟨t438, A170, H⟩ := H
     replace H : ((laws_eqIntS.f k t427 t438).bind fun t441 => (if t441 = true then ((laws_markUseS.f k t424 1).bind fun bt442 => ((laws_markIntS.f k t427 bt442.1).bind fun bt444 => (if bt444.1 < 0 then (laws_FnExactSuspects.j0 k l0 l1 t421 t430 true) else ((laws_eqIntS.f k t430 t421).bind fun t446 => (laws_FnExactSuspects.j0 k l0 l1 t421 t430 (!t446)))))) else (some false))) = some r := H
     have A17 := Aside0.mk A170
     clear A170
     replace H := Option.bind_eq_some_iff.mp H
     obtain ⟨t441, A180, H⟩ := H
     replace H : (if t441 = true then ((laws_markUseS.f k t424 1).bind fun bt442 => ((laws_markIntS.f k t427 bt442.1).bind fun bt444 => (if bt444.1 < 0 then (laws_FnExactSuspects.j0 k l0 l1 t421 t430 true) else ((laws_eqIntS.f k t430 t421).bind fun t446 => (laws_FnExactSuspects.j0 k l0 l1 t421 t430 (!t446)))))) else (some false)) = some r := H
     have A18 := Aside0.mk A180
     clear A180
     by_cases c19 : t441 = true
     ·subst c19
      have H1 : ((laws_markUseS.f k t424 1).bind fun bt442 => ((laws_markIntS.f k t427 bt442.1).bind fun bt444 => (if bt444.1 < 0 then (laws_FnExactSuspects.j0 k l0 l1 t421 t430 true) else ((laws_eqIntS.f k t430 t421).bind fun t446 => (laws_FnExactSuspects.j0 k l0 l1 t421 t430 (!t446)))))) = some r := by rw [if_pos rfl] at H; exact H
      clear H
      have H := H1
      clear H1
      replace H := Option.bind_eq_some_iff.mp H
      obtain ⟨⟨t442, t443⟩, A200, H⟩ := H
      replace H : ((laws_markIntS.f k t427 t442).bind fun bt444 => (if bt444.1 < 0 then (laws_FnExactSuspects.j0 k l0 l1 t421 t430 true) else ((laws_eqIntS.f k t430 t421).bind fun t446 => (laws_FnExactSuspects.j0 k l0 l1 t421 t430 (!t446))))) = some r := H
      have A20 := Aside0.mk A200
      clear A200
      replace H := Option.bind_eq_some_iff.mp H
      obtain ⟨⟨t444, t445⟩, A210, H⟩ := H
      replace H : (if t444 < 0 then (laws_FnExactSuspects.j0 k l0 l1 t421 t430 true) else ((laws_eqIntS.f k t430 t421).bind fun t446 => (laws_FnExactSuspects.j0 k l0 l1 t421 t430 (!t446)))) = some r := H
      have A21 := Aside0.mk A210
      clear A210
      have HC22 := Aside0.mk H
      clear H
      go_enter Try.func7, Try.ntmps7
      go_upto_region 20 with (first | ((with_reducible refine gate_callee (f := 9) rfl ?_); refine goesL_ (some 19) rfl rfl Try.func9 (by kernel_rfl) rfl #[.slice A0 l0.length c0, .int .i64 1048576] rfl (by (try simp only [List.map_toArray, List.map_cons, List.map_nil]); first | done | rfl | (simp only [List.length_drop, List.length_take]; rfl)) ?_; (with_reducible refine (laws_szUseS.calls _ _ l0 1048576 t414 _ ?side1 ?side2 A4.out).mono ?_); (case side1 => repeat (first | exact HR0.out | (with_reducible refine Kd.C_alloc ?_ _) | (with_reducible refine Kd.C_drewN ?_ _) | (with_reducible refine Kd.C_drew ?_))); (case side2 => exact HC0.out); rintro e w' ⟨rfl, ⟨nd, rfl⟩⟩; refine ⟨_, rfl, ?_⟩) | ((with_reducible refine gate_callee (f := 11) rfl ?_); refine goesL_ (some 23) rfl rfl Try.func11 (by kernel_rfl) rfl #[.slice A0 l0.length c0] rfl (by (try simp only [List.map_toArray, List.map_cons, List.map_nil]); first | done | rfl | (simp only [List.length_drop, List.length_take]; rfl)) ?_; (with_reducible refine (laws_toUseS.calls k _ _ l0 t415 _ ?side1 ?side2 A6.out).mono ?_); (case side1 => repeat (first | exact HR0.out | (with_reducible refine Kd.C_alloc ?_ _) | (with_reducible refine Kd.C_drewN ?_ _) | (with_reducible refine Kd.C_drew ?_))); (case side2 => exact HC0.out); rintro e w23 ⟨v416, rfl, ho0, hb⟩; refine ⟨_, rfl, ?_⟩; have n0_ := Aside0.mk (Kd.R_lower ho0 (below_size (by repeat (first | (with_reducible first | exact HB.out | apply below_alloc | apply pw_below_drewN | apply below_drew1) | exact HB.out)))); have n1_ := Aside0.mk (below_step (by repeat (first | (with_reducible first | exact HB.out | apply below_alloc | apply pw_below_drewN | apply below_drew1) | exact HB.out)) hb); clear HB; have HO417 := n0_; have HB := n1_; clear n0_ n1_; (try clear hb); (try clear hb2); (try clear hk); (try clear hi); (try clear ho0)) | ((with_reducible refine gate_callee (f := 31) rfl ?_); refine goesL_ (some 25) rfl rfl Try.func31 (by kernel_rfl) rfl #[.slice A1 l1.length c1] rfl (by (try simp only [List.map_toArray, List.map_cons, List.map_nil]); first | done | rfl | (simp only [List.length_drop, List.length_take]; rfl)) ?_; (with_reducible refine (laws_toIntS.calls k _ _ l1 t418 _ ?side1 ?side2 A7.out).mono ?_); (case side1 => repeat (first | exact (Kd.C_below HR1.out HB.out) | (with_reducible refine Kd.C_alloc ?_ _) | (with_reducible refine Kd.C_drewN ?_ _) | (with_reducible refine Kd.C_drew ?_))); (case side2 => exact HC1.out); rintro e w24 ⟨v419, rfl, ho0, hb⟩; refine ⟨_, rfl, ?_⟩; have n0_ := Aside0.mk (Kd.R_below (by (with_reducible repeat (first | apply Kd.R_alloc | apply Kd.R_drewN | apply Kd.R_drew)); exact HO417.out) hb); have n1_ := Aside0.mk (Kd.R_lower ho0 (below_size (by repeat (first | (with_reducible first | exact HB.out | apply below_alloc | apply pw_below_drewN | apply below_drew1) | exact HB.out)))); have n2_ := Aside0.mk (below_step (by repeat (first | (with_reducible first | exact HB.out | apply below_alloc | apply pw_below_drewN | apply below_drew1) | exact HB.out)) hb); clear HO417 HB; have HO417 := n0_; have HO420 := n1_; have HB := n2_; clear n0_ n1_ n2_; (try clear hb); (try clear hb2); (try clear hk); (try clear hi); (try clear ho0); obtain ⟨Ao25, co25, eo25⟩ := Kd.R_slice HO417.out; subst eo25; obtain ⟨Ao26, co26, eo26⟩ := Kd.R_slice HO420.out; subst eo26) | ((with_reducible refine gate_callee (f := 30) rfl ?_); refine goesL_ (some 26) rfl rfl Try.func30 (by kernel_rfl) rfl #[.slice Ao25 t415.length co25, .slice Ao26 t418.length co26] rfl (by (try simp only [List.map_toArray, List.map_cons, List.map_nil]); first | done | rfl | (simp only [List.length_drop, List.length_take]; rfl)) ?_; (with_reducible refine (spec_Suspects.calls k _ _ t415 _ _ t418 t421 _ ?side1 ?side2 ?side3 ?side4 A8.out).mono ?_); (case side1 => repeat (first | exact (Kd.R_reads' HO417.out).2.2 | (with_reducible refine Kd.C_alloc ?_ _) | (with_reducible refine Kd.C_drewN ?_ _) | (with_reducible refine Kd.C_drew ?_))); (case side2 => exact (Kd.R_reads' HO417.out).2.1); (case side3 => repeat (first | exact (Kd.R_reads' HO420.out).2.2 | (with_reducible refine Kd.C_alloc ?_ _) | (with_reducible refine Kd.C_drewN ?_ _) | (with_reducible refine Kd.C_drew ?_))); (case side4 => exact (Kd.R_reads' HO420.out).2.1); rintro e w27 ⟨v422, rfl, ho0, hb⟩; refine ⟨_, rfl, ?_⟩; have n0_ := Aside0.mk (Kd.R_below (by (with_reducible repeat (first | apply Kd.R_alloc | apply Kd.R_drewN | apply Kd.R_drew)); exact HO417.out) hb); have n1_ := Aside0.mk (Kd.R_elder' (by (with_reducible repeat (first | apply Kd.R_alloc | apply Kd.R_drewN | apply Kd.R_drew)); exact HO420.out) (Kd.R_base ho0) hb); have n2_ := Aside0.mk (Kd.R_lower (Kd.R_new' ho0 (Kd.R_lt (by (with_reducible repeat (first | apply Kd.R_alloc | apply Kd.R_drewN | apply Kd.R_drew)); exact HO420.out))) (below_size (by repeat (first | (with_reducible first | exact HB.out | apply below_alloc | apply pw_below_drewN | apply below_drew1) | exact HB.out)))); have n3_ := Aside0.mk (below_step (by repeat (first | (with_reducible first | exact HB.out | apply below_alloc | apply pw_below_drewN | apply below_drew1) | exact HB.out)) hb); clear HO417 HO420 HB; have HO417 := n0_; have HO420 := n1_; have HO423 := n2_; have HB := n3_; clear n0_ n1_ n2_ n3_; (try clear hb); (try clear hb2); (try clear hk); (try clear hi); (try clear ho0)) | ((with_reducible refine gate_callee (f := 11) rfl ?_); refine goesL_ (some 28) rfl rfl Try.func11 (by kernel_rfl) rfl #[.slice A0 l0.length c0] rfl (by (try simp only [List.map_toArray, List.map_cons, List.map_nil]); first | done | rfl | (simp only [List.length_drop, List.length_take]; rfl)) ?_; (with_reducible refine (laws_toUseS.calls k _ _ l0 t424 _ ?side1 ?side2 A9.out).mono ?_); (case side1 => repeat (first | exact (Kd.C_below HR0.out HB.out) | (with_reducible refine Kd.C_alloc ?_ _) | (with_reducible refine Kd.C_drewN ?_ _) | (with_reducible refine Kd.C_drew ?_))); (case side2 => exact HC0.out); rintro e w28 ⟨v425, rfl, ho0, hb⟩; refine ⟨_, rfl, ?_⟩; have n0_ := Aside0.mk (Kd.R_elder' (by (with_reducible repeat (first | apply Kd.R_alloc | apply Kd.R_drewN | apply Kd.R_drew)); exact HO417.out) (Kd.R_base ho0) hb); have n1_ := Aside0.mk (Kd.R_below (by (with_reducible repeat (first | apply Kd.R_alloc | apply Kd.R_drewN | apply Kd.R_drew)); exact HO420.out) hb); have n2_ := Aside0.mk (Kd.R_below (by (with_reducible repeat (first | apply Kd.R_alloc | apply Kd.R_drewN | apply Kd.R_drew)); exact HO423.out) hb); have n3_ := Aside0.mk (Kd.R_lower (Kd.R_new' ho0 (Kd.R_lt (by (with_reducible repeat (first | apply Kd.R_alloc | apply Kd.R_drewN | apply Kd.R_drew)); exact HO417.out))) (below_size (by repeat (first | (with_reducible first | exact HB.out | apply below_alloc | apply pw_below_drewN | apply below_drew1) | exact HB.out)))); have n4_ := Aside0.mk (below_step (by repeat (first | (with_reducible first | exact HB.out | apply below_alloc | apply pw_below_drewN | apply below_drew1) | exact HB.out)) hb); clear HO417 HO420 HO423 HB; have HO417 := n0_; have HO420 := n1_; have HO423 := n2_; have HO426 := n3_; have HB := n4_; clear n0_ n1_ n2_ n3_ n4_; (try clear hb); (try clear hb2); (try clear hk); (try clear hi); (try clear ho0)) | ((with_reducible refine gate_callee (f := 31) rfl ?_); refine goesL_ (some 30) rfl rfl Try.func31 (by kernel_rfl) rfl #[.slice A1 l1.length c1] rfl (by (try simp only [List.map_toArray, List.map_cons, List.map_nil]); first | done | rfl | (simp only [List.length_drop, List.length_take]; rfl)) ?_; (with_reducible refine (laws_toIntS.calls k _ _ l1 t427 _ ?side1 ?side2 A10.out).mono ?_); (case side1 => repeat (first | exact (Kd.C_below HR1.out HB.out) | (with_reducible refine Kd.C_alloc ?_ _) | (with_reducible refine Kd.C_drewN ?_ _) | (with_reducible refine Kd.C_drew ?_))); (case side2 => exact HC1.out); rintro e w29 ⟨v428, rfl, ho0, hb⟩; refine ⟨_, rfl, ?_⟩; have n0_ := Aside0.mk (Kd.R_below (by (with_reducible repeat (first | apply Kd.R_alloc | apply Kd.R_drewN | apply Kd.R_drew)); exact HO417.out) hb); have n1_ := Aside0.mk (Kd.R_elder' (by (with_reducible repeat (first | apply Kd.R_alloc | apply Kd.R_drewN | apply Kd.R_drew)); exact HO420.out) (Kd.R_base ho0) hb); have n2_ := Aside0.mk (Kd.R_elder' (by (with_reducible repeat (first | apply Kd.R_alloc | apply Kd.R_drewN | apply Kd.R_drew)); exact HO423.out) (Kd.R_base ho0) hb); have n3_ := Aside0.mk (Kd.R_below (by (with_reducible repeat (first | apply Kd.R_alloc | apply Kd.R_drewN | apply Kd.R_drew)); exact HO426.out) hb); have n4_ := Aside0.mk (Kd.R_lower (Kd.R_new' (Kd.R_new' ho0 (Kd.R_lt (by (with_reducible repeat (first | apply Kd.R_alloc | apply Kd.R_drewN | apply Kd.R_drew)); exact HO420.out))) (Kd.R_lt (by (with_reducible repeat (first | apply Kd.R_alloc | apply Kd.R_drewN | apply Kd.R_drew)); exact HO423.out))) (below_size (by repeat (first | (with_reducible first | exact HB.out | apply below_alloc | apply pw_below_drewN | apply below_drew1) | exact HB.out)))); have n5_ := Aside0.mk (below_step (by repeat (first | (with_reducible first | exact HB.out | apply below_alloc | apply pw_below_drewN | apply below_drew1) | exact HB.out)) hb); clear HO417 HO420 HO423 HO426 HB; have HO417 := n0_; have HO420 := n1_; have HO423 := n2_; have HO426 := n3_; have HO429 := n4_; have HB := n5_; clear n0_ n1_ n2_ n3_ n4_ n5_; (try clear hb); (try clear hb2); (try clear hk); (try clear hi); (try clear ho0); obtain ⟨Ao30, co30, eo30⟩ := Kd.R_slice HO426.out; subst eo30; obtain ⟨Ao31, co31, eo31⟩ := Kd.R_slice HO429.out; subst eo31) | ((with_reducible refine gate_callee (f := 27) rfl ?_); refine goesL_ (some 33) rfl rfl Try.func27 (by kernel_rfl) rfl #[.slice Ao30 t424.length co30, .slice Ao31 t427.length co31] rfl (by (try simp only [List.map_toArray, List.map_cons, List.map_nil]); first | done | rfl | (simp only [List.length_drop, List.length_take]; rfl)) ?_; (with_reducible refine (impl_Suspects.calls k _ _ t424 _ _ t427 t430 _ ?side1 ?side2 ?side3 ?side4 A11.out).mono ?_); (case side1 => repeat (first | exact (Kd.R_reads' HO426.out).2.2 | (with_reducible refine Kd.C_alloc ?_ _) | (with_reducible refine Kd.C_drewN ?_ _) | (with_reducible refine Kd.C_drew ?_))); (case side2 => exact (Kd.R_reads' HO426.out).2.1); (case side3 => repeat (first | exact (Kd.R_reads' HO429.out).2.2 | (with_reducible refine Kd.C_alloc ?_ _) | (with_reducible refine Kd.C_drewN ?_ _) | (with_reducible refine Kd.C_drew ?_))); (case side4 => exact (Kd.R_reads' HO429.out).2.1); rintro e w32 ⟨v431, rfl, ho0, hb⟩; refine ⟨_, rfl, ?_⟩; have n0_ := Aside0.mk (Kd.R_below (by (with_reducible repeat (first | apply Kd.R_alloc | apply Kd.R_drewN | apply Kd.R_drew)); exact HO417.out) hb); have n1_ := Aside0.mk (Kd.R_elder' (by (with_reducible repeat (first | apply Kd.R_alloc | apply Kd.R_drewN | apply Kd.R_drew)); exact HO420.out) (Kd.R_base ho0) hb); have n2_ := Aside0.mk (Kd.R_elder' (by (with_reducible repeat (first | apply Kd.R_alloc | apply Kd.R_drewN | apply Kd.R_drew)); exact HO423.out) (Kd.R_base ho0) hb); have n3_ := Aside0.mk (Kd.R_below (by (with_reducible repeat (first | apply Kd.R_alloc | apply Kd.R_drewN | apply Kd.R_drew)); exact HO426.out) hb); have n4_ := Aside0.mk (Kd.R_elder' (by (with_reducible repeat (first | apply Kd.R_alloc | apply Kd.R_drewN | apply Kd.R_drew)); exact HO429.out) (Kd.R_base ho0) hb); have n5_ := Aside0.mk (Kd.R_lower (Kd.R_new' (Kd.R_new' (Kd.R_new' ho0 (Kd.R_lt (by (with_reducible repeat (first | apply Kd.R_alloc | apply Kd.R_drewN | apply Kd.R_drew)); exact HO420.out))) (Kd.R_lt (by (with_reducible repeat (first | apply Kd.R_alloc | apply Kd.R_drewN | apply Kd.R_drew)); exact HO423.out))) (Kd.R_lt (by (with_reducible repeat (first | apply Kd.R_alloc | apply Kd.R_drewN | apply Kd.R_drew)); exact HO429.out))) (below_size (by repeat (first | (with_reducible first | exact HB.out | apply below_alloc | apply pw_below_drewN | apply below_drew1) | exact HB.out)))); have n6_ := Aside0.mk (below_step (by repeat (first | (with_reducible first | exact HB.out | apply below_alloc | apply pw_below_drewN | apply below_drew1) | exact HB.out)) hb); clear HO417 HO420 HO423 HO426 HO429 HB; have HO417 := n0_; have HO420 := n1_; have HO423 := n2_; have HO426 := n3_; have HO429 := n4_; have HO432 := n5_; have HB := n6_; clear n0_ n1_ n2_ n3_ n4_ n5_ n6_; (try clear hb); (try clear hb2); (try clear hk); (try clear hi); (try clear ho0); obtain ⟨Ao33, co33, eo33⟩ := Kd.R_slice HO432.out; subst eo33; obtain ⟨Ao34, co34, eo34⟩ := Kd.R_slice HO423.out; subst eo34) | ((with_reducible refine gate_callee (f := 16) rfl ?_); refine goesL_ (some 36) rfl rfl Try.func16 (by kernel_rfl) rfl #[.slice Ao33 t430.length co33, .slice Ao34 t421.length co34] rfl (by (try simp only [List.map_toArray, List.map_cons, List.map_nil]); first | done | rfl | (simp only [List.length_drop, List.length_take]; rfl)) ?_; (with_reducible refine (laws_eqIntS.calls k _ _ t430 _ _ t421 true _ ?side1 ?side2 ?side3 ?side4 A12.out).mono ?_); (case side1 => repeat (first | exact (Kd.R_reads' HO432.out).2.2 | (with_reducible refine Kd.C_alloc ?_ _) | (with_reducible refine Kd.C_drewN ?_ _) | (with_reducible refine Kd.C_drew ?_))); (case side2 => exact (Kd.R_reads' HO432.out).2.1); (case side3 => repeat (first | exact (Kd.R_reads' HO423.out).2.2 | (with_reducible refine Kd.C_alloc ?_ _) | (with_reducible refine Kd.C_drewN ?_ _) | (with_reducible refine Kd.C_drew ?_))); (case side4 => exact (Kd.R_reads' HO423.out).2.1); rintro e w' ⟨rfl, ⟨nd, rfl⟩⟩; refine ⟨_, rfl, ?_⟩) | ((with_reducible refine gate_callee (f := 11) rfl ?_); refine goesL_ (some 40) rfl rfl Try.func11 (by kernel_rfl) rfl #[.slice A0 l0.length c0] rfl (by (try simp only [List.map_toArray, List.map_cons, List.map_nil]); first | done | rfl | (simp only [List.length_drop, List.length_take]; rfl)) ?_; (with_reducible refine (laws_toUseS.calls k _ _ l0 t434 _ ?side1 ?side2 A14.out).mono ?_); (case side1 => repeat (first | exact (Kd.C_below HR0.out (by repeat (first | (with_reducible first | exact HB.out | apply below_alloc | apply pw_below_drewN | apply below_drew1) | exact HB.out))) | (with_reducible refine Kd.C_alloc ?_ _) | (with_reducible refine Kd.C_drewN ?_ _) | (with_reducible refine Kd.C_drew ?_))); (case side2 => exact HC0.out); rintro e w35 ⟨v435, rfl, ho0, hb⟩; refine ⟨_, rfl, ?_⟩; have n0_ := Aside0.mk (Kd.R_elder' (by (with_reducible repeat (first | apply Kd.R_alloc | apply Kd.R_drewN | apply Kd.R_drew)); exact HO417.out) (Kd.R_base ho0) hb); have n1_ := Aside0.mk (Kd.R_below (by (with_reducible repeat (first | apply Kd.R_alloc | apply Kd.R_drewN | apply Kd.R_drew)); exact HO420.out) hb); have n2_ := Aside0.mk (Kd.R_below (by (with_reducible repeat (first | apply Kd.R_alloc | apply Kd.R_drewN | apply Kd.R_drew)); exact HO423.out) hb); have n3_ := Aside0.mk (Kd.R_elder' (by (with_reducible repeat (first | apply Kd.R_alloc | apply Kd.R_drewN | apply Kd.R_drew)); exact HO426.out) (Kd.R_base ho0) hb); have n4_ := Aside0.mk (Kd.R_below (by (with_reducible repeat (first | apply Kd.R_alloc | apply Kd.R_drewN | apply Kd.R_drew)); exact HO429.out) hb); have n5_ := Aside0.mk (Kd.R_below (by (with_reducible repeat (first | apply Kd.R_alloc | apply Kd.R_drewN | apply Kd.R_drew)); exact HO432.out) hb); have n6_ := Aside0.mk (Kd.R_lower (Kd.R_new' (Kd.R_new' ho0 (Kd.R_lt (by (with_reducible repeat (first | apply Kd.R_alloc | apply Kd.R_drewN | apply Kd.R_drew)); exact HO417.out))) (Kd.R_lt (by (with_reducible repeat (first | apply Kd.R_alloc | apply Kd.R_drewN | apply Kd.R_drew)); exact HO426.out))) (below_size (by repeat (first | (with_reducible first | exact HB.out | apply below_alloc | apply pw_below_drewN | apply below_drew1) | exact HB.out)))); have n7_ := Aside0.mk (below_step (by repeat (first | (with_reducible first | exact HB.out | apply below_alloc | apply pw_below_drewN | apply below_drew1) | exact HB.out)) hb); clear HO417 HO420 HO423 HO426 HO429 HO432 HB; have HO417 := n0_; have HO420 := n1_; have HO423 := n2_; have HO426 := n3_; have HO429 := n4_; have HO432 := n5_; have HO436 := n6_; have HB := n7_; clear n0_ n1_ n2_ n3_ n4_ n5_ n6_ n7_; (try clear hb); (try clear hb2); (try clear hk); (try clear hi); (try clear ho0); obtain ⟨Ao36, co36, eo36⟩ := Kd.R_slice HO436.out; subst eo36) | ((with_reducible refine gate_callee (f := 13) rfl ?_); refine goesL_ (some 41) rfl rfl Try.func13 (by kernel_rfl) rfl #[.slice Ao30 t424.length co30, .slice Ao36 t434.length co36] rfl (by (try simp only [List.map_toArray, List.map_cons, List.map_nil]); first | done | rfl | (simp only [List.length_drop, List.length_take]; rfl)) ?_; (with_reducible refine (laws_eqUseS.calls k _ _ t424 _ _ t434 true _ ?side1 ?side2 ?side3 ?side4 A15.out).mono ?_); (case side1 => repeat (first | exact (Kd.R_reads' HO426.out).2.2 | (with_reducible refine Kd.C_alloc ?_ _) | (with_reducible refine Kd.C_drewN ?_ _) | (with_reducible refine Kd.C_drew ?_))); (case side2 => exact (Kd.R_reads' HO426.out).2.1); (case side3 => repeat (first | exact (Kd.R_reads' HO436.out).2.2 | (with_reducible refine Kd.C_alloc ?_ _) | (with_reducible refine Kd.C_drewN ?_ _) | (with_reducible refine Kd.C_drew ?_))); (case side4 => exact (Kd.R_reads' HO436.out).2.1); rintro e w37 ⟨rfl, hb⟩; refine ⟨_, rfl, ?_⟩; have n0_ := Aside0.mk (Kd.R_below (by (with_reducible repeat (first | apply Kd.R_alloc | apply Kd.R_drewN | apply Kd.R_drew)); exact HO417.out) hb); have n1_ := Aside0.mk (Kd.R_below (by (with_reducible repeat (first | apply Kd.R_alloc | apply Kd.R_drewN | apply Kd.R_drew)); exact HO420.out) hb); have n2_ := Aside0.mk (Kd.R_below (by (with_reducible repeat (first | apply Kd.R_alloc | apply Kd.R_drewN | apply Kd.R_drew)); exact HO423.out) hb); have n3_ := Aside0.mk (Kd.R_below (by (with_reducible repeat (first | apply Kd.R_alloc | apply Kd.R_drewN | apply Kd.R_drew)); exact HO426.out) hb); have n4_ := Aside0.mk (Kd.R_below (by (with_reducible repeat (first | apply Kd.R_alloc | apply Kd.R_drewN | apply Kd.R_drew)); exact HO429.out) hb); have n5_ := Aside0.mk (Kd.R_below (by (with_reducible repeat (first | apply Kd.R_alloc | apply Kd.R_drewN | apply Kd.R_drew)); exact HO432.out) hb); have n6_ := Aside0.mk (Kd.R_below (by (with_reducible repeat (first | apply Kd.R_alloc | apply Kd.R_drewN | apply Kd.R_drew)); exact HO436.out) hb); have n7_ := Aside0.mk (below_step (by repeat (first | (with_reducible first | exact HB.out | apply below_alloc | apply pw_below_drewN | apply below_drew1) | exact HB.out)) hb); clear HO417 HO420 HO423 HO426 HO429 HO432 HO436 HB; have HO417 := n0_; have HO420 := n1_; have HO423 := n2_; have HO426 := n3_; have HO429 := n4_; have HO432 := n5_; have HO436 := n6_; have HB := n7_; clear n0_ n1_ n2_ n3_ n4_ n5_ n6_ n7_; (try clear hb); (try clear hb2); (try clear hk); (try clear hi)) | ((with_reducible refine gate_callee (f := 31) rfl ?_); refine goesL_ (some 45) rfl rfl Try.func31 (by kernel_rfl) rfl #[.slice A1 l1.length c1] rfl (by (try simp only [List.map_toArray, List.map_cons, List.map_nil]); first | done | rfl | (simp only [List.length_drop, List.length_take]; rfl)) ?_; (with_reducible refine (laws_toIntS.calls k _ _ l1 t438 _ ?side1 ?side2 A17.out).mono ?_); (case side1 => repeat (first | exact (Kd.C_below HR1.out HB.out) | (with_reducible refine Kd.C_alloc ?_ _) | (with_reducible refine Kd.C_drewN ?_ _) | (with_reducible refine Kd.C_drew ?_))); (case side2 => exact HC1.out); rintro e w38 ⟨v439, rfl, ho0, hb⟩; refine ⟨_, rfl, ?_⟩; have n0_ := Aside0.mk (Kd.R_below (by (with_reducible repeat (first | apply Kd.R_alloc | apply Kd.R_drewN | apply Kd.R_drew)); exact HO417.out) hb); have n1_ := Aside0.mk (Kd.R_elder' (by (with_reducible repeat (first | apply Kd.R_alloc | apply Kd.R_drewN | apply Kd.R_drew)); exact HO420.out) (Kd.R_base ho0) hb); have n2_ := Aside0.mk (Kd.R_elder' (by (with_reducible repeat (first | apply Kd.R_alloc | apply Kd.R_drewN | apply Kd.R_drew)); exact HO423.out) (Kd.R_base ho0) hb); have n3_ := Aside0.mk (Kd.R_below (by (with_reducible repeat (first | apply Kd.R_alloc | apply Kd.R_drewN | apply Kd.R_drew)); exact HO426.out) hb); have n4_ := Aside0.mk (Kd.R_elder' (by (with_reducible repeat (first | apply Kd.R_alloc | apply Kd.R_drewN | apply Kd.R_drew)); exact HO429.out) (Kd.R_base ho0) hb); have n5_ := Aside0.mk (Kd.R_elder' (by (with_reducible repeat (first | apply Kd.R_alloc | apply Kd.R_drewN | apply Kd.R_drew)); exact HO432.out) (Kd.R_base ho0) hb); have n6_ := Aside0.mk (Kd.R_below (by (with_reducible repeat (first | apply Kd.R_alloc | apply Kd.R_drewN | apply Kd.R_drew)); exact HO436.out) hb); have n7_ := Aside0.mk (Kd.R_lower (Kd.R_new' (Kd.R_new' (Kd.R_new' (Kd.R_new' ho0 (Kd.R_lt (by (with_reducible repeat (first | apply Kd.R_alloc | apply Kd.R_drewN | apply Kd.R_drew)); exact HO420.out))) (Kd.R_lt (by (with_reducible repeat (first | apply Kd.R_alloc | apply Kd.R_drewN | apply Kd.R_drew)); exact HO423.out))) (Kd.R_lt (by (with_reducible repeat (first | apply Kd.R_alloc | apply Kd.R_drewN | apply Kd.R_drew)); exact HO429.out))) (Kd.R_lt (by (with_reducible repeat (first | apply Kd.R_alloc | apply Kd.R_drewN | apply Kd.R_drew)); exact HO432.out))) (below_size (by repeat (first | (with_reducible first | exact HB.out | apply below_alloc | apply pw_below_drewN | apply below_drew1) | exact HB.out)))); have n8_ := Aside0.mk (below_step (by repeat (first | (with_reducible first | exact HB.out | apply below_alloc | apply pw_below_drewN | apply below_drew1) | exact HB.out)) hb); clear HO417 HO420 HO423 HO426 HO429 HO432 HO436 HB; have HO417 := n0_; have HO420 := n1_; have HO423 := n2_; have HO426 := n3_; have HO429 := n4_; have HO432 := n5_; have HO436 := n6_; have HO440 := n7_; have HB := n8_; clear n0_ n1_ n2_ n3_ n4_ n5_ n6_ n7_ n8_; (try clear hb); (try clear hb2); (try clear hk); (try clear hi); (try clear ho0); obtain ⟨Ao39, co39, eo39⟩ := Kd.R_slice HO440.out; subst eo39) | ((with_reducible refine gate_callee (f := 16) rfl ?_); refine goesL_ (some 46) rfl rfl Try.func16 (by kernel_rfl) rfl #[.slice Ao31 t427.length co31, .slice Ao39 t438.length co39] rfl (by (try simp only [List.map_toArray, List.map_cons, List.map_nil]); first | done | rfl | (simp only [List.length_drop, List.length_take]; rfl)) ?_; (with_reducible refine (laws_eqIntS.calls k _ _ t427 _ _ t438 true _ ?side1 ?side2 ?side3 ?side4 A18.out).mono ?_); (case side1 => repeat (first | exact (Kd.R_reads' HO429.out).2.2 | (with_reducible refine Kd.C_alloc ?_ _) | (with_reducible refine Kd.C_drewN ?_ _) | (with_reducible refine Kd.C_drew ?_))); (case side2 => exact (Kd.R_reads' HO429.out).2.1); (case side3 => repeat (first | exact (Kd.R_reads' HO440.out).2.2 | (with_reducible refine Kd.C_alloc ?_ _) | (with_reducible refine Kd.C_drewN ?_ _) | (with_reducible refine Kd.C_drew ?_))); (case side4 => exact (Kd.R_reads' HO440.out).2.1); rintro e w' ⟨rfl, ⟨nd, rfl⟩⟩; refine ⟨_, rfl, ?_⟩) | ((with_reducible refine gate_callee (f := 17) rfl ?_); refine goesL_ (some 50) rfl rfl Try.func17 (by kernel_rfl) rfl #[.slice Ao30 t424.length co30, .int .i64 1] rfl (by (try simp only [List.map_toArray, List.map_cons, List.map_nil]); first | done | rfl | (simp only [List.length_drop, List.length_take]; rfl)) ?_; (with_reducible refine (laws_markUseS.calls k (fun k_ => some k_ = (.slice Ao30 t424.length co30 : Value).ownBlock) (.slice Ao30 t424.length co30) t424 1 t442 t443 w _ ?side1 ?side2 A20.out).mono ?_); (case side1 => repeat (first | (with_reducible first | exact HB.out | apply below_alloc | apply pw_below_drewN | apply below_drew1) | exact HB.out)); (case side2 => exact Kd.R_tight rfl HO426.out); rintro e w40 ⟨rfl, hy0, hb, hkp⟩; refine ⟨_, rfl, ?_⟩; have n0_ := Aside0.mk (Kd.R_mono (ok' := fun k_ => some k_ ≠ (.slice Ao30 t424.length co30 : Value).ownBlock ∧ some k_ ≠ (.slice Ao36 t434.length co36 : Value).ownBlock) (Kd.R_keptB (HO417.out) hkp (fun k_ hk_ hs_ => (hk_.1.2) hs_)) (fun k_ hk_ => ⟨hk_.1.1.2, hk_.1.2⟩)); have n1_ := Aside0.mk (Kd.R_mono (ok' := fun k_ => some k_ ≠ (.slice Ao34 t421.length co34 : Value).ownBlock ∧ some k_ ≠ (.slice Ao31 t427.length co31 : Value).ownBlock ∧ some k_ ≠ (.slice Ao33 t430.length co33 : Value).ownBlock ∧ some k_ ≠ (.slice Ao39 t438.length co39 : Value).ownBlock) (Kd.R_keptB ((Kd.R_apart' HO420.out (Kd.R_typed HO426.out) (by decide))) hkp (fun k_ hk_ hs_ => (hk_.2) hs_)) (fun k_ hk_ => ⟨hk_.1.1.1.1.1.2, hk_.1.1.1.1.2, hk_.1.1.1.2, hk_.1.1.2⟩)); have n2_ := Aside0.mk (Kd.R_mono (ok' := fun k_ => some k_ ≠ (.slice Ao26 t418.length co26 : Value).ownBlock ∧ some k_ ≠ (.slice Ao31 t427.length co31 : Value).ownBlock ∧ some k_ ≠ (.slice Ao33 t430.length co33 : Value).ownBlock ∧ some k_ ≠ (.slice Ao39 t438.length co39 : Value).ownBlock) (Kd.R_keptB ((Kd.R_apart' HO423.out (Kd.R_typed HO426.out) (by decide))) hkp (fun k_ hk_ hs_ => (hk_.2) hs_)) (fun k_ hk_ => ⟨hk_.1.1.1.1.1.2, hk_.1.1.1.1.2, hk_.1.1.1.2, hk_.1.1.2⟩)); have n3_ := Aside0.mk (Kd.R_reok rfl hy0 (fun k_ e_ => HO426.out.1 k_ e_)); have n4_ := Aside0.mk (Kd.R_mono (ok' := fun k_ => some k_ ≠ (.slice Ao26 t418.length co26 : Value).ownBlock ∧ some k_ ≠ (.slice Ao34 t421.length co34 : Value).ownBlock ∧ some k_ ≠ (.slice Ao33 t430.length co33 : Value).ownBlock ∧ some k_ ≠ (.slice Ao39 t438.length co39 : Value).ownBlock) (Kd.R_keptB ((Kd.R_apart' HO429.out (Kd.R_typed HO426.out) (by decide))) hkp (fun k_ hk_ hs_ => (hk_.2) hs_)) (fun k_ hk_ => ⟨hk_.1.1.1.1.1.2, hk_.1.1.1.1.2, hk_.1.1.1.2, hk_.1.1.2⟩)); have n5_ := Aside0.mk (Kd.R_mono (ok' := fun k_ => some k_ ≠ (.slice Ao26 t418.length co26 : Value).ownBlock ∧ some k_ ≠ (.slice Ao34 t421.length co34 : Value).ownBlock ∧ some k_ ≠ (.slice Ao31 t427.length co31 : Value).ownBlock ∧ some k_ ≠ (.slice Ao39 t438.length co39 : Value).ownBlock) (Kd.R_keptB ((Kd.R_apart' HO432.out (Kd.R_typed HO426.out) (by decide))) hkp (fun k_ hk_ hs_ => (hk_.2) hs_)) (fun k_ hk_ => ⟨hk_.1.1.1.1.1.2, hk_.1.1.1.1.2, hk_.1.1.1.2, hk_.1.1.2⟩)); have n6_ := Aside0.mk (Kd.R_mono (ok' := fun k_ => some k_ ≠ (.slice Ao25 t415.length co25 : Value).ownBlock ∧ some k_ ≠ (.slice Ao30 t424.length co30 : Value).ownBlock) (Kd.R_keptB (HO436.out) hkp (fun k_ hk_ hs_ => (hk_.2) hs_)) (fun k_ hk_ => ⟨hk_.1.1.2, hk_.1.2⟩)); have n7_ := Aside0.mk (Kd.R_mono (ok' := fun k_ => some k_ ≠ (.slice Ao26 t418.length co26 : Value).ownBlock ∧ some k_ ≠ (.slice Ao34 t421.length co34 : Value).ownBlock ∧ some k_ ≠ (.slice Ao31 t427.length co31 : Value).ownBlock ∧ some k_ ≠ (.slice Ao33 t430.length co33 : Value).ownBlock) (Kd.R_keptB ((Kd.R_apart' HO440.out (Kd.R_typed HO426.out) (by decide))) hkp (fun k_ hk_ hs_ => (hk_.2) hs_)) (fun k_ hk_ => ⟨hk_.1.1.1.1.1.2, hk_.1.1.1.1.2, hk_.1.1.1.2, hk_.1.1.2⟩)); have n8_ := Aside0.mk (hb); clear HO417 HO420 HO423 HO426 HO429 HO432 HO436 HO440 HB; have HO417 := n0_; have HO420 := n1_; have HO423 := n2_; have HO426 := n3_; have HO429 := n4_; have HO432 := n5_; have HO436 := n6_; have HO440 := n7_; have HB := n8_; clear n0_ n1_ n2_ n3_ n4_ n5_ n6_ n7_ n8_; (try clear hb); (try clear hkp); (try clear hy0)) | ((with_reducible refine gate_callee (f := 18) rfl ?_); refine goesL_ (some 53) rfl rfl Try.func18 (by kernel_rfl) rfl #[.slice Ao31 t427.length co31, .int .i64 t442] rfl (by (try simp only [List.map_toArray, List.map_cons, List.map_nil]); first | done | rfl | (simp only [List.length_drop, List.length_take]; rfl)) ?_; (with_reducible refine (laws_markIntS.calls k (fun k_ => some k_ = (.slice Ao31 t427.length co31 : Value).ownBlock) (.slice Ao31 t427.length co31) t427 t442 t444 t445 w _ ?side1 ?side2 A21.out).mono ?_); (case side1 => repeat (first | (with_reducible first | exact HB.out | apply below_alloc | apply pw_below_drewN | apply below_drew1) | exact HB.out)); (case side2 => exact Kd.R_tight rfl HO429.out); rintro e w41 ⟨rfl, hy0, hb, hkp⟩; refine ⟨_, rfl, ?_⟩; have n0_ := Aside0.mk (Kd.R_mono (ok' := fun k_ => some k_ ≠ (.slice Ao30 t424.length co30 : Value).ownBlock ∧ some k_ ≠ (.slice Ao36 t434.length co36 : Value).ownBlock) (Kd.R_keptB ((Kd.R_apart' HO417.out (Kd.R_typed HO429.out) (by decide))) hkp (fun k_ hk_ hs_ => (hk_.2) hs_)) (fun k_ hk_ => ⟨hk_.1.1.1, hk_.1.1.2⟩)); have n1_ := Aside0.mk (Kd.R_mono (ok' := fun k_ => some k_ ≠ (.slice Ao34 t421.length co34 : Value).ownBlock ∧ some k_ ≠ (.slice Ao31 t427.length co31 : Value).ownBlock ∧ some k_ ≠ (.slice Ao33 t430.length co33 : Value).ownBlock ∧ some k_ ≠ (.slice Ao39 t438.length co39 : Value).ownBlock) (Kd.R_keptB (HO420.out) hkp (fun k_ hk_ hs_ => (hk_.2.1) hs_)) (fun k_ hk_ => ⟨hk_.1.1, hk_.1.2.1, hk_.1.2.2.1, hk_.1.2.2.2⟩)); have n2_ := Aside0.mk (Kd.R_mono (ok' := fun k_ => some k_ ≠ (.slice Ao26 t418.length co26 : Value).ownBlock ∧ some k_ ≠ (.slice Ao31 t427.length co31 : Value).ownBlock ∧ some k_ ≠ (.slice Ao33 t430.length co33 : Value).ownBlock ∧ some k_ ≠ (.slice Ao39 t438.length co39 : Value).ownBlock) (Kd.R_keptB (HO423.out) hkp (fun k_ hk_ hs_ => (hk_.2.1) hs_)) (fun k_ hk_ => ⟨hk_.1.1, hk_.1.2.1, hk_.1.2.2.1, hk_.1.2.2.2⟩)); have n3_ := Aside0.mk (Kd.R_mono (ok' := fun k_ => some k_ ≠ (.slice Ao25 t415.length co25 : Value).ownBlock ∧ some k_ ≠ (.slice Ao36 t434.length co36 : Value).ownBlock) (Kd.R_keptB ((Kd.R_apart' HO426.out (Kd.R_typed HO429.out) (by decide))) hkp (fun k_ hk_ hs_ => (hk_.2) hs_)) (fun k_ hk_ => ⟨hk_.1.1.1.2, hk_.1.1.2⟩)); have n4_ := Aside0.mk (Kd.R_reok rfl hy0 (fun k_ e_ => HO429.out.1 k_ e_)); have n5_ := Aside0.mk (Kd.R_mono (ok' := fun k_ => some k_ ≠ (.slice Ao26 t418.length co26 : Value).ownBlock ∧ some k_ ≠ (.slice Ao34 t421.length co34 : Value).ownBlock ∧ some k_ ≠ (.slice Ao31 t427.length co31 : Value).ownBlock ∧ some k_ ≠ (.slice Ao39 t438.length co39 : Value).ownBlock) (Kd.R_keptB (HO432.out) hkp (fun k_ hk_ hs_ => (hk_.2.2.1) hs_)) (fun k_ hk_ => ⟨hk_.1.1, hk_.1.2.1, hk_.1.2.2.1, hk_.1.2.2.2⟩)); have n6_ := Aside0.mk (Kd.R_mono (ok' := fun k_ => some k_ ≠ (.slice Ao25 t415.length co25 : Value).ownBlock ∧ some k_ ≠ (.slice Ao30 t424.length co30 : Value).ownBlock) (Kd.R_keptB ((Kd.R_apart' HO436.out (Kd.R_typed HO429.out) (by decide))) hkp (fun k_ hk_ hs_ => (hk_.2) hs_)) (fun k_ hk_ => ⟨hk_.1.1.1, hk_.1.1.2⟩)); have n7_ := Aside0.mk (Kd.R_mono (ok' := fun k_ => some k_ ≠ (.slice Ao26 t418.length co26 : Value).ownBlock ∧ some k_ ≠ (.slice Ao34 t421.length co34 : Value).ownBlock ∧ some k_ ≠ (.slice Ao31 t427.length co31 : Value).ownBlock ∧ some k_ ≠ (.slice Ao33 t430.length co33 : Value).ownBlock) (Kd.R_keptB (HO440.out) hkp (fun k_ hk_ hs_ => (hk_.2.2.1) hs_)) (fun k_ hk_ => ⟨hk_.1.1, hk_.1.2.1, hk_.1.2.2.1, hk_.1.2.2.2⟩)); have n8_ := Aside0.mk (hb); clear HO417 HO420 HO423 HO426 HO429 HO432 HO436 HO440 HB; have HO417 := n0_; have HO420 := n1_; have HO423 := n2_; have HO426 := n3_; have HO429 := n4_; have HO432 := n5_; have HO436 := n6_; have HO440 := n7_; have HB := n8_; clear n0_ n1_ n2_ n3_ n4_ n5_ n6_ n7_ n8_; (try clear hb); (try clear hkp); (try clear hy0)))
      (try simp only [Act.put, List.setIfInBounds_toArray, List.set_cons_zero, List.set_cons_succ])
      go_cut [61] (fun v61 wc => ∃ (kq : Nat) (x61_21 : Bool), v61 = .bool x61_21 ∧ Aside0 (laws_FnExactSuspects.j0 kq l0 l1 t421 t430 x61_21 = some r) ∧ Aside0 (kq ≤ k) ∧ Aside0 (Kd.R (Kd.int .i64) 3 wc w.heap.size (fun k_ => some k_ ≠ ((.slice Ao33 t430.length co33) : Value).ownBlock) (.slice Ao34 t421.length co34) t421) ∧ Aside0 (Kd.R (Kd.int .i64) 3 wc w.heap.size (fun k_ => some k_ ≠ ((.slice Ao34 t421.length co34) : Value).ownBlock) (.slice Ao33 t430.length co33) t430) ∧ Aside0 (Below w.heap.size w wc))
      case first =>
       have H := HC22.out
       clear HC22
       by_cases c42 : t444 < 0
       ·rw [if_pos c42] at H
        have c42b0 : decide (t444 < 0) = true := decide_eq_true c42
        clear c42
        (first | rw [c42b0] | (simp only [i64_w, i32_w]; rw [c42b0]) | skip)
        exact (laws_FnExactSuspects.j0_no HRT.out H).elim
       ·rw [if_neg c42] at H
        have c42b0 : decide (t444 < 0) = false := decide_eq_false c42
        clear c42
        (first | rw [c42b0] | (simp only [i64_w, i32_w]; rw [c42b0]) | skip)
        replace H := Option.bind_eq_some_iff.mp H
        obtain ⟨t446, A430, H⟩ := H
        replace H : (laws_FnExactSuspects.j0 k l0 l1 t421 t430 (!t446)) = some r := H
        have A43 := Aside0.mk A430
        clear A430
        have H' := Aside0.mk H
        clear H
        go_wp2_with (first | (go_at_call 16; (with_reducible refine (laws_eqIntS.calls k _ _ t430 _ _ t421 t446 _ ?side1 ?side2 ?side3 ?side4 A43.out).mono ?_); (case side1 => repeat (first | exact (Kd.R_reads' HO432.out).2.2 | (with_reducible refine Kd.C_alloc ?_ _) | (with_reducible refine Kd.C_drewN ?_ _) | (with_reducible refine Kd.C_drew ?_))); (case side2 => exact (Kd.R_reads' HO432.out).2.1); (case side3 => repeat (first | exact (Kd.R_reads' HO423.out).2.2 | (with_reducible refine Kd.C_alloc ?_ _) | (with_reducible refine Kd.C_drewN ?_ _) | (with_reducible refine Kd.C_drew ?_))); (case side4 => exact (Kd.R_reads' HO423.out).2.1); rintro e w' ⟨rfl, ⟨nd, rfl⟩⟩))
        go_meet
        case rel => exact ⟨_, (!t446), (by first | rfl | (simp; done) | (simp [*]; done)), H', ⟨by first | omega | exact Nat.le_refl _⟩, ⟨by (with_reducible repeat (first | apply Kd.R_alloc | apply Kd.R_drewN | apply Kd.R_drew)); exact Kd.R_mono HO423.out (fun _ hk => hk.2.2.1)⟩, ⟨by (with_reducible repeat (first | apply Kd.R_alloc | apply Kd.R_drewN | apply Kd.R_drew)); exact Kd.R_mono HO432.out (fun _ hk => hk.2.1)⟩, ⟨by repeat (first | (with_reducible first | exact HB.out | apply below_alloc | apply pw_below_drewN | apply below_drew1) | exact HB.out)⟩⟩
      case rest =>
       clear HC22
       try clear c1
       try clear c2
       try clear p2
       try clear c3
       try clear c3b0
       try clear c3b1
       try clear c4
       try clear c5
       try clear c5b0
       try clear c7
       try clear c9
       try clear c11
       try clear c13
       try clear c16
       try clear c17
       try clear c18
       try clear c19
       try clear c27
       try clear c30
       try clear c31
       try clear c42
       try clear c42b0
       obtain ⟨kq, x61_21, rfl, HA, HJ21, HO_6, HO_9, HB⟩ := hcut
       cases kq with
       | zero => exact absurd HA.out (by simp [laws_FnExactSuspects.j0])
       | succ kj21 =>
        have H := HA.out
        clear HA
        simp only [laws_FnExactSuspects.j0] at H
        by_cases c44 : x61_21 = true
        ·subst c44
         have H1 : (some false) = some r := by rw [if_pos rfl] at H; exact H
         clear H
         have H := H1
         clear H1
         exact absurd (H.trans (congrArg some HRT.out)) (by simp)
        ·replace c44 := Bool.eq_false_iff.mpr c44
         subst c44
         have H1 : ((laws_markIntS.f kj21 t430 1).bind fun bt447 => ((laws_heldIntS.f kj21 bt447.2 1).bind fun t449 => (if t449 < 0 then (some false) else (if t449 = bt447.1 then ((laws_toUseS.f kj21 l0).bind fun t450 => ((laws_toIntS.f kj21 l1).bind fun t453 => ((impl_Suspects.f kj21 t450 t453).bind fun t456 => ((laws_eqIntS.f kj21 t456 t421).bind fun t459 => (if t459 = true then ((laws_heldIntS.f kj21 bt447.2 1).bind fun t460 => (if t460 < 0 then (some false) else (if t460 = bt447.1 then (some true) else (some false)))) else (some false)))))) else (some false))))) = some r := by rw [if_neg (show ¬ (false = true) by decide)] at H; exact H
         clear H
         have H := H1
         clear H1
         replace H := Option.bind_eq_some_iff.mp H
         obtain ⟨⟨t447, t448⟩, A450, H⟩ := H
         replace H : ((laws_heldIntS.f kj21 t448 1).bind fun t449 => (if t449 < 0 then (some false) else (if t449 = t447 then ((laws_toUseS.f kj21 l0).bind fun t450 => ((laws_toIntS.f kj21 l1).bind fun t453 => ((impl_Suspects.f kj21 t450 t453).bind fun t456 => ((laws_eqIntS.f kj21 t456 t421).bind fun t459 => (if t459 = true then ((laws_heldIntS.f kj21 t448 1).bind fun t460 => (if t460 < 0 then (some false) else (if t460 = t447 then (some true) else (some false)))) else (some false)))))) else (some false)))) = some r := H
         have A45 := Aside0.mk A450
         clear A450
         replace H := Option.bind_eq_some_iff.mp H
         obtain ⟨t449, A460, H⟩ := H
         replace H : (if t449 < 0 then (some false) else (if t449 = t447 then ((laws_toUseS.f kj21 l0).bind fun t450 => ((laws_toIntS.f kj21 l1).bind fun t453 => ((impl_Suspects.f kj21 t450 t453).bind fun t456 => ((laws_eqIntS.f kj21 t456 t421).bind fun t459 => (if t459 = true then ((laws_heldIntS.f kj21 t448 1).bind fun t460 => (if t460 < 0 then (some false) else (if t460 = t447 then (some true) else (some false)))) else (some false)))))) else (some false))) = some r := H
         have A46 := Aside0.mk A460
         clear A460
         by_cases c47 : t449 < 0
         ·rw [if_pos c47] at H
          have c47b0 : decide (t449 < 0) = true := decide_eq_true c47
          clear c47
          exact absurd (H.trans (congrArg some HRT.out)) (by simp)
         ·rw [if_neg c47] at H
          have c47b0 : decide (t449 < 0) = false := decide_eq_false c47
          clear c47
          by_cases c48 : t449 = t447
          ·rw [if_pos c48] at H
           have c48b0 : (t449 == t447) = true := beq_iff_eq.mpr c48
           have c48b1 : (t449 != t447) = false := bne_eq_false_iff_eq.mpr c48
           clear c48
           replace H := Option.bind_eq_some_iff.mp H
           obtain ⟨t450, A490, H⟩ := H
           replace H : ((laws_toIntS.f kj21 l1).bind fun t453 => ((impl_Suspects.f kj21 t450 t453).bind fun t456 => ((laws_eqIntS.f kj21 t456 t421).bind fun t459 => (if t459 = true then ((laws_heldIntS.f kj21 t448 1).bind fun t460 => (if t460 < 0 then (some false) else (if t460 = t447 then (some true) else (some false)))) else (some false))))) = some r := H
           have A49 := Aside0.mk A490
           clear A490
           replace H := Option.bind_eq_some_iff.mp H
           obtain ⟨t453, A500, H⟩ := H
           replace H : ((impl_Suspects.f kj21 t450 t453).bind fun t456 => ((laws_eqIntS.f kj21 t456 t421).bind fun t459 => (if t459 = true then ((laws_heldIntS.f kj21 t448 1).bind fun t460 => (if t460 < 0 then (some false) else (if t460 = t447 then (some true) else (some false)))) else (some false)))) = some r := H
           have A50 := Aside0.mk A500
           clear A500
           replace H := Option.bind_eq_some_iff.mp H
           obtain ⟨t456, A510, H⟩ := H
           replace H : ((laws_eqIntS.f kj21 t456 t421).bind fun t459 => (if t459 = true then ((laws_heldIntS.f kj21 t448 1).bind fun t460 => (if t460 < 0 then (some false) else (if t460 = t447 then (some true) else (some false)))) else (some false))) = some r := H
           have A51 := Aside0.mk A510
           clear A510
           replace H := Option.bind_eq_some_iff.mp H
           obtain ⟨t459, A520, H⟩ := H
           replace H : (if t459 = true then ((laws_heldIntS.f kj21 t448 1).bind fun t460 => (if t460 < 0 then (some false) else (if t460 = t447 then (some true) else (some false)))) else (some false)) = some r := H
           have A52 := Aside0.mk A520
           clear A520
           by_cases c53 : t459 = true
           ·subst c53
            have H1 : ((laws_heldIntS.f kj21 t448 1).bind fun t460 => (if t460 < 0 then (some false) else (if t460 = t447 then (some true) else (some false)))) = some r := by rw [if_pos rfl] at H; exact H
            clear H
            have H := H1
            clear H1
            replace H := Option.bind_eq_some_iff.mp H
            obtain ⟨t460, A540, H⟩ := H
            replace H : (if t460 < 0 then (some false) else (if t460 = t447 then (some true) else (some false))) = some r := H
            have A54 := Aside0.mk A540
            clear A540
            by_cases c55 : t460 < 0
            ·rw [if_pos c55] at H
             have c55b0 : decide (t460 < 0) = true := decide_eq_true c55
             clear c55
             exact absurd (H.trans (congrArg some HRT.out)) (by simp)
            ·rw [if_neg c55] at H
             have c55b0 : decide (t460 < 0) = false := decide_eq_false c55
             clear c55
             by_cases c56 : t460 = t447
             ·rw [if_pos c56] at H
              have c56b0 : (t460 == t447) = true := beq_iff_eq.mpr c56
              have c56b1 : (t460 != t447) = false := bne_eq_false_iff_eq.mpr c56
              clear c56
              obtain rfl := Option.some.inj H
              go_wp2_with (first | ((with_reducible refine gate_callee (f := 18) rfl ?_); refine goesL_ (some 64) rfl rfl Try.func18 (by kernel_rfl) rfl #[.slice Ao33 t430.length co33, .int .i64 1] rfl (by (try simp only [List.map_toArray, List.map_cons, List.map_nil]); first | done | rfl | (simp only [List.length_drop, List.length_take]; rfl)) ?_; (with_reducible refine (laws_markIntS.calls kj21 (fun k_ => some k_ = (.slice Ao33 t430.length co33 : Value).ownBlock) (.slice Ao33 t430.length co33) t430 1 t447 t448 w _ ?side1 ?side2 A45.out).mono ?_); (case side1 => repeat (first | (with_reducible first | exact HB.out | apply below_alloc | apply pw_below_drewN | apply below_drew1) | exact HB.out)); (case side2 => exact Kd.R_tight rfl HO_9.out); rintro e w57 ⟨rfl, hy0, hb, hkp⟩; refine ⟨_, rfl, ?_⟩; have n0_ := Aside0.mk (Kd.R_mono (ok' := fun k_ => some k_ ≠ (.slice Ao33 t430.length co33 : Value).ownBlock) (Kd.R_keptB (HO_6.out) hkp (fun k_ hk_ hs_ => (hk_) hs_)) (fun k_ hk_ => hk_.1)); have n1_ := Aside0.mk (Kd.R_reok rfl hy0 (fun k_ e_ => HO_9.out.1 k_ e_)); have n2_ := Aside0.mk (hb); clear HO_6 HO_9 HB; have HO_6 := n0_; have HO_9 := n1_; have HB := n2_; clear n0_ n1_ n2_; (try clear hb); (try clear hkp); (try clear hy0)) | ((with_reducible refine gate_callee (f := 19) rfl ?_); refine goesL_ (some 67) rfl rfl Try.func19 (by kernel_rfl) rfl #[.slice Ao33 t448.length co33, .int .i64 1] rfl (by (try simp only [List.map_toArray, List.map_cons, List.map_nil]); first | done | (rw [show t448.length = t430.length from (Kd.R_reads' HO_9.out).1.symm] <;> rfl) | rfl | (simp only [List.length_drop, List.length_take]; rfl)) ?_; (with_reducible refine (laws_heldIntS.calls kj21 _ _ t448 1 t449 _ ?side1 ?side2 A46.out).mono ?_); (case side1 => repeat (first | exact (Kd.R_reads' HO_9.out).2.2 | (with_reducible refine Kd.C_alloc ?_ _) | (with_reducible refine Kd.C_drewN ?_ _) | (with_reducible refine Kd.C_drew ?_))); (case side2 => rw [show t448.length = t430.length from (Kd.R_reads' HO_9.out).1.symm]; exact (Kd.R_reads' HO_9.out).2.1); rintro e w' ⟨rfl, ⟨nd, rfl⟩⟩; refine ⟨_, rfl, ?_⟩) | ((with_reducible refine gate_callee (f := 11) rfl ?_); refine goesL_ (some 74) rfl rfl Try.func11 (by kernel_rfl) rfl #[.slice A0 l0.length c0] rfl (by (try simp only [List.map_toArray, List.map_cons, List.map_nil]); first | done | rfl | (simp only [List.length_drop, List.length_take]; rfl)) ?_; (with_reducible refine (laws_toUseS.calls kj21 _ _ l0 t450 _ ?side1 ?side2 A49.out).mono ?_); (case side1 => repeat (first | exact (Kd.C_below HR0.out (by repeat (first | (with_reducible first | exact HB.out | apply below_alloc | apply pw_below_drewN | apply below_drew1) | exact HB.out))) | (with_reducible refine Kd.C_alloc ?_ _) | (with_reducible refine Kd.C_drewN ?_ _) | (with_reducible refine Kd.C_drew ?_))); (case side2 => exact HC0.out); rintro e w58 ⟨v451, rfl, ho0, hb⟩; refine ⟨_, rfl, ?_⟩; have n0_ := Aside0.mk (Kd.R_below (by (with_reducible repeat (first | apply Kd.R_alloc | apply Kd.R_drewN | apply Kd.R_drew)); exact HO_6.out) hb); have n1_ := Aside0.mk (Kd.R_below (by (with_reducible repeat (first | apply Kd.R_alloc | apply Kd.R_drewN | apply Kd.R_drew)); exact HO_9.out) hb); have n2_ := Aside0.mk (Kd.R_lower ho0 (below_size (by repeat (first | (with_reducible first | exact HB.out | apply below_alloc | apply pw_below_drewN | apply below_drew1) | exact HB.out)))); have n3_ := Aside0.mk (below_step (by repeat (first | (with_reducible first | exact HB.out | apply below_alloc | apply pw_below_drewN | apply below_drew1) | exact HB.out)) hb); clear HO_6 HO_9 HB; have HO_6 := n0_; have HO_9 := n1_; have HO452 := n2_; have HB := n3_; clear n0_ n1_ n2_ n3_; (try clear hb); (try clear hb2); (try clear hk); (try clear hi); (try clear ho0)) | ((with_reducible refine gate_callee (f := 31) rfl ?_); refine goesL_ (some 76) rfl rfl Try.func31 (by kernel_rfl) rfl #[.slice A1 l1.length c1] rfl (by (try simp only [List.map_toArray, List.map_cons, List.map_nil]); first | done | rfl | (simp only [List.length_drop, List.length_take]; rfl)) ?_; (with_reducible refine (laws_toIntS.calls kj21 _ _ l1 t453 _ ?side1 ?side2 A50.out).mono ?_); (case side1 => repeat (first | exact (Kd.C_below HR1.out HB.out) | (with_reducible refine Kd.C_alloc ?_ _) | (with_reducible refine Kd.C_drewN ?_ _) | (with_reducible refine Kd.C_drew ?_))); (case side2 => exact HC1.out); rintro e w59 ⟨v454, rfl, ho0, hb⟩; refine ⟨_, rfl, ?_⟩; have n0_ := Aside0.mk (Kd.R_elder' (by (with_reducible repeat (first | apply Kd.R_alloc | apply Kd.R_drewN | apply Kd.R_drew)); exact HO_6.out) (Kd.R_base ho0) hb); have n1_ := Aside0.mk (Kd.R_elder' (by (with_reducible repeat (first | apply Kd.R_alloc | apply Kd.R_drewN | apply Kd.R_drew)); exact HO_9.out) (Kd.R_base ho0) hb); have n2_ := Aside0.mk (Kd.R_below (by (with_reducible repeat (first | apply Kd.R_alloc | apply Kd.R_drewN | apply Kd.R_drew)); exact HO452.out) hb); have n3_ := Aside0.mk (Kd.R_lower (Kd.R_new' (Kd.R_new' ho0 (Kd.R_lt (by (with_reducible repeat (first | apply Kd.R_alloc | apply Kd.R_drewN | apply Kd.R_drew)); exact HO_6.out))) (Kd.R_lt (by (with_reducible repeat (first | apply Kd.R_alloc | apply Kd.R_drewN | apply Kd.R_drew)); exact HO_9.out))) (below_size (by repeat (first | (with_reducible first | exact HB.out | apply below_alloc | apply pw_below_drewN | apply below_drew1) | exact HB.out)))); have n4_ := Aside0.mk (below_step (by repeat (first | (with_reducible first | exact HB.out | apply below_alloc | apply pw_below_drewN | apply below_drew1) | exact HB.out)) hb); clear HO_6 HO_9 HO452 HB; have HO_6 := n0_; have HO_9 := n1_; have HO452 := n2_; have HO455 := n3_; have HB := n4_; clear n0_ n1_ n2_ n3_ n4_; (try clear hb); (try clear hb2); (try clear hk); (try clear hi); (try clear ho0); obtain ⟨Ao60, co60, eo60⟩ := Kd.R_slice HO452.out; subst eo60; obtain ⟨Ao61, co61, eo61⟩ := Kd.R_slice HO455.out; subst eo61) | ((with_reducible refine gate_callee (f := 27) rfl ?_); refine goesL_ (some 77) rfl rfl Try.func27 (by kernel_rfl) rfl #[.slice Ao60 t450.length co60, .slice Ao61 t453.length co61] rfl (by (try simp only [List.map_toArray, List.map_cons, List.map_nil]); first | done | rfl | (simp only [List.length_drop, List.length_take]; rfl)) ?_; (with_reducible refine (impl_Suspects.calls kj21 _ _ t450 _ _ t453 t456 _ ?side1 ?side2 ?side3 ?side4 A51.out).mono ?_); (case side1 => repeat (first | exact (Kd.R_reads' HO452.out).2.2 | (with_reducible refine Kd.C_alloc ?_ _) | (with_reducible refine Kd.C_drewN ?_ _) | (with_reducible refine Kd.C_drew ?_))); (case side2 => exact (Kd.R_reads' HO452.out).2.1); (case side3 => repeat (first | exact (Kd.R_reads' HO455.out).2.2 | (with_reducible refine Kd.C_alloc ?_ _) | (with_reducible refine Kd.C_drewN ?_ _) | (with_reducible refine Kd.C_drew ?_))); (case side4 => exact (Kd.R_reads' HO455.out).2.1); rintro e w62 ⟨v457, rfl, ho0, hb⟩; refine ⟨_, rfl, ?_⟩; have n0_ := Aside0.mk (Kd.R_elder' (by (with_reducible repeat (first | apply Kd.R_alloc | apply Kd.R_drewN | apply Kd.R_drew)); exact HO_6.out) (Kd.R_base ho0) hb); have n1_ := Aside0.mk (Kd.R_elder' (by (with_reducible repeat (first | apply Kd.R_alloc | apply Kd.R_drewN | apply Kd.R_drew)); exact HO_9.out) (Kd.R_base ho0) hb); have n2_ := Aside0.mk (Kd.R_below (by (with_reducible repeat (first | apply Kd.R_alloc | apply Kd.R_drewN | apply Kd.R_drew)); exact HO452.out) hb); have n3_ := Aside0.mk (Kd.R_elder' (by (with_reducible repeat (first | apply Kd.R_alloc | apply Kd.R_drewN | apply Kd.R_drew)); exact HO455.out) (Kd.R_base ho0) hb); have n4_ := Aside0.mk (Kd.R_lower (Kd.R_new' (Kd.R_new' (Kd.R_new' ho0 (Kd.R_lt (by (with_reducible repeat (first | apply Kd.R_alloc | apply Kd.R_drewN | apply Kd.R_drew)); exact HO_6.out))) (Kd.R_lt (by (with_reducible repeat (first | apply Kd.R_alloc | apply Kd.R_drewN | apply Kd.R_drew)); exact HO_9.out))) (Kd.R_lt (by (with_reducible repeat (first | apply Kd.R_alloc | apply Kd.R_drewN | apply Kd.R_drew)); exact HO455.out))) (below_size (by repeat (first | (with_reducible first | exact HB.out | apply below_alloc | apply pw_below_drewN | apply below_drew1) | exact HB.out)))); have n5_ := Aside0.mk (below_step (by repeat (first | (with_reducible first | exact HB.out | apply below_alloc | apply pw_below_drewN | apply below_drew1) | exact HB.out)) hb); clear HO_6 HO_9 HO452 HO455 HB; have HO_6 := n0_; have HO_9 := n1_; have HO452 := n2_; have HO455 := n3_; have HO458 := n4_; have HB := n5_; clear n0_ n1_ n2_ n3_ n4_ n5_; (try clear hb); (try clear hb2); (try clear hk); (try clear hi); (try clear ho0); obtain ⟨Ao63, co63, eo63⟩ := Kd.R_slice HO458.out; subst eo63) | ((with_reducible refine gate_callee (f := 16) rfl ?_); refine goesL_ (some 80) rfl rfl Try.func16 (by kernel_rfl) rfl #[.slice Ao63 t456.length co63, .slice Ao34 t421.length co34] rfl (by (try simp only [List.map_toArray, List.map_cons, List.map_nil]); first | done | rfl | (simp only [List.length_drop, List.length_take]; rfl)) ?_; (with_reducible refine (laws_eqIntS.calls kj21 _ _ t456 _ _ t421 true _ ?side1 ?side2 ?side3 ?side4 A52.out).mono ?_); (case side1 => repeat (first | exact (Kd.R_reads' HO458.out).2.2 | (with_reducible refine Kd.C_alloc ?_ _) | (with_reducible refine Kd.C_drewN ?_ _) | (with_reducible refine Kd.C_drew ?_))); (case side2 => exact (Kd.R_reads' HO458.out).2.1); (case side3 => repeat (first | exact (Kd.R_reads' HO_6.out).2.2 | (with_reducible refine Kd.C_alloc ?_ _) | (with_reducible refine Kd.C_drewN ?_ _) | (with_reducible refine Kd.C_drew ?_))); (case side4 => exact (Kd.R_reads' HO_6.out).2.1); rintro e w' ⟨rfl, ⟨nd, rfl⟩⟩; refine ⟨_, rfl, ?_⟩) | ((with_reducible refine gate_callee (f := 19) rfl ?_); refine goesL_ (some 84) rfl rfl Try.func19 (by kernel_rfl) rfl #[.slice Ao33 t448.length co33, .int .i64 1] rfl (by (try simp only [List.map_toArray, List.map_cons, List.map_nil]); first | done | (rw [show t448.length = t430.length from (Kd.R_reads' HO_9.out).1.symm] <;> rfl) | rfl | (simp only [List.length_drop, List.length_take]; rfl)) ?_; (with_reducible refine (laws_heldIntS.calls kj21 _ _ t448 1 t460 _ ?side1 ?side2 A54.out).mono ?_); (case side1 => repeat (first | exact (Kd.R_reads' HO_9.out).2.2 | (with_reducible refine Kd.C_alloc ?_ _) | (with_reducible refine Kd.C_drewN ?_ _) | (with_reducible refine Kd.C_drew ?_))); (case side2 => rw [show t448.length = t430.length from (Kd.R_reads' HO_9.out).1.symm]; exact (Kd.R_reads' HO_9.out).2.1); rintro e w' ⟨rfl, ⟨nd, rfl⟩⟩; refine ⟨_, rfl, ?_⟩))
              go_ret
              exact ⟨by first | rfl | (simp [errW_none, errW_some] <;> rfl) | (simp [*, errW_none, errW_some] <;> rfl), by repeat (first | (with_reducible first | exact HB.out | apply below_alloc | apply pw_below_drewN | apply below_drew1) | exact HB.out)⟩
             ·rw [if_neg c56] at H
              have c56b0 : (t460 == t447) = false := beq_eq_false_iff_ne.mpr c56
              have c56b1 : (t460 != t447) = true := bne_iff_ne.mpr c56
              exact absurd (H.trans (congrArg some HRT.out)) (by simp)
           ·replace c53 := Bool.eq_false_iff.mpr c53
            subst c53
            have H1 : (some false) = some r := by rw [if_neg (show ¬ (false = true) by decide)] at H; exact H
            clear H
            have H := H1
            clear H1
            exact absurd (H.trans (congrArg some HRT.out)) (by simp)
          ·rw [if_neg c48] at H
           have c48b0 : (t449 == t447) = false := beq_eq_false_iff_ne.mpr c48
           have c48b1 : (t449 != t447) = true := bne_iff_ne.mpr c48
           exact absurd (H.trans (congrArg some HRT.out)) (by simp)
     ·replace c19 := Bool.eq_false_iff.mpr c19
      subst c19
      have H1 : (some false) = some r := by rw [if_neg (show ¬ (false = true) by decide)] at H; exact H
      clear H
      have H := H1
      clear H1
      exact absurd (H.trans (congrArg some HRT.out)) (by simp)
    ·replace c16 := Bool.eq_false_iff.mpr c16
     subst c16
     have H1 : (some false) = some r := by rw [if_neg (show ¬ (false = true) by decide)] at H; exact H
     clear H
     have H := H1
     clear H1
     exact absurd (H.trans (congrArg some HRT.out)) (by simp)
   ·replace c13 := Bool.eq_false_iff.mpr c13
    subst c13
    have H1 : (some false) = some r := by rw [if_neg (show ¬ (false = true) by decide)] at H; exact H
    clear H
    have H := H1
    clear H1
    exact absurd (H.trans (congrArg some HRT.out)) (by simp)
/-- THE ONE PURE STATEMENT of laws_FnExactSuspects. -/
def laws_FnExactSuspects.Pure : Prop := ∀ (l0 : List (S45)) (l1 : List Int), l0.length ≤ maxLen → l0.length * 24 ≤ 140737488351232 → (∀ x ∈ l0, wfS45 x) → l1.length ≤ maxLen → l1.length * 8 ≤ 140737488351232 → (∀ x ∈ l1, (Lit.int .i64 x).wf = true) → ∃ k, laws_FnExactSuspects.f k l0 l1 = some true
theorem laws_FnExactSuspects.walk (P : laws_FnExactSuspects.Pure) (A0 : Option Addr) (c0 : Nat) (l0 : List (S45)) (A1 : Option Addr) (c1 : Nat) (l1 : List Int) (w : World) (hr0 : Kd.C k45 w A0 l0.length l0) (hc0 : l0.length ≤ c0) (y0 : l0.length ≤ maxLen) (y1 : l0.length * 24 ≤ 140737488351232) (y2 : (∀ x ∈ l0, wfS45 x)) (hr1 : Kd.C (Kd.int .i64) w A1 l1.length l1) (hc1 : l1.length ≤ c1) (y3 : l1.length ≤ maxLen) (y4 : l1.length * 8 ≤ 140737488351232) (y5 : (∀ x ∈ l1, (Lit.int .i64 x).wf = true)) :
  Calls Try.prog 7 #[.slice A0 l0.length c0, .slice A1 l1.length c1] w fun e w' => e = .returned (.bool true) ∧ Below w.heap.size w w' := by
 obtain ⟨k, h⟩ := P l0 l1 y0 y1 y2 y3 y4 y5
 refine (laws_FnExactSuspects.calls k A0 c0 l0 A1 c1 l1 true w hr0 hc0 hr1 hc1 rfl h).mono ?_
 rintro e w' ⟨rfl, hd⟩
 exact ⟨rfl, hd⟩

end Go.Proofs.Ythdgbngnddkkiaa.PHX
