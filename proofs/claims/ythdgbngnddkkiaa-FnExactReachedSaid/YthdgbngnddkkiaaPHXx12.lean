-- Written by a program of this session (wip/hprint.py, over the kit's print).
import Derived.Test.YthdgbngnddkkiaaPHXx0
import Derived.Test.YthdgbngnddkkiaaPHXx1
import Derived.Test.YthdgbngnddkkiaaPHXx2
import Derived.Test.YthdgbngnddkkiaaPHXx3
import Derived.Test.YthdgbngnddkkiaaPHXx6
import Derived.Test.YthdgbngnddkkiaaPHXx11
namespace Go.Proofs.Ythdgbngnddkkiaa.PHX
open Go.RowKit Go.Proofs.YthdgbngnddkkiaaW.PrintWords Go.Proofs.YthdgbngnddkkiaaW.PrintLast Go.Proofs.YthdgbngnddkkiaaW.PrintMore
attribute [local go_sem] max2_int min2_int max_two min_two max_three min_three max_four min_four   -- for this text's walks alone
set_option linter.unusedVariables false
set_option linter.unusedSimpArgs false

/-! ### laws_FnExactReached: function 8 -/
def laws_FnExactReached.j0 : Nat → List (S45) → Int → List Int → List Int → Bool → Option (Bool)
 | 0, _, _, _, _, _ => none
 | k + 1, x0, x1, x6, x8, x46 => if x46 = true then (some false) else ((laws_markIntS.f k x8 1).bind fun bt508 => ((laws_heldIntS.f k bt508.2 1).bind fun t510 => (if t510 < 0 then (some false) else (if t510 = bt508.1 then ((laws_toUseS.f k x0).bind fun t511 => ((impl_Reached.f k t511 x1).bind fun t514 => ((laws_eqIntS.f k t514 x6).bind fun t517 => (if t517 = true then ((laws_heldIntS.f k bt508.2 1).bind fun t518 => (if t518 < 0 then (some false) else (if t518 = bt508.1 then (some true) else (some false)))) else (some false))))) else (some false)))))
def laws_FnExactReached.f (k : Nat) (l0 : List (S45)) (a1 : Int) : Option (Bool) := (laws_szUseS.f l0 1048576).bind fun t487 => (if t487 < 0 then (some true) else ((laws_toUseS.f k l0).bind fun t488 => ((spec_Reached.f k t488 a1).bind fun t491 => ((laws_toUseS.f k l0).bind fun t494 => ((impl_Reached.f k t494 a1).bind fun t497 => ((laws_eqIntS.f k t497 t491).bind fun t500 => (if t500 = true then ((laws_toUseS.f k l0).bind fun t501 => ((laws_eqUseS.f k t494 t501).bind fun t504 => (if t504 = true then ((laws_markUseS.f k t494 1).bind fun bt505 => (if bt505.1 < 0 then (laws_FnExactReached.j0 k l0 a1 t491 t497 true) else ((laws_eqIntS.f k t497 t491).bind fun t507 => (laws_FnExactReached.j0 k l0 a1 t491 t497 (!t507))))) else (some false)))) else (some false))))))))
theorem laws_FnExactReached.mono_l : ∀ k, (∀ y0 y1 y2 y3 y4, LeO (laws_FnExactReached.j0 k y0 y1 y2 y3 y4) (laws_FnExactReached.j0 (k + 1) y0 y1 y2 y3 y4))
 | 0 => fun _ _ _ _ _ r h => by simp [laws_FnExactReached.j0] at h
 | k + 1 => by
  have ih0 := laws_FnExactReached.mono_l k
  ·intro y0 y1 y2 y3 y4
   unfold laws_FnExactReached.j0
   repeat' first
   | (with_reducible exact ih0 _ _ _ _ _)
   | (with_reducible exact impl_Reached.mono _ _ _)
   | (with_reducible exact laws_eqIntS.mono _ _ _)
   | (with_reducible exact laws_eqUseS.mono _ _ _)
   | (with_reducible exact laws_heldIntS.mono _ _ _)
   | (with_reducible exact laws_markIntS.mono _ _ _)
   | (with_reducible exact laws_markUseS.mono _ _ _)
   | (with_reducible exact laws_toUseS.mono _ _)
   | (with_reducible exact spec_Reached.mono _ _ _)
   | (with_reducible exact LeO.refl _)
   | (with_reducible exact LeO.none _)
   | (with_reducible refine LeO.ite ?_ ?_)
   | (with_reducible refine LeO.bind ?_ (fun _ => ?_))
   | exact ih0 _ _ _ _ _
   | exact impl_Reached.mono _ _ _
   | exact laws_eqIntS.mono _ _ _
   | exact laws_eqUseS.mono _ _ _
   | exact laws_heldIntS.mono _ _ _
   | exact laws_markIntS.mono _ _ _
   | exact laws_markUseS.mono _ _ _
   | exact laws_toUseS.mono _ _
   | exact spec_Reached.mono _ _ _
   | exact LeO.none _
   | refine LeO.ite ?_ ?_
   | refine LeO.bind ?_ (fun _ => ?_)
theorem laws_FnExactReached.mono : ∀ a0 a1 k, LeO (laws_FnExactReached.f k a0 a1) (laws_FnExactReached.f (k + 1) a0 a1) := by
 intro a0 a1 k
 have ih0 := laws_FnExactReached.mono_l k
 unfold laws_FnExactReached.f
 repeat' first
   | (with_reducible exact ih0 _ _ _ _ _)
   | (with_reducible exact impl_Reached.mono _ _ _)
   | (with_reducible exact laws_eqIntS.mono _ _ _)
   | (with_reducible exact laws_eqUseS.mono _ _ _)
   | (with_reducible exact laws_heldIntS.mono _ _ _)
   | (with_reducible exact laws_markIntS.mono _ _ _)
   | (with_reducible exact laws_markUseS.mono _ _ _)
   | (with_reducible exact laws_toUseS.mono _ _)
   | (with_reducible exact spec_Reached.mono _ _ _)
   | (with_reducible exact LeO.refl _)
   | (with_reducible exact LeO.none _)
   | (with_reducible refine LeO.ite ?_ ?_)
   | (with_reducible refine LeO.bind ?_ (fun _ => ?_))
   | exact ih0 _ _ _ _ _
   | exact impl_Reached.mono _ _ _
   | exact laws_eqIntS.mono _ _ _
   | exact laws_eqUseS.mono _ _ _
   | exact laws_heldIntS.mono _ _ _
   | exact laws_markIntS.mono _ _ _
   | exact laws_markUseS.mono _ _ _
   | exact laws_toUseS.mono _ _
   | exact spec_Reached.mono _ _ _
   | exact LeO.none _
   | refine LeO.ite ?_ ?_
   | refine LeO.bind ?_ (fun _ => ?_)
theorem laws_FnExactReached.j0_no {k : Nat} {x0 : List (S45)} {x1 : Int} {x6 : List Int} {x8 : List Int} {r : Bool} (hr : r = true) (h : laws_FnExactReached.j0 k x0 x1 x6 x8 true = some r) : False := by
 subst hr
 cases k <;> simp [laws_FnExactReached.j0] at h
set_option maxHeartbeats 8000000 in
set_option maxRecDepth 100000 in
theorem laws_FnExactReached.calls (k : Nat) (A0 : Option Addr) (c0 : Nat) (l0 : List (S45)) (a1 : Int) (r : Bool) (w : World) (hr0 : Kd.C k45 w A0 l0.length l0) (hc0 : l0.length ≤ c0) (hrt_ : r = true) (h : laws_FnExactReached.f k l0 a1 = some r) :
  Calls Try.prog 8 #[.slice A0 l0.length c0, .int .i64 a1] w fun e w' => e = .returned (.bool r) ∧ Below w.heap.size w w' := by
 have HRT := Aside0.mk hrt_
 clear hrt_
 have HR0 := Aside0.mk hr0
 have HC0 := Aside0.mk hc0
 clear hr0 hc0
 have HB := Aside0.mk (Below.refl w.heap.size w)
 have H : ((laws_szUseS.f l0 1048576).bind fun t487 => (if t487 < 0 then (some true) else ((laws_toUseS.f k l0).bind fun t488 => ((spec_Reached.f k t488 a1).bind fun t491 => ((laws_toUseS.f k l0).bind fun t494 => ((impl_Reached.f k t494 a1).bind fun t497 => ((laws_eqIntS.f k t497 t491).bind fun t500 => (if t500 = true then ((laws_toUseS.f k l0).bind fun t501 => ((laws_eqUseS.f k t494 t501).bind fun t504 => (if t504 = true then ((laws_markUseS.f k t494 1).bind fun bt505 => (if bt505.1 < 0 then (laws_FnExactReached.j0 k l0 a1 t491 t497 true) else ((laws_eqIntS.f k t497 t491).bind fun t507 => (laws_FnExactReached.j0 k l0 a1 t491 t497 (!t507))))) else (some false)))) else (some false))))))))) = some r := h
 clear h
 replace H := Option.bind_eq_some_iff.mp H
 obtain ⟨t487, A30, H⟩ := H
 replace H : (if t487 < 0 then (some true) else ((laws_toUseS.f k l0).bind fun t488 => ((spec_Reached.f k t488 a1).bind fun t491 => ((laws_toUseS.f k l0).bind fun t494 => ((impl_Reached.f k t494 a1).bind fun t497 => ((laws_eqIntS.f k t497 t491).bind fun t500 => (if t500 = true then ((laws_toUseS.f k l0).bind fun t501 => ((laws_eqUseS.f k t494 t501).bind fun t504 => (if t504 = true then ((laws_markUseS.f k t494 1).bind fun bt505 => (if bt505.1 < 0 then (laws_FnExactReached.j0 k l0 a1 t491 t497 true) else ((laws_eqIntS.f k t497 t491).bind fun t507 => (laws_FnExactReached.j0 k l0 a1 t491 t497 (!t507))))) else (some false)))) else (some false)))))))) = some r := H
 have A3 := Aside0.mk A30
 clear A30
 by_cases c4 : t487 < 0
 ·rw [if_pos c4] at H
  have c4b0 : decide (t487 < 0) = true := decide_eq_true c4
  clear c4
  obtain rfl := Option.some.inj H
  go_enter Try.func8, Try.ntmps8
  go_wp2_with (first | ((with_reducible refine gate_callee (f := 9) rfl ?_); refine goesL_ (some 15) rfl rfl Try.func9 (by kernel_rfl) rfl #[.slice A0 l0.length c0, .int .i64 1048576] rfl (by (try simp only [List.map_toArray, List.map_cons, List.map_nil]); first | done | rfl | (simp only [List.length_drop, List.length_take]; rfl)) ?_; (with_reducible refine (laws_szUseS.calls _ _ l0 1048576 t487 _ ?side1 ?side2 A3.out).mono ?_); (case side1 => repeat (first | exact HR0.out | (with_reducible refine Kd.C_alloc ?_ _) | (with_reducible refine Kd.C_drewN ?_ _) | (with_reducible refine Kd.C_drew ?_))); (case side2 => exact HC0.out); rintro e w' ⟨rfl, ⟨nd, rfl⟩⟩; refine ⟨_, rfl, ?_⟩))
  go_ret
  exact ⟨by first | rfl | (simp [errW_none, errW_some] <;> rfl) | (simp [*, errW_none, errW_some] <;> rfl), by repeat (first | (with_reducible first | exact HB.out | apply below_alloc | apply pw_below_drewN | apply below_drew1) | exact HB.out)⟩
 ·rw [if_neg c4] at H
  have c4b0 : decide (t487 < 0) = false := decide_eq_false c4
  clear c4
  replace H := Option.bind_eq_some_iff.mp H
  obtain ⟨t488, A50, H⟩ := H
  replace H : ((spec_Reached.f k t488 a1).bind fun t491 => ((laws_toUseS.f k l0).bind fun t494 => ((impl_Reached.f k t494 a1).bind fun t497 => ((laws_eqIntS.f k t497 t491).bind fun t500 => (if t500 = true then ((laws_toUseS.f k l0).bind fun t501 => ((laws_eqUseS.f k t494 t501).bind fun t504 => (if t504 = true then ((laws_markUseS.f k t494 1).bind fun bt505 => (if bt505.1 < 0 then (laws_FnExactReached.j0 k l0 a1 t491 t497 true) else ((laws_eqIntS.f k t497 t491).bind fun t507 => (laws_FnExactReached.j0 k l0 a1 t491 t497 (!t507))))) else (some false)))) else (some false)))))) = some r := H
  have A5 := Aside0.mk A50
  clear A50
  replace H := Option.bind_eq_some_iff.mp H
  obtain ⟨t491, A60, H⟩ := H
  replace H : ((laws_toUseS.f k l0).bind fun t494 => ((impl_Reached.f k t494 a1).bind fun t497 => ((laws_eqIntS.f k t497 t491).bind fun t500 => (if t500 = true then ((laws_toUseS.f k l0).bind fun t501 => ((laws_eqUseS.f k t494 t501).bind fun t504 => (if t504 = true then ((laws_markUseS.f k t494 1).bind fun bt505 => (if bt505.1 < 0 then (laws_FnExactReached.j0 k l0 a1 t491 t497 true) else ((laws_eqIntS.f k t497 t491).bind fun t507 => (laws_FnExactReached.j0 k l0 a1 t491 t497 (!t507))))) else (some false)))) else (some false))))) = some r := H
  have A6 := Aside0.mk A60
  clear A60
  replace H := Option.bind_eq_some_iff.mp H
  obtain ⟨t494, A70, H⟩ := H
  replace H : ((impl_Reached.f k t494 a1).bind fun t497 => ((laws_eqIntS.f k t497 t491).bind fun t500 => (if t500 = true then ((laws_toUseS.f k l0).bind fun t501 => ((laws_eqUseS.f k t494 t501).bind fun t504 => (if t504 = true then ((laws_markUseS.f k t494 1).bind fun bt505 => (if bt505.1 < 0 then (laws_FnExactReached.j0 k l0 a1 t491 t497 true) else ((laws_eqIntS.f k t497 t491).bind fun t507 => (laws_FnExactReached.j0 k l0 a1 t491 t497 (!t507))))) else (some false)))) else (some false)))) = some r := H
  have A7 := Aside0.mk A70
  clear A70
  replace H := Option.bind_eq_some_iff.mp H
  obtain ⟨t497, A80, H⟩ := H
  replace H : ((laws_eqIntS.f k t497 t491).bind fun t500 => (if t500 = true then ((laws_toUseS.f k l0).bind fun t501 => ((laws_eqUseS.f k t494 t501).bind fun t504 => (if t504 = true then ((laws_markUseS.f k t494 1).bind fun bt505 => (if bt505.1 < 0 then (laws_FnExactReached.j0 k l0 a1 t491 t497 true) else ((laws_eqIntS.f k t497 t491).bind fun t507 => (laws_FnExactReached.j0 k l0 a1 t491 t497 (!t507))))) else (some false)))) else (some false))) = some r := H
  have A8 := Aside0.mk A80
  clear A80
  replace H := Option.bind_eq_some_iff.mp H
  obtain ⟨t500, A90, H⟩ := H
  replace H : (if t500 = true then ((laws_toUseS.f k l0).bind fun t501 => ((laws_eqUseS.f k t494 t501).bind fun t504 => (if t504 = true then ((laws_markUseS.f k t494 1).bind fun bt505 => (if bt505.1 < 0 then (laws_FnExactReached.j0 k l0 a1 t491 t497 true) else ((laws_eqIntS.f k t497 t491).bind fun t507 => (laws_FnExactReached.j0 k l0 a1 t491 t497 (!t507))))) else (some false)))) else (some false)) = some r := H
  have A9 := Aside0.mk A90
  clear A90
  by_cases c10 : t500 = true
  ·subst c10
   have H1 : ((laws_toUseS.f k l0).bind fun t501 => ((laws_eqUseS.f k t494 t501).bind fun t504 => (if t504 = true then ((laws_markUseS.f k t494 1).bind fun bt505 => (if bt505.1 < 0 then (laws_FnExactReached.j0 k l0 a1 t491 t497 true) else ((laws_eqIntS.f k t497 t491).bind fun t507 => (laws_FnExactReached.j0 k l0 a1 t491 t497 (!t507))))) else (some false)))) = some r := by rw [if_pos rfl] at H; exact H
   clear H
   have H := H1
   clear H1
   replace H := Option.bind_eq_some_iff.mp H
   obtain ⟨t501, A110, H⟩ := H
   replace H : ((laws_eqUseS.f k t494 t501).bind fun t504 => (if t504 = true then ((laws_markUseS.f k t494 1).bind fun bt505 => (if bt505.1 < 0 then (laws_FnExactReached.j0 k l0 a1 t491 t497 true) else ((laws_eqIntS.f k t497 t491).bind fun t507 => (laws_FnExactReached.j0 k l0 a1 t491 t497 (!t507))))) else (some false))) = some r := H
   have A11 := Aside0.mk A110
   clear A110
   replace H := Option.bind_eq_some_iff.mp H
   obtain ⟨t504, A120, H⟩ := H
   replace H : (if t504 = true then ((laws_markUseS.f k t494 1).bind fun bt505 => (if bt505.1 < 0 then (laws_FnExactReached.j0 k l0 a1 t491 t497 true) else ((laws_eqIntS.f k t497 t491).bind fun t507 => (laws_FnExactReached.j0 k l0 a1 t491 t497 (!t507))))) else (some false)) = some r := H
   have A12 := Aside0.mk A120
   clear A120
   by_cases c13 : t504 = true
   ·subst c13
    have H1 : ((laws_markUseS.f k t494 1).bind fun bt505 => (if bt505.1 < 0 then (laws_FnExactReached.j0 k l0 a1 t491 t497 true) else ((laws_eqIntS.f k t497 t491).bind fun t507 => (laws_FnExactReached.j0 k l0 a1 t491 t497 (!t507))))) = some r := by rw [if_pos rfl] at H; exact H
    clear H
    have H := H1
    clear H1
    replace H := Option.bind_eq_some_iff.mp H
    obtain ⟨⟨t505, t506⟩, A140, H⟩ := H
    replace H : (if t505 < 0 then (laws_FnExactReached.j0 k l0 a1 t491 t497 true) else ((laws_eqIntS.f k t497 t491).bind fun t507 => (laws_FnExactReached.j0 k l0 a1 t491 t497 (!t507)))) = some r := H
    have A14 := Aside0.mk A140
    clear A140
    have HC15 := Aside0.mk H
    clear H
    go_enter Try.func8, Try.ntmps8
    go_upto_region 14 with (first | ((with_reducible refine gate_callee (f := 9) rfl ?_); refine goesL_ (some 15) rfl rfl Try.func9 (by kernel_rfl) rfl #[.slice A0 l0.length c0, .int .i64 1048576] rfl (by (try simp only [List.map_toArray, List.map_cons, List.map_nil]); first | done | rfl | (simp only [List.length_drop, List.length_take]; rfl)) ?_; (with_reducible refine (laws_szUseS.calls _ _ l0 1048576 t487 _ ?side1 ?side2 A3.out).mono ?_); (case side1 => repeat (first | exact HR0.out | (with_reducible refine Kd.C_alloc ?_ _) | (with_reducible refine Kd.C_drewN ?_ _) | (with_reducible refine Kd.C_drew ?_))); (case side2 => exact HC0.out); rintro e w' ⟨rfl, ⟨nd, rfl⟩⟩; refine ⟨_, rfl, ?_⟩) | ((with_reducible refine gate_callee (f := 11) rfl ?_); refine goesL_ (some 19) rfl rfl Try.func11 (by kernel_rfl) rfl #[.slice A0 l0.length c0] rfl (by (try simp only [List.map_toArray, List.map_cons, List.map_nil]); first | done | rfl | (simp only [List.length_drop, List.length_take]; rfl)) ?_; (with_reducible refine (laws_toUseS.calls k _ _ l0 t488 _ ?side1 ?side2 A5.out).mono ?_); (case side1 => repeat (first | exact HR0.out | (with_reducible refine Kd.C_alloc ?_ _) | (with_reducible refine Kd.C_drewN ?_ _) | (with_reducible refine Kd.C_drew ?_))); (case side2 => exact HC0.out); rintro e w16 ⟨v489, rfl, ho0, hb⟩; refine ⟨_, rfl, ?_⟩; have n0_ := Aside0.mk (Kd.R_lower ho0 (below_size (by repeat (first | (with_reducible first | exact HB.out | apply below_alloc | apply pw_below_drewN | apply below_drew1) | exact HB.out)))); have n1_ := Aside0.mk (below_step (by repeat (first | (with_reducible first | exact HB.out | apply below_alloc | apply pw_below_drewN | apply below_drew1) | exact HB.out)) hb); clear HB; have HO490 := n0_; have HB := n1_; clear n0_ n1_; (try clear hb); (try clear hb2); (try clear hk); (try clear hi); (try clear ho0); obtain ⟨Ao17, co17, eo17⟩ := Kd.R_slice HO490.out; subst eo17) | ((with_reducible refine gate_callee (f := 32) rfl ?_); refine goesL_ (some 21) rfl rfl Try.func32 (by kernel_rfl) rfl #[.slice Ao17 t488.length co17, .int .i64 a1] rfl (by (try simp only [List.map_toArray, List.map_cons, List.map_nil]); first | done | rfl | (simp only [List.length_drop, List.length_take]; rfl)) ?_; (with_reducible refine (spec_Reached.calls k _ _ t488 a1 t491 _ ?side1 ?side2 A6.out).mono ?_); (case side1 => repeat (first | exact (Kd.R_reads' HO490.out).2.2 | (with_reducible refine Kd.C_alloc ?_ _) | (with_reducible refine Kd.C_drewN ?_ _) | (with_reducible refine Kd.C_drew ?_))); (case side2 => exact (Kd.R_reads' HO490.out).2.1); rintro e w18 ⟨v492, rfl, ho0, hb⟩; refine ⟨_, rfl, ?_⟩; have n0_ := Aside0.mk (Kd.R_below (by (with_reducible repeat (first | apply Kd.R_alloc | apply Kd.R_drewN | apply Kd.R_drew)); exact HO490.out) hb); have n1_ := Aside0.mk (Kd.R_lower ho0 (below_size (by repeat (first | (with_reducible first | exact HB.out | apply below_alloc | apply pw_below_drewN | apply below_drew1) | exact HB.out)))); have n2_ := Aside0.mk (below_step (by repeat (first | (with_reducible first | exact HB.out | apply below_alloc | apply pw_below_drewN | apply below_drew1) | exact HB.out)) hb); clear HO490 HB; have HO490 := n0_; have HO493 := n1_; have HB := n2_; clear n0_ n1_ n2_; (try clear hb); (try clear hb2); (try clear hk); (try clear hi); (try clear ho0)) | ((with_reducible refine gate_callee (f := 11) rfl ?_); refine goesL_ (some 23) rfl rfl Try.func11 (by kernel_rfl) rfl #[.slice A0 l0.length c0] rfl (by (try simp only [List.map_toArray, List.map_cons, List.map_nil]); first | done | rfl | (simp only [List.length_drop, List.length_take]; rfl)) ?_; (with_reducible refine (laws_toUseS.calls k _ _ l0 t494 _ ?side1 ?side2 A7.out).mono ?_); (case side1 => repeat (first | exact (Kd.C_below HR0.out HB.out) | (with_reducible refine Kd.C_alloc ?_ _) | (with_reducible refine Kd.C_drewN ?_ _) | (with_reducible refine Kd.C_drew ?_))); (case side2 => exact HC0.out); rintro e w19 ⟨v495, rfl, ho0, hb⟩; refine ⟨_, rfl, ?_⟩; have n0_ := Aside0.mk (Kd.R_elder' (by (with_reducible repeat (first | apply Kd.R_alloc | apply Kd.R_drewN | apply Kd.R_drew)); exact HO490.out) (Kd.R_base ho0) hb); have n1_ := Aside0.mk (Kd.R_below (by (with_reducible repeat (first | apply Kd.R_alloc | apply Kd.R_drewN | apply Kd.R_drew)); exact HO493.out) hb); have n2_ := Aside0.mk (Kd.R_lower (Kd.R_new' ho0 (Kd.R_lt (by (with_reducible repeat (first | apply Kd.R_alloc | apply Kd.R_drewN | apply Kd.R_drew)); exact HO490.out))) (below_size (by repeat (first | (with_reducible first | exact HB.out | apply below_alloc | apply pw_below_drewN | apply below_drew1) | exact HB.out)))); have n3_ := Aside0.mk (below_step (by repeat (first | (with_reducible first | exact HB.out | apply below_alloc | apply pw_below_drewN | apply below_drew1) | exact HB.out)) hb); clear HO490 HO493 HB; have HO490 := n0_; have HO493 := n1_; have HO496 := n2_; have HB := n3_; clear n0_ n1_ n2_ n3_; (try clear hb); (try clear hb2); (try clear hk); (try clear hi); (try clear ho0); obtain ⟨Ao20, co20, eo20⟩ := Kd.R_slice HO496.out; subst eo20) | ((with_reducible refine gate_callee (f := 25) rfl ?_); refine goesL_ (some 26) rfl rfl Try.func25 (by kernel_rfl) rfl #[.slice Ao20 t494.length co20, .int .i64 a1] rfl (by (try simp only [List.map_toArray, List.map_cons, List.map_nil]); first | done | rfl | (simp only [List.length_drop, List.length_take]; rfl)) ?_; (with_reducible refine (impl_Reached.calls k _ _ t494 a1 t497 _ ?side1 ?side2 A8.out).mono ?_); (case side1 => repeat (first | exact (Kd.R_reads' HO496.out).2.2 | (with_reducible refine Kd.C_alloc ?_ _) | (with_reducible refine Kd.C_drewN ?_ _) | (with_reducible refine Kd.C_drew ?_))); (case side2 => exact (Kd.R_reads' HO496.out).2.1); rintro e w21 ⟨v498, rfl, ho0, hb⟩; refine ⟨_, rfl, ?_⟩; have n0_ := Aside0.mk (Kd.R_below (by (with_reducible repeat (first | apply Kd.R_alloc | apply Kd.R_drewN | apply Kd.R_drew)); exact HO490.out) hb); have n1_ := Aside0.mk (Kd.R_elder' (by (with_reducible repeat (first | apply Kd.R_alloc | apply Kd.R_drewN | apply Kd.R_drew)); exact HO493.out) (Kd.R_base ho0) hb); have n2_ := Aside0.mk (Kd.R_below (by (with_reducible repeat (first | apply Kd.R_alloc | apply Kd.R_drewN | apply Kd.R_drew)); exact HO496.out) hb); have n3_ := Aside0.mk (Kd.R_lower (Kd.R_new' ho0 (Kd.R_lt (by (with_reducible repeat (first | apply Kd.R_alloc | apply Kd.R_drewN | apply Kd.R_drew)); exact HO493.out))) (below_size (by repeat (first | (with_reducible first | exact HB.out | apply below_alloc | apply pw_below_drewN | apply below_drew1) | exact HB.out)))); have n4_ := Aside0.mk (below_step (by repeat (first | (with_reducible first | exact HB.out | apply below_alloc | apply pw_below_drewN | apply below_drew1) | exact HB.out)) hb); clear HO490 HO493 HO496 HB; have HO490 := n0_; have HO493 := n1_; have HO496 := n2_; have HO499 := n3_; have HB := n4_; clear n0_ n1_ n2_ n3_ n4_; (try clear hb); (try clear hb2); (try clear hk); (try clear hi); (try clear ho0); obtain ⟨Ao22, co22, eo22⟩ := Kd.R_slice HO499.out; subst eo22; obtain ⟨Ao23, co23, eo23⟩ := Kd.R_slice HO493.out; subst eo23) | ((with_reducible refine gate_callee (f := 16) rfl ?_); refine goesL_ (some 29) rfl rfl Try.func16 (by kernel_rfl) rfl #[.slice Ao22 t497.length co22, .slice Ao23 t491.length co23] rfl (by (try simp only [List.map_toArray, List.map_cons, List.map_nil]); first | done | rfl | (simp only [List.length_drop, List.length_take]; rfl)) ?_; (with_reducible refine (laws_eqIntS.calls k _ _ t497 _ _ t491 true _ ?side1 ?side2 ?side3 ?side4 A9.out).mono ?_); (case side1 => repeat (first | exact (Kd.R_reads' HO499.out).2.2 | (with_reducible refine Kd.C_alloc ?_ _) | (with_reducible refine Kd.C_drewN ?_ _) | (with_reducible refine Kd.C_drew ?_))); (case side2 => exact (Kd.R_reads' HO499.out).2.1); (case side3 => repeat (first | exact (Kd.R_reads' HO493.out).2.2 | (with_reducible refine Kd.C_alloc ?_ _) | (with_reducible refine Kd.C_drewN ?_ _) | (with_reducible refine Kd.C_drew ?_))); (case side4 => exact (Kd.R_reads' HO493.out).2.1); rintro e w' ⟨rfl, ⟨nd, rfl⟩⟩; refine ⟨_, rfl, ?_⟩) | ((with_reducible refine gate_callee (f := 11) rfl ?_); refine goesL_ (some 33) rfl rfl Try.func11 (by kernel_rfl) rfl #[.slice A0 l0.length c0] rfl (by (try simp only [List.map_toArray, List.map_cons, List.map_nil]); first | done | rfl | (simp only [List.length_drop, List.length_take]; rfl)) ?_; (with_reducible refine (laws_toUseS.calls k _ _ l0 t501 _ ?side1 ?side2 A11.out).mono ?_); (case side1 => repeat (first | exact (Kd.C_below HR0.out (by repeat (first | (with_reducible first | exact HB.out | apply below_alloc | apply pw_below_drewN | apply below_drew1) | exact HB.out))) | (with_reducible refine Kd.C_alloc ?_ _) | (with_reducible refine Kd.C_drewN ?_ _) | (with_reducible refine Kd.C_drew ?_))); (case side2 => exact HC0.out); rintro e w24 ⟨v502, rfl, ho0, hb⟩; refine ⟨_, rfl, ?_⟩; have n0_ := Aside0.mk (Kd.R_elder' (by (with_reducible repeat (first | apply Kd.R_alloc | apply Kd.R_drewN | apply Kd.R_drew)); exact HO490.out) (Kd.R_base ho0) hb); have n1_ := Aside0.mk (Kd.R_below (by (with_reducible repeat (first | apply Kd.R_alloc | apply Kd.R_drewN | apply Kd.R_drew)); exact HO493.out) hb); have n2_ := Aside0.mk (Kd.R_elder' (by (with_reducible repeat (first | apply Kd.R_alloc | apply Kd.R_drewN | apply Kd.R_drew)); exact HO496.out) (Kd.R_base ho0) hb); have n3_ := Aside0.mk (Kd.R_below (by (with_reducible repeat (first | apply Kd.R_alloc | apply Kd.R_drewN | apply Kd.R_drew)); exact HO499.out) hb); have n4_ := Aside0.mk (Kd.R_lower (Kd.R_new' (Kd.R_new' ho0 (Kd.R_lt (by (with_reducible repeat (first | apply Kd.R_alloc | apply Kd.R_drewN | apply Kd.R_drew)); exact HO490.out))) (Kd.R_lt (by (with_reducible repeat (first | apply Kd.R_alloc | apply Kd.R_drewN | apply Kd.R_drew)); exact HO496.out))) (below_size (by repeat (first | (with_reducible first | exact HB.out | apply below_alloc | apply pw_below_drewN | apply below_drew1) | exact HB.out)))); have n5_ := Aside0.mk (below_step (by repeat (first | (with_reducible first | exact HB.out | apply below_alloc | apply pw_below_drewN | apply below_drew1) | exact HB.out)) hb); clear HO490 HO493 HO496 HO499 HB; have HO490 := n0_; have HO493 := n1_; have HO496 := n2_; have HO499 := n3_; have HO503 := n4_; have HB := n5_; clear n0_ n1_ n2_ n3_ n4_ n5_; (try clear hb); (try clear hb2); (try clear hk); (try clear hi); (try clear ho0); obtain ⟨Ao25, co25, eo25⟩ := Kd.R_slice HO503.out; subst eo25) | ((with_reducible refine gate_callee (f := 13) rfl ?_); refine goesL_ (some 34) rfl rfl Try.func13 (by kernel_rfl) rfl #[.slice Ao20 t494.length co20, .slice Ao25 t501.length co25] rfl (by (try simp only [List.map_toArray, List.map_cons, List.map_nil]); first | done | rfl | (simp only [List.length_drop, List.length_take]; rfl)) ?_; (with_reducible refine (laws_eqUseS.calls k _ _ t494 _ _ t501 true _ ?side1 ?side2 ?side3 ?side4 A12.out).mono ?_); (case side1 => repeat (first | exact (Kd.R_reads' HO496.out).2.2 | (with_reducible refine Kd.C_alloc ?_ _) | (with_reducible refine Kd.C_drewN ?_ _) | (with_reducible refine Kd.C_drew ?_))); (case side2 => exact (Kd.R_reads' HO496.out).2.1); (case side3 => repeat (first | exact (Kd.R_reads' HO503.out).2.2 | (with_reducible refine Kd.C_alloc ?_ _) | (with_reducible refine Kd.C_drewN ?_ _) | (with_reducible refine Kd.C_drew ?_))); (case side4 => exact (Kd.R_reads' HO503.out).2.1); rintro e w26 ⟨rfl, hb⟩; refine ⟨_, rfl, ?_⟩; have n0_ := Aside0.mk (Kd.R_below (by (with_reducible repeat (first | apply Kd.R_alloc | apply Kd.R_drewN | apply Kd.R_drew)); exact HO490.out) hb); have n1_ := Aside0.mk (Kd.R_below (by (with_reducible repeat (first | apply Kd.R_alloc | apply Kd.R_drewN | apply Kd.R_drew)); exact HO493.out) hb); have n2_ := Aside0.mk (Kd.R_below (by (with_reducible repeat (first | apply Kd.R_alloc | apply Kd.R_drewN | apply Kd.R_drew)); exact HO496.out) hb); have n3_ := Aside0.mk (Kd.R_below (by (with_reducible repeat (first | apply Kd.R_alloc | apply Kd.R_drewN | apply Kd.R_drew)); exact HO499.out) hb); have n4_ := Aside0.mk (Kd.R_below (by (with_reducible repeat (first | apply Kd.R_alloc | apply Kd.R_drewN | apply Kd.R_drew)); exact HO503.out) hb); have n5_ := Aside0.mk (below_step (by repeat (first | (with_reducible first | exact HB.out | apply below_alloc | apply pw_below_drewN | apply below_drew1) | exact HB.out)) hb); clear HO490 HO493 HO496 HO499 HO503 HB; have HO490 := n0_; have HO493 := n1_; have HO496 := n2_; have HO499 := n3_; have HO503 := n4_; have HB := n5_; clear n0_ n1_ n2_ n3_ n4_ n5_; (try clear hb); (try clear hb2); (try clear hk); (try clear hi)) | ((with_reducible refine gate_callee (f := 17) rfl ?_); refine goesL_ (some 38) rfl rfl Try.func17 (by kernel_rfl) rfl #[.slice Ao20 t494.length co20, .int .i64 1] rfl (by (try simp only [List.map_toArray, List.map_cons, List.map_nil]); first | done | rfl | (simp only [List.length_drop, List.length_take]; rfl)) ?_; (with_reducible refine (laws_markUseS.calls k (fun k_ => some k_ = (.slice Ao20 t494.length co20 : Value).ownBlock) (.slice Ao20 t494.length co20) t494 1 t505 t506 w _ ?side1 ?side2 A14.out).mono ?_); (case side1 => repeat (first | (with_reducible first | exact HB.out | apply below_alloc | apply pw_below_drewN | apply below_drew1) | exact HB.out)); (case side2 => exact Kd.R_tight rfl HO496.out); rintro e w27 ⟨rfl, hy0, hb, hkp⟩; refine ⟨_, rfl, ?_⟩; have n0_ := Aside0.mk (Kd.R_mono (ok' := fun k_ => some k_ ≠ (.slice Ao20 t494.length co20 : Value).ownBlock ∧ some k_ ≠ (.slice Ao25 t501.length co25 : Value).ownBlock) (Kd.R_keptB (HO490.out) hkp (fun k_ hk_ hs_ => (hk_.1.2) hs_)) (fun k_ hk_ => ⟨hk_.1.1.2, hk_.1.2⟩)); have n1_ := Aside0.mk (Kd.R_mono (ok' := fun k_ => some k_ ≠ (.slice Ao22 t497.length co22 : Value).ownBlock) (Kd.R_keptB ((Kd.R_apart' HO493.out (Kd.R_typed HO496.out) (by decide))) hkp (fun k_ hk_ hs_ => (hk_.2) hs_)) (fun k_ hk_ => hk_.1.1.2)); have n2_ := Aside0.mk (Kd.R_reok rfl hy0 (fun k_ e_ => HO496.out.1 k_ e_)); have n3_ := Aside0.mk (Kd.R_mono (ok' := fun k_ => some k_ ≠ (.slice Ao23 t491.length co23 : Value).ownBlock) (Kd.R_keptB ((Kd.R_apart' HO499.out (Kd.R_typed HO496.out) (by decide))) hkp (fun k_ hk_ hs_ => (hk_.2) hs_)) (fun k_ hk_ => hk_.1.1.2)); have n4_ := Aside0.mk (Kd.R_mono (ok' := fun k_ => some k_ ≠ (.slice Ao17 t488.length co17 : Value).ownBlock ∧ some k_ ≠ (.slice Ao20 t494.length co20 : Value).ownBlock) (Kd.R_keptB (HO503.out) hkp (fun k_ hk_ hs_ => (hk_.2) hs_)) (fun k_ hk_ => ⟨hk_.1.1.2, hk_.1.2⟩)); have n5_ := Aside0.mk (hb); clear HO490 HO493 HO496 HO499 HO503 HB; have HO490 := n0_; have HO493 := n1_; have HO496 := n2_; have HO499 := n3_; have HO503 := n4_; have HB := n5_; clear n0_ n1_ n2_ n3_ n4_ n5_; (try clear hb); (try clear hkp); (try clear hy0)))
    (try simp only [Act.put, List.setIfInBounds_toArray, List.set_cons_zero, List.set_cons_succ])
    go_cut [46] (fun v46 wc => ∃ (kq : Nat) (x46_14 : Bool), v46 = .bool x46_14 ∧ Aside0 (laws_FnExactReached.j0 kq l0 a1 t491 t497 x46_14 = some r) ∧ Aside0 (kq ≤ k) ∧ Aside0 (Kd.R (Kd.int .i64) 3 wc w.heap.size (fun k_ => some k_ ≠ ((.slice Ao22 t497.length co22) : Value).ownBlock) (.slice Ao23 t491.length co23) t491) ∧ Aside0 (Kd.R (Kd.int .i64) 3 wc w.heap.size (fun k_ => some k_ ≠ ((.slice Ao23 t491.length co23) : Value).ownBlock) (.slice Ao22 t497.length co22) t497) ∧ Aside0 (Below w.heap.size w wc))
    case first =>
     have H := HC15.out
     clear HC15
     by_cases c28 : t505 < 0
     ·rw [if_pos c28] at H
      have c28b0 : decide (t505 < 0) = true := decide_eq_true c28
      clear c28
      (first | rw [c28b0] | (simp only [i64_w, i32_w]; rw [c28b0]) | skip)
      exact (laws_FnExactReached.j0_no HRT.out H).elim
     ·rw [if_neg c28] at H
      have c28b0 : decide (t505 < 0) = false := decide_eq_false c28
      clear c28
      (first | rw [c28b0] | (simp only [i64_w, i32_w]; rw [c28b0]) | skip)
      replace H := Option.bind_eq_some_iff.mp H
      obtain ⟨t507, A290, H⟩ := H
      replace H : (laws_FnExactReached.j0 k l0 a1 t491 t497 (!t507)) = some r := H
      have A29 := Aside0.mk A290
      clear A290
      have H' := Aside0.mk H
      clear H
      go_wp2_with (first | (go_at_call 16; (with_reducible refine (laws_eqIntS.calls k _ _ t497 _ _ t491 t507 _ ?side1 ?side2 ?side3 ?side4 A29.out).mono ?_); (case side1 => repeat (first | exact (Kd.R_reads' HO499.out).2.2 | (with_reducible refine Kd.C_alloc ?_ _) | (with_reducible refine Kd.C_drewN ?_ _) | (with_reducible refine Kd.C_drew ?_))); (case side2 => exact (Kd.R_reads' HO499.out).2.1); (case side3 => repeat (first | exact (Kd.R_reads' HO493.out).2.2 | (with_reducible refine Kd.C_alloc ?_ _) | (with_reducible refine Kd.C_drewN ?_ _) | (with_reducible refine Kd.C_drew ?_))); (case side4 => exact (Kd.R_reads' HO493.out).2.1); rintro e w' ⟨rfl, ⟨nd, rfl⟩⟩))
      go_meet
      case rel => exact ⟨_, (!t507), (by first | rfl | (simp; done) | (simp [*]; done)), H', ⟨by first | omega | exact Nat.le_refl _⟩, ⟨by (with_reducible repeat (first | apply Kd.R_alloc | apply Kd.R_drewN | apply Kd.R_drew)); exact HO493.out⟩, ⟨by (with_reducible repeat (first | apply Kd.R_alloc | apply Kd.R_drewN | apply Kd.R_drew)); exact HO499.out⟩, ⟨by repeat (first | (with_reducible first | exact HB.out | apply below_alloc | apply pw_below_drewN | apply below_drew1) | exact HB.out)⟩⟩
    case rest =>
     clear HC15
     try clear c1
     try clear c2
     try clear p2
     try clear c3
     try clear c4
     try clear c4b0
     try clear c8
     try clear c9
     try clear c10
     try clear c11
     try clear c13
     try clear c16
     try clear c17
     try clear c25
     try clear c28
     try clear c28b0
     obtain ⟨kq, x46_14, rfl, HA, HJ14, HO_6, HO_8, HB⟩ := hcut
     cases kq with
     | zero => exact absurd HA.out (by simp [laws_FnExactReached.j0])
     | succ kj14 =>
      have H := HA.out
      clear HA
      simp only [laws_FnExactReached.j0] at H
      by_cases c30 : x46_14 = true
      ·subst c30
       have H1 : (some false) = some r := by rw [if_pos rfl] at H; exact H
       clear H
       have H := H1
       clear H1
       exact absurd (H.trans (congrArg some HRT.out)) (by simp)
      ·replace c30 := Bool.eq_false_iff.mpr c30
       subst c30
       have H1 : ((laws_markIntS.f kj14 t497 1).bind fun bt508 => ((laws_heldIntS.f kj14 bt508.2 1).bind fun t510 => (if t510 < 0 then (some false) else (if t510 = bt508.1 then ((laws_toUseS.f kj14 l0).bind fun t511 => ((impl_Reached.f kj14 t511 a1).bind fun t514 => ((laws_eqIntS.f kj14 t514 t491).bind fun t517 => (if t517 = true then ((laws_heldIntS.f kj14 bt508.2 1).bind fun t518 => (if t518 < 0 then (some false) else (if t518 = bt508.1 then (some true) else (some false)))) else (some false))))) else (some false))))) = some r := by rw [if_neg (show ¬ (false = true) by decide)] at H; exact H
       clear H
       have H := H1
       clear H1
       replace H := Option.bind_eq_some_iff.mp H
       obtain ⟨⟨t508, t509⟩, A310, H⟩ := H
       replace H : ((laws_heldIntS.f kj14 t509 1).bind fun t510 => (if t510 < 0 then (some false) else (if t510 = t508 then ((laws_toUseS.f kj14 l0).bind fun t511 => ((impl_Reached.f kj14 t511 a1).bind fun t514 => ((laws_eqIntS.f kj14 t514 t491).bind fun t517 => (if t517 = true then ((laws_heldIntS.f kj14 t509 1).bind fun t518 => (if t518 < 0 then (some false) else (if t518 = t508 then (some true) else (some false)))) else (some false))))) else (some false)))) = some r := H
       have A31 := Aside0.mk A310
       clear A310
       replace H := Option.bind_eq_some_iff.mp H
       obtain ⟨t510, A320, H⟩ := H
       replace H : (if t510 < 0 then (some false) else (if t510 = t508 then ((laws_toUseS.f kj14 l0).bind fun t511 => ((impl_Reached.f kj14 t511 a1).bind fun t514 => ((laws_eqIntS.f kj14 t514 t491).bind fun t517 => (if t517 = true then ((laws_heldIntS.f kj14 t509 1).bind fun t518 => (if t518 < 0 then (some false) else (if t518 = t508 then (some true) else (some false)))) else (some false))))) else (some false))) = some r := H
       have A32 := Aside0.mk A320
       clear A320
       by_cases c33 : t510 < 0
       ·rw [if_pos c33] at H
        have c33b0 : decide (t510 < 0) = true := decide_eq_true c33
        clear c33
        exact absurd (H.trans (congrArg some HRT.out)) (by simp)
       ·rw [if_neg c33] at H
        have c33b0 : decide (t510 < 0) = false := decide_eq_false c33
        clear c33
        by_cases c34 : t510 = t508
        ·rw [if_pos c34] at H
         have c34b0 : (t510 == t508) = true := beq_iff_eq.mpr c34
         have c34b1 : (t510 != t508) = false := bne_eq_false_iff_eq.mpr c34
         clear c34
         replace H := Option.bind_eq_some_iff.mp H
         obtain ⟨t511, A350, H⟩ := H
         replace H : ((impl_Reached.f kj14 t511 a1).bind fun t514 => ((laws_eqIntS.f kj14 t514 t491).bind fun t517 => (if t517 = true then ((laws_heldIntS.f kj14 t509 1).bind fun t518 => (if t518 < 0 then (some false) else (if t518 = t508 then (some true) else (some false)))) else (some false)))) = some r := H
         have A35 := Aside0.mk A350
         clear A350
         replace H := Option.bind_eq_some_iff.mp H
         obtain ⟨t514, A360, H⟩ := H
         replace H : ((laws_eqIntS.f kj14 t514 t491).bind fun t517 => (if t517 = true then ((laws_heldIntS.f kj14 t509 1).bind fun t518 => (if t518 < 0 then (some false) else (if t518 = t508 then (some true) else (some false)))) else (some false))) = some r := H
         have A36 := Aside0.mk A360
         clear A360
         replace H := Option.bind_eq_some_iff.mp H
         obtain ⟨t517, A370, H⟩ := H
         replace H : (if t517 = true then ((laws_heldIntS.f kj14 t509 1).bind fun t518 => (if t518 < 0 then (some false) else (if t518 = t508 then (some true) else (some false)))) else (some false)) = some r := H
         have A37 := Aside0.mk A370
         clear A370
         by_cases c38 : t517 = true
         ·subst c38
          have H1 : ((laws_heldIntS.f kj14 t509 1).bind fun t518 => (if t518 < 0 then (some false) else (if t518 = t508 then (some true) else (some false)))) = some r := by rw [if_pos rfl] at H; exact H
          clear H
          have H := H1
          clear H1
          replace H := Option.bind_eq_some_iff.mp H
          obtain ⟨t518, A390, H⟩ := H
          replace H : (if t518 < 0 then (some false) else (if t518 = t508 then (some true) else (some false))) = some r := H
          have A39 := Aside0.mk A390
          clear A390
          by_cases c40 : t518 < 0
          ·rw [if_pos c40] at H
           have c40b0 : decide (t518 < 0) = true := decide_eq_true c40
           clear c40
           exact absurd (H.trans (congrArg some HRT.out)) (by simp)
          ·rw [if_neg c40] at H
           have c40b0 : decide (t518 < 0) = false := decide_eq_false c40
           clear c40
           by_cases c41 : t518 = t508
           ·rw [if_pos c41] at H
            have c41b0 : (t518 == t508) = true := beq_iff_eq.mpr c41
            have c41b1 : (t518 != t508) = false := bne_eq_false_iff_eq.mpr c41
            clear c41
            obtain rfl := Option.some.inj H
            go_wp2_with (first | ((with_reducible refine gate_callee (f := 18) rfl ?_); refine goesL_ (some 49) rfl rfl Try.func18 (by kernel_rfl) rfl #[.slice Ao22 t497.length co22, .int .i64 1] rfl (by (try simp only [List.map_toArray, List.map_cons, List.map_nil]); first | done | rfl | (simp only [List.length_drop, List.length_take]; rfl)) ?_; (with_reducible refine (laws_markIntS.calls kj14 (fun k_ => some k_ = (.slice Ao22 t497.length co22 : Value).ownBlock) (.slice Ao22 t497.length co22) t497 1 t508 t509 w _ ?side1 ?side2 A31.out).mono ?_); (case side1 => repeat (first | (with_reducible first | exact HB.out | apply below_alloc | apply pw_below_drewN | apply below_drew1) | exact HB.out)); (case side2 => exact Kd.R_tight rfl HO_8.out); rintro e w42 ⟨rfl, hy0, hb, hkp⟩; refine ⟨_, rfl, ?_⟩; have n0_ := Aside0.mk (Kd.R_mono (ok' := fun k_ => some k_ ≠ (.slice Ao22 t497.length co22 : Value).ownBlock) (Kd.R_keptB (HO_6.out) hkp (fun k_ hk_ hs_ => (hk_) hs_)) (fun k_ hk_ => hk_.1)); have n1_ := Aside0.mk (Kd.R_reok rfl hy0 (fun k_ e_ => HO_8.out.1 k_ e_)); have n2_ := Aside0.mk (hb); clear HO_6 HO_8 HB; have HO_6 := n0_; have HO_8 := n1_; have HB := n2_; clear n0_ n1_ n2_; (try clear hb); (try clear hkp); (try clear hy0)) | ((with_reducible refine gate_callee (f := 19) rfl ?_); refine goesL_ (some 52) rfl rfl Try.func19 (by kernel_rfl) rfl #[.slice Ao22 t509.length co22, .int .i64 1] rfl (by (try simp only [List.map_toArray, List.map_cons, List.map_nil]); first | done | (rw [show t509.length = t497.length from (Kd.R_reads' HO_8.out).1.symm] <;> rfl) | rfl | (simp only [List.length_drop, List.length_take]; rfl)) ?_; (with_reducible refine (laws_heldIntS.calls kj14 _ _ t509 1 t510 _ ?side1 ?side2 A32.out).mono ?_); (case side1 => repeat (first | exact (Kd.R_reads' HO_8.out).2.2 | (with_reducible refine Kd.C_alloc ?_ _) | (with_reducible refine Kd.C_drewN ?_ _) | (with_reducible refine Kd.C_drew ?_))); (case side2 => rw [show t509.length = t497.length from (Kd.R_reads' HO_8.out).1.symm]; exact (Kd.R_reads' HO_8.out).2.1); rintro e w' ⟨rfl, ⟨nd, rfl⟩⟩; refine ⟨_, rfl, ?_⟩) | ((with_reducible refine gate_callee (f := 11) rfl ?_); refine goesL_ (some 59) rfl rfl Try.func11 (by kernel_rfl) rfl #[.slice A0 l0.length c0] rfl (by (try simp only [List.map_toArray, List.map_cons, List.map_nil]); first | done | rfl | (simp only [List.length_drop, List.length_take]; rfl)) ?_; (with_reducible refine (laws_toUseS.calls kj14 _ _ l0 t511 _ ?side1 ?side2 A35.out).mono ?_); (case side1 => repeat (first | exact (Kd.C_below HR0.out (by repeat (first | (with_reducible first | exact HB.out | apply below_alloc | apply pw_below_drewN | apply below_drew1) | exact HB.out))) | (with_reducible refine Kd.C_alloc ?_ _) | (with_reducible refine Kd.C_drewN ?_ _) | (with_reducible refine Kd.C_drew ?_))); (case side2 => exact HC0.out); rintro e w43 ⟨v512, rfl, ho0, hb⟩; refine ⟨_, rfl, ?_⟩; have n0_ := Aside0.mk (Kd.R_below (by (with_reducible repeat (first | apply Kd.R_alloc | apply Kd.R_drewN | apply Kd.R_drew)); exact HO_6.out) hb); have n1_ := Aside0.mk (Kd.R_below (by (with_reducible repeat (first | apply Kd.R_alloc | apply Kd.R_drewN | apply Kd.R_drew)); exact HO_8.out) hb); have n2_ := Aside0.mk (Kd.R_lower ho0 (below_size (by repeat (first | (with_reducible first | exact HB.out | apply below_alloc | apply pw_below_drewN | apply below_drew1) | exact HB.out)))); have n3_ := Aside0.mk (below_step (by repeat (first | (with_reducible first | exact HB.out | apply below_alloc | apply pw_below_drewN | apply below_drew1) | exact HB.out)) hb); clear HO_6 HO_8 HB; have HO_6 := n0_; have HO_8 := n1_; have HO513 := n2_; have HB := n3_; clear n0_ n1_ n2_ n3_; (try clear hb); (try clear hb2); (try clear hk); (try clear hi); (try clear ho0); obtain ⟨Ao44, co44, eo44⟩ := Kd.R_slice HO513.out; subst eo44) | ((with_reducible refine gate_callee (f := 25) rfl ?_); refine goesL_ (some 61) rfl rfl Try.func25 (by kernel_rfl) rfl #[.slice Ao44 t511.length co44, .int .i64 a1] rfl (by (try simp only [List.map_toArray, List.map_cons, List.map_nil]); first | done | rfl | (simp only [List.length_drop, List.length_take]; rfl)) ?_; (with_reducible refine (impl_Reached.calls kj14 _ _ t511 a1 t514 _ ?side1 ?side2 A36.out).mono ?_); (case side1 => repeat (first | exact (Kd.R_reads' HO513.out).2.2 | (with_reducible refine Kd.C_alloc ?_ _) | (with_reducible refine Kd.C_drewN ?_ _) | (with_reducible refine Kd.C_drew ?_))); (case side2 => exact (Kd.R_reads' HO513.out).2.1); rintro e w45 ⟨v515, rfl, ho0, hb⟩; refine ⟨_, rfl, ?_⟩; have n0_ := Aside0.mk (Kd.R_elder' (by (with_reducible repeat (first | apply Kd.R_alloc | apply Kd.R_drewN | apply Kd.R_drew)); exact HO_6.out) (Kd.R_base ho0) hb); have n1_ := Aside0.mk (Kd.R_elder' (by (with_reducible repeat (first | apply Kd.R_alloc | apply Kd.R_drewN | apply Kd.R_drew)); exact HO_8.out) (Kd.R_base ho0) hb); have n2_ := Aside0.mk (Kd.R_below (by (with_reducible repeat (first | apply Kd.R_alloc | apply Kd.R_drewN | apply Kd.R_drew)); exact HO513.out) hb); have n3_ := Aside0.mk (Kd.R_lower (Kd.R_new' (Kd.R_new' ho0 (Kd.R_lt (by (with_reducible repeat (first | apply Kd.R_alloc | apply Kd.R_drewN | apply Kd.R_drew)); exact HO_6.out))) (Kd.R_lt (by (with_reducible repeat (first | apply Kd.R_alloc | apply Kd.R_drewN | apply Kd.R_drew)); exact HO_8.out))) (below_size (by repeat (first | (with_reducible first | exact HB.out | apply below_alloc | apply pw_below_drewN | apply below_drew1) | exact HB.out)))); have n4_ := Aside0.mk (below_step (by repeat (first | (with_reducible first | exact HB.out | apply below_alloc | apply pw_below_drewN | apply below_drew1) | exact HB.out)) hb); clear HO_6 HO_8 HO513 HB; have HO_6 := n0_; have HO_8 := n1_; have HO513 := n2_; have HO516 := n3_; have HB := n4_; clear n0_ n1_ n2_ n3_ n4_; (try clear hb); (try clear hb2); (try clear hk); (try clear hi); (try clear ho0); obtain ⟨Ao46, co46, eo46⟩ := Kd.R_slice HO516.out; subst eo46) | ((with_reducible refine gate_callee (f := 16) rfl ?_); refine goesL_ (some 64) rfl rfl Try.func16 (by kernel_rfl) rfl #[.slice Ao46 t514.length co46, .slice Ao23 t491.length co23] rfl (by (try simp only [List.map_toArray, List.map_cons, List.map_nil]); first | done | rfl | (simp only [List.length_drop, List.length_take]; rfl)) ?_; (with_reducible refine (laws_eqIntS.calls kj14 _ _ t514 _ _ t491 true _ ?side1 ?side2 ?side3 ?side4 A37.out).mono ?_); (case side1 => repeat (first | exact (Kd.R_reads' HO516.out).2.2 | (with_reducible refine Kd.C_alloc ?_ _) | (with_reducible refine Kd.C_drewN ?_ _) | (with_reducible refine Kd.C_drew ?_))); (case side2 => exact (Kd.R_reads' HO516.out).2.1); (case side3 => repeat (first | exact (Kd.R_reads' HO_6.out).2.2 | (with_reducible refine Kd.C_alloc ?_ _) | (with_reducible refine Kd.C_drewN ?_ _) | (with_reducible refine Kd.C_drew ?_))); (case side4 => exact (Kd.R_reads' HO_6.out).2.1); rintro e w' ⟨rfl, ⟨nd, rfl⟩⟩; refine ⟨_, rfl, ?_⟩) | ((with_reducible refine gate_callee (f := 19) rfl ?_); refine goesL_ (some 68) rfl rfl Try.func19 (by kernel_rfl) rfl #[.slice Ao22 t509.length co22, .int .i64 1] rfl (by (try simp only [List.map_toArray, List.map_cons, List.map_nil]); first | done | (rw [show t509.length = t497.length from (Kd.R_reads' HO_8.out).1.symm] <;> rfl) | rfl | (simp only [List.length_drop, List.length_take]; rfl)) ?_; (with_reducible refine (laws_heldIntS.calls kj14 _ _ t509 1 t518 _ ?side1 ?side2 A39.out).mono ?_); (case side1 => repeat (first | exact (Kd.R_reads' HO_8.out).2.2 | (with_reducible refine Kd.C_alloc ?_ _) | (with_reducible refine Kd.C_drewN ?_ _) | (with_reducible refine Kd.C_drew ?_))); (case side2 => rw [show t509.length = t497.length from (Kd.R_reads' HO_8.out).1.symm]; exact (Kd.R_reads' HO_8.out).2.1); rintro e w' ⟨rfl, ⟨nd, rfl⟩⟩; refine ⟨_, rfl, ?_⟩))
            go_ret
            exact ⟨by first | rfl | (simp [errW_none, errW_some] <;> rfl) | (simp [*, errW_none, errW_some] <;> rfl), by repeat (first | (with_reducible first | exact HB.out | apply below_alloc | apply pw_below_drewN | apply below_drew1) | exact HB.out)⟩
           ·rw [if_neg c41] at H
            have c41b0 : (t518 == t508) = false := beq_eq_false_iff_ne.mpr c41
            have c41b1 : (t518 != t508) = true := bne_iff_ne.mpr c41
            exact absurd (H.trans (congrArg some HRT.out)) (by simp)
         ·replace c38 := Bool.eq_false_iff.mpr c38
          subst c38
          have H1 : (some false) = some r := by rw [if_neg (show ¬ (false = true) by decide)] at H; exact H
          clear H
          have H := H1
          clear H1
          exact absurd (H.trans (congrArg some HRT.out)) (by simp)
        ·rw [if_neg c34] at H
         have c34b0 : (t510 == t508) = false := beq_eq_false_iff_ne.mpr c34
         have c34b1 : (t510 != t508) = true := bne_iff_ne.mpr c34
         exact absurd (H.trans (congrArg some HRT.out)) (by simp)
   ·replace c13 := Bool.eq_false_iff.mpr c13
    subst c13
    have H1 : (some false) = some r := by rw [if_neg (show ¬ (false = true) by decide)] at H; exact H
    clear H
    have H := H1
    clear H1
    exact absurd (H.trans (congrArg some HRT.out)) (by simp)
  ·replace c10 := Bool.eq_false_iff.mpr c10
   subst c10
   have H1 : (some false) = some r := by rw [if_neg (show ¬ (false = true) by decide)] at H; exact H
   clear H
   have H := H1
   clear H1
   exact absurd (H.trans (congrArg some HRT.out)) (by simp)
/-- THE ONE PURE STATEMENT of laws_FnExactReached. -/
def laws_FnExactReached.Pure : Prop := ∀ (l0 : List (S45)) (a1 : Int), l0.length ≤ maxLen → l0.length * 24 ≤ 140737488351232 → (∀ x ∈ l0, wfS45 x) → (Lit.int .i64 a1).wf = true → ∃ k, laws_FnExactReached.f k l0 a1 = some true
theorem laws_FnExactReached.walk (P : laws_FnExactReached.Pure) (A0 : Option Addr) (c0 : Nat) (l0 : List (S45)) (a1 : Int) (w : World) (hr0 : Kd.C k45 w A0 l0.length l0) (hc0 : l0.length ≤ c0) (y0 : l0.length ≤ maxLen) (y1 : l0.length * 24 ≤ 140737488351232) (y2 : (∀ x ∈ l0, wfS45 x)) (y3 : (Lit.int .i64 a1).wf = true) :
  Calls Try.prog 8 #[.slice A0 l0.length c0, .int .i64 a1] w fun e w' => e = .returned (.bool true) ∧ Below w.heap.size w w' := by
 obtain ⟨k, h⟩ := P l0 a1 y0 y1 y2 y3
 refine (laws_FnExactReached.calls k A0 c0 l0 a1 true w hr0 hc0 rfl h).mono ?_
 rintro e w' ⟨rfl, hd⟩
 exact ⟨rfl, hd⟩

end Go.Proofs.Ythdgbngnddkkiaa.PHX
