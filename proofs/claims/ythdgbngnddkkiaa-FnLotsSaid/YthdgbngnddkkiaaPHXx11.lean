-- Written by a program of this session (wip/hprint.py, over the kit's print).
import Derived.Test.YthdgbngnddkkiaaPHXx0
import Derived.Test.YthdgbngnddkkiaaPHXx1
import Derived.Test.YthdgbngnddkkiaaPHXx2
namespace Go.Proofs.Ythdgbngnddkkiaa.PHX
open Go.RowKit Go.Proofs.YthdgbngnddkkiaaW.PrintWords Go.Proofs.YthdgbngnddkkiaaW.PrintLast Go.Proofs.YthdgbngnddkkiaaW.PrintMore
attribute [local go_sem] max2_int min2_int max_two min_two max_three min_three max_four min_four   -- for this text's walks alone
set_option linter.unusedVariables false
set_option linter.unusedSimpArgs false

/-! ### spec_Reached: function 32 -/
mutual
def spec_Reached.j0 : Nat → List (S39) → List Int → List Bool → List Bool → Option (List Int)
 | 0, _, _, _, _ => none
 | k + 1, x0, x5, x6, x7 => spec_Reached.l0 k x0 x5 x6 x7 0
def spec_Reached.l0 : Nat → List (S39) → List Int → List Bool → List Bool → Int → Option (List Int)
 | 0, _, _, _, _, _ => none
 | k + 1, x0, x5, x6, x7, x8 => if x8 < 60 then (spec_Reached.l1 k x0 x5 x6 x7 x8 0) else (spec_Reached.l2 k x5 x6 1)
def spec_Reached.l1 : Nat → List (S39) → List Int → List Bool → List Bool → Int → Int → Option (List Int)
 | 0, _, _, _, _, _, _ => none
 | k + 1, x0, x5, x6, x7, x8, x9 => if x9 < (x0.length : Int) then (if 0 ≤ x9 then (if 0 ≤ ((rd_T39 x0 x9).f0) then (if ((rd_T39 x0 x9).f0) < (x6.length : Int) then (if rdOf false x6 ((rd_T39 x0 x9).f0) = true then (if 0 ≤ ((rd_T39 x0 x9).f1) then (if ((rd_T39 x0 x9).f1) < (x7.length : Int) then (spec_Reached.l1 k x0 x5 (x6.set (((rd_T39 x0 x9).f0) : Int).toNat true) (x7.set (((rd_T39 x0 x9).f1) : Int).toNat true) x8 (wrap64 (x9 + 1))) else (none)) else (none)) else (if 0 ≤ ((rd_T39 x0 x9).f1) then (if ((rd_T39 x0 x9).f1) < (x7.length : Int) then (if rdOf false x7 ((rd_T39 x0 x9).f1) = true then (spec_Reached.l1 k x0 x5 (x6.set (((rd_T39 x0 x9).f0) : Int).toNat true) (x7.set (((rd_T39 x0 x9).f1) : Int).toNat true) x8 (wrap64 (x9 + 1))) else (spec_Reached.l1 k x0 x5 x6 x7 x8 (wrap64 (x9 + 1)))) else (none)) else (none))) else (none)) else (none)) else (none)) else (spec_Reached.l0 k x0 x5 x6 x7 (wrap64 (x8 + 1)))
def spec_Reached.l2 : Nat → List Int → List Bool → Int → Option (List Int)
 | 0, _, _, _ => none
 | k + 1, x5, x6, x11 => if x11 ≤ 50 then (if 0 ≤ x11 then (if x11 < (x6.length : Int) then (if rdOf false x6 x11 = true then (if x5.length < 17592186044416 then (spec_Reached.l2 k (x5 ++ [x11]) x6 (wrap64 (x11 + 1))) else (none)) else (spec_Reached.l2 k x5 x6 (wrap64 (x11 + 1)))) else (none)) else (none)) else (some x5)
end
def spec_Reached.f (k : Nat) (l0 : List (S39)) (a1 : Int) : Option (List Int) := (some (([] : List Int) : List Int)).bind fun y461 => ((spec_UsesOk.f k l0).bind fun t464 => (if t464 = true then (if 51 ≤ 281474976710656 then ((some (List.replicate 51 false : List Bool)).bind fun y465 => ((some (List.replicate 51 false : List Bool)).bind fun y468 => ((spec_BreadsOf.f k l0 a1).bind fun t471 => (if (t471.length : Int) > 0 then (if 0 ≤ a1 then (if a1 < (y465.length : Int) then (spec_Reached.j0 k l0 y461 (y465.set (a1 : Int).toNat true) y468) else (none)) else (none)) else (spec_Reached.j0 k l0 y461 y465 y468))))) else (none)) else (some y461)))
theorem spec_Reached.mono_l : ∀ k, (∀ y0 y1 y2 y3, LeO (spec_Reached.j0 k y0 y1 y2 y3) (spec_Reached.j0 (k + 1) y0 y1 y2 y3)) ∧ (∀ y0 y1 y2 y3 y4, LeO (spec_Reached.l0 k y0 y1 y2 y3 y4) (spec_Reached.l0 (k + 1) y0 y1 y2 y3 y4)) ∧ (∀ y0 y1 y2 y3 y4 y5, LeO (spec_Reached.l1 k y0 y1 y2 y3 y4 y5) (spec_Reached.l1 (k + 1) y0 y1 y2 y3 y4 y5)) ∧ (∀ y0 y1 y2, LeO (spec_Reached.l2 k y0 y1 y2) (spec_Reached.l2 (k + 1) y0 y1 y2))
 | 0 => ⟨fun _ _ _ _ r h => by simp [spec_Reached.j0] at h, fun _ _ _ _ _ r h => by simp [spec_Reached.l0] at h, fun _ _ _ _ _ _ r h => by simp [spec_Reached.l1] at h, fun _ _ _ r h => by simp [spec_Reached.l2] at h⟩
 | k + 1 => by
  obtain ⟨ih0, ih1, ih2, ih3⟩ := spec_Reached.mono_l k
  refine ⟨?_, ?_, ?_, ?_⟩
  ·intro y0 y1 y2 y3
   unfold spec_Reached.j0
   repeat' first
   | (with_reducible exact ih0 _ _ _ _)
   | (with_reducible exact ih1 _ _ _ _ _)
   | (with_reducible exact ih2 _ _ _ _ _ _)
   | (with_reducible exact ih3 _ _ _)
   | (with_reducible exact spec_BreadsOf.mono _ _ _)
   | (with_reducible exact spec_UsesOk.mono _ _)
   | (with_reducible exact LeO.refl _)
   | (with_reducible exact LeO.none _)
   | (with_reducible refine LeO.ite ?_ ?_)
   | (with_reducible refine LeO.bind ?_ (fun _ => ?_))
   | exact ih0 _ _ _ _
   | exact ih1 _ _ _ _ _
   | exact ih2 _ _ _ _ _ _
   | exact ih3 _ _ _
   | exact spec_BreadsOf.mono _ _ _
   | exact spec_UsesOk.mono _ _
   | exact LeO.none _
   | refine LeO.ite ?_ ?_
   | refine LeO.bind ?_ (fun _ => ?_)
  ·intro y0 y1 y2 y3 y4
   unfold spec_Reached.l0
   repeat' first
   | (with_reducible exact ih0 _ _ _ _)
   | (with_reducible exact ih1 _ _ _ _ _)
   | (with_reducible exact ih2 _ _ _ _ _ _)
   | (with_reducible exact ih3 _ _ _)
   | (with_reducible exact spec_BreadsOf.mono _ _ _)
   | (with_reducible exact spec_UsesOk.mono _ _)
   | (with_reducible exact LeO.refl _)
   | (with_reducible exact LeO.none _)
   | (with_reducible refine LeO.ite ?_ ?_)
   | (with_reducible refine LeO.bind ?_ (fun _ => ?_))
   | exact ih0 _ _ _ _
   | exact ih1 _ _ _ _ _
   | exact ih2 _ _ _ _ _ _
   | exact ih3 _ _ _
   | exact spec_BreadsOf.mono _ _ _
   | exact spec_UsesOk.mono _ _
   | exact LeO.none _
   | refine LeO.ite ?_ ?_
   | refine LeO.bind ?_ (fun _ => ?_)
  ·intro y0 y1 y2 y3 y4 y5
   unfold spec_Reached.l1
   repeat' first
   | (with_reducible exact ih0 _ _ _ _)
   | (with_reducible exact ih1 _ _ _ _ _)
   | (with_reducible exact ih2 _ _ _ _ _ _)
   | (with_reducible exact ih3 _ _ _)
   | (with_reducible exact spec_BreadsOf.mono _ _ _)
   | (with_reducible exact spec_UsesOk.mono _ _)
   | (with_reducible exact LeO.refl _)
   | (with_reducible exact LeO.none _)
   | (with_reducible refine LeO.ite ?_ ?_)
   | (with_reducible refine LeO.bind ?_ (fun _ => ?_))
   | exact ih0 _ _ _ _
   | exact ih1 _ _ _ _ _
   | exact ih2 _ _ _ _ _ _
   | exact ih3 _ _ _
   | exact spec_BreadsOf.mono _ _ _
   | exact spec_UsesOk.mono _ _
   | exact LeO.none _
   | refine LeO.ite ?_ ?_
   | refine LeO.bind ?_ (fun _ => ?_)
  ·intro y0 y1 y2
   unfold spec_Reached.l2
   repeat' first
   | (with_reducible exact ih0 _ _ _ _)
   | (with_reducible exact ih1 _ _ _ _ _)
   | (with_reducible exact ih2 _ _ _ _ _ _)
   | (with_reducible exact ih3 _ _ _)
   | (with_reducible exact spec_BreadsOf.mono _ _ _)
   | (with_reducible exact spec_UsesOk.mono _ _)
   | (with_reducible exact LeO.refl _)
   | (with_reducible exact LeO.none _)
   | (with_reducible refine LeO.ite ?_ ?_)
   | (with_reducible refine LeO.bind ?_ (fun _ => ?_))
   | exact ih0 _ _ _ _
   | exact ih1 _ _ _ _ _
   | exact ih2 _ _ _ _ _ _
   | exact ih3 _ _ _
   | exact spec_BreadsOf.mono _ _ _
   | exact spec_UsesOk.mono _ _
   | exact LeO.none _
   | refine LeO.ite ?_ ?_
   | refine LeO.bind ?_ (fun _ => ?_)
theorem spec_Reached.mono : ∀ a0 a1 k, LeO (spec_Reached.f k a0 a1) (spec_Reached.f (k + 1) a0 a1) := by
 intro a0 a1 k
 obtain ⟨ih0, ih1, ih2, ih3⟩ := spec_Reached.mono_l k
 unfold spec_Reached.f
 repeat' first
   | (with_reducible exact ih0 _ _ _ _)
   | (with_reducible exact ih1 _ _ _ _ _)
   | (with_reducible exact ih2 _ _ _ _ _ _)
   | (with_reducible exact ih3 _ _ _)
   | (with_reducible exact spec_BreadsOf.mono _ _ _)
   | (with_reducible exact spec_UsesOk.mono _ _)
   | (with_reducible exact LeO.refl _)
   | (with_reducible exact LeO.none _)
   | (with_reducible refine LeO.ite ?_ ?_)
   | (with_reducible refine LeO.bind ?_ (fun _ => ?_))
   | exact ih0 _ _ _ _
   | exact ih1 _ _ _ _ _
   | exact ih2 _ _ _ _ _ _
   | exact ih3 _ _ _
   | exact spec_BreadsOf.mono _ _ _
   | exact spec_UsesOk.mono _ _
   | exact LeO.none _
   | refine LeO.ite ?_ ?_
   | refine LeO.bind ?_ (fun _ => ?_)
set_option maxHeartbeats 8000000 in
set_option maxRecDepth 100000 in
theorem spec_Reached.calls (k : Nat) (A0 : Option Addr) (c0 : Nat) (l0 : List (S39)) (a1 : Int) (r : List Int) (w : World) (hr0 : Kd.C k39 w A0 l0.length l0) (hc0 : l0.length ≤ c0) (h : spec_Reached.f k l0 a1 = some r) :
  Calls Try.prog 32 #[.slice A0 l0.length c0, .int .i64 a1] w fun e w' => ∃ v0_ : Value, e = .returned (v0_) ∧ Kd.R (Kd.int .i64) 3 w' w.heap.size (fun _ => True) v0_ r ∧ Below w.heap.size w w' := by
 have hu39 := Try.underlying39
 have HR0 := Aside0.mk hr0
 have HC0 := Aside0.mk hc0
 clear hr0 hc0
 have HB := Aside0.mk (Below.refl w.heap.size w)
 have H : ((some (([] : List Int) : List Int)).bind fun y461 => ((spec_UsesOk.f k l0).bind fun t464 => (if t464 = true then (if 51 ≤ 281474976710656 then ((some (List.replicate 51 false : List Bool)).bind fun y465 => ((some (List.replicate 51 false : List Bool)).bind fun y468 => ((spec_BreadsOf.f k l0 a1).bind fun t471 => (if (t471.length : Int) > 0 then (if 0 ≤ a1 then (if a1 < (y465.length : Int) then (spec_Reached.j0 k l0 y461 (y465.set (a1 : Int).toNat true) y468) else (none)) else (none)) else (spec_Reached.j0 k l0 y461 y465 y468))))) else (none)) else (some y461)))) = some r := h
 clear h
 obtain ⟨y461, hy461⟩ : ∃ y_ : List Int, y_ = (([] : List Int)) := ⟨_, rfl⟩
 replace H : ((spec_UsesOk.f k l0).bind fun t464 => (if t464 = true then (if 51 ≤ 281474976710656 then ((some (List.replicate 51 false : List Bool)).bind fun y465 => ((some (List.replicate 51 false : List Bool)).bind fun y468 => ((spec_BreadsOf.f k l0 a1).bind fun t471 => (if (t471.length : Int) > 0 then (if 0 ≤ a1 then (if a1 < (y465.length : Int) then (spec_Reached.j0 k l0 y461 (y465.set (a1 : Int).toNat true) y468) else (none)) else (none)) else (spec_Reached.j0 k l0 y461 y465 y468))))) else (none)) else (some y461))) = some r := by first | (rw [hy461]; with_reducible exact H) | (have H2_ := (Option.bind_some _ _).symm.trans H; rw [hy461]; with_reducible exact H2_) | (have H2_ := (Option.bind_some _ _).symm.trans H; with_reducible exact H2_) | with_reducible exact H | (rw [hy461]; exact H) | exact H
 have Ny461 := Aside0.mk hy461
 clear hy461
 replace H := Option.bind_eq_some_iff.mp H
 obtain ⟨t464, A30, H⟩ := H
 replace H : (if t464 = true then (if 51 ≤ 281474976710656 then ((some (List.replicate 51 false : List Bool)).bind fun y465 => ((some (List.replicate 51 false : List Bool)).bind fun y468 => ((spec_BreadsOf.f k l0 a1).bind fun t471 => (if (t471.length : Int) > 0 then (if 0 ≤ a1 then (if a1 < (y465.length : Int) then (spec_Reached.j0 k l0 y461 (y465.set (a1 : Int).toNat true) y468) else (none)) else (none)) else (spec_Reached.j0 k l0 y461 y465 y468))))) else (none)) else (some y461)) = some r := H
 have A3 := Aside0.mk A30
 clear A30
 by_cases c4 : t464 = true
 ·subst c4
  have H1 : (if 51 ≤ 281474976710656 then ((some (List.replicate 51 false : List Bool)).bind fun y465 => ((some (List.replicate 51 false : List Bool)).bind fun y468 => ((spec_BreadsOf.f k l0 a1).bind fun t471 => (if (t471.length : Int) > 0 then (if 0 ≤ a1 then (if a1 < (y465.length : Int) then (spec_Reached.j0 k l0 y461 (y465.set (a1 : Int).toNat true) y468) else (none)) else (none)) else (spec_Reached.j0 k l0 y461 y465 y468))))) else (none)) = some r := by rw [if_pos rfl] at H; exact H
  clear H
  have H := H1
  clear H1
  by_cases c5 : 51 ≤ 281474976710656
  ·rw [if_pos c5] at H
   have c5b0 := eq_true c5
   have c5b1 : decide (51 ≤ 281474976710656) = true := decide_eq_true c5
   clear c5
   obtain ⟨y465, hy465⟩ : ∃ y_ : List Bool, y_ = (List.replicate 51 false) := ⟨_, rfl⟩
   replace H : ((some (List.replicate 51 false : List Bool)).bind fun y468 => ((spec_BreadsOf.f k l0 a1).bind fun t471 => (if (t471.length : Int) > 0 then (if 0 ≤ a1 then (if a1 < (y465.length : Int) then (spec_Reached.j0 k l0 y461 (y465.set (a1 : Int).toNat true) y468) else (none)) else (none)) else (spec_Reached.j0 k l0 y461 y465 y468)))) = some r := by first | (rw [hy465]; with_reducible exact H) | (have H2_ := (Option.bind_some _ _).symm.trans H; rw [hy465]; with_reducible exact H2_) | (have H2_ := (Option.bind_some _ _).symm.trans H; with_reducible exact H2_) | with_reducible exact H | (rw [hy465]; exact H) | exact H
   have Ny465 := Aside0.mk hy465
   clear hy465
   obtain ⟨y468, hy468⟩ : ∃ y_ : List Bool, y_ = (List.replicate 51 false) := ⟨_, rfl⟩
   replace H : ((spec_BreadsOf.f k l0 a1).bind fun t471 => (if (t471.length : Int) > 0 then (if 0 ≤ a1 then (if a1 < (y465.length : Int) then (spec_Reached.j0 k l0 y461 (y465.set (a1 : Int).toNat true) y468) else (none)) else (none)) else (spec_Reached.j0 k l0 y461 y465 y468))) = some r := by first | (rw [hy468]; with_reducible exact H) | (have H2_ := (Option.bind_some _ _).symm.trans H; rw [hy468]; with_reducible exact H2_) | (have H2_ := (Option.bind_some _ _).symm.trans H; with_reducible exact H2_) | with_reducible exact H | (rw [hy468]; exact H) | exact H
   have Ny468 := Aside0.mk hy468
   clear hy468
   replace H := Option.bind_eq_some_iff.mp H
   obtain ⟨t471, A60, H⟩ := H
   replace H : (if (t471.length : Int) > 0 then (if 0 ≤ a1 then (if a1 < (y465.length : Int) then (spec_Reached.j0 k l0 y461 (y465.set (a1 : Int).toNat true) y468) else (none)) else (none)) else (spec_Reached.j0 k l0 y461 y465 y468)) = some r := H
   have A6 := Aside0.mk A60
   clear A60
   have HC7 := Aside0.mk H
   clear H
   go_enter Try.func32, Try.ntmps32
   go_upto_if 23 with (first | ((with_reducible refine gate_dst (N := 12) rfl ?_); refine Kd.R_lit (Kd.int .i64) _ 3 ?hg (N := 12) ?hd (xs := ([] : List Int)) (inner := []) (ok := fun _ => True) (okp := fun _ => True) ?hr ?hp (fun _ hk => hk) trivial (Below.refl _ _) (Nat.le_refl _) (by simp) ?_; (case hd => rfl); (case hg => rfl); (case hr => first | (go_simp; done) | (go_simp; rfl)); (case hp => exact (Reps.none _ _)); intro v462 w8 ho9 hb hg_ hnew_; clear hg_ hnew_; (first | rw [← Ny461.out] at ho9 | (simp only [Int.reduceToNat] at ho9; rw [← Ny461.out] at ho9)); have n0_ := Aside0.mk (Kd.R_lower ho9 (below_size (by repeat (first | (with_reducible first | exact HB.out | apply below_alloc | apply pw_below_drewN | apply below_drew1) | exact HB.out)))); have n1_ := Aside0.mk (below_step (by repeat (first | (with_reducible first | exact HB.out | apply below_alloc | apply pw_below_drewN | apply below_drew1) | exact HB.out)) hb); clear HB; have HO463 := n0_; have HB := n1_; clear n0_ n1_; clear hb ho9) | ((with_reducible refine gate_callee (f := 33) rfl ?_); refine goesL_ (some 14) rfl rfl Try.func33 (by kernel_rfl) rfl #[.slice A0 l0.length c0] rfl (by (try simp only [List.map_toArray, List.map_cons, List.map_nil]); first | done | rfl | (simp only [List.length_drop, List.length_take]; rfl)) ?_; (with_reducible refine (spec_UsesOk.calls k _ _ l0 true _ ?side1 ?side2 A3.out).mono ?_); (case side1 => repeat (first | exact (Kd.C_below HR0.out HB.out) | (with_reducible refine Kd.C_alloc ?_ _) | (with_reducible refine Kd.C_drewN ?_ _) | (with_reducible refine Kd.C_drew ?_))); (case side2 => exact HC0.out); rintro e w' ⟨rfl, ⟨nd, rfl⟩⟩; refine ⟨_, rfl, ?_⟩) | ((with_reducible refine gate_dst (N := 17) rfl ?_); refine Kd.R_make Kd.bool _ 4 rfl (N := 17) rfl 54 _ _ rfl 51 rfl rfl Try.underlying54 (.bool false) 1 info4 rfl (by decide) (by omega) false (ok := fun _ => True) (okp := fun _ => True) rfl (fun _ hk => hk) trivial (by omega) (by omega) (Below.refl _ _) (Nat.le_refl _) ?_; intro v466 w10 ho11 hb hg_ hnew_; clear hg_ hnew_; (first | rw [← Ny465.out] at ho11 | (simp only [Int.reduceToNat] at ho11; rw [← Ny465.out] at ho11)); have n0_ := Aside0.mk (Kd.R_below (by (with_reducible repeat (first | apply Kd.R_alloc | apply Kd.R_drewN | apply Kd.R_drew)); exact HO463.out) hb); have n1_ := Aside0.mk (Kd.R_lower ho11 (below_size (by repeat (first | (with_reducible first | exact HB.out | apply below_alloc | apply pw_below_drewN | apply below_drew1) | exact HB.out)))); have n2_ := Aside0.mk (below_step (by repeat (first | (with_reducible first | exact HB.out | apply below_alloc | apply pw_below_drewN | apply below_drew1) | exact HB.out)) hb); clear HO463 HB; have HO463 := n0_; have HO467 := n1_; have HB := n2_; clear n0_ n1_ n2_; clear hb ho11) | ((with_reducible refine gate_dst (N := 18) rfl ?_); refine Kd.R_make Kd.bool _ 4 rfl (N := 18) rfl 54 _ _ rfl 51 rfl rfl Try.underlying54 (.bool false) 1 info4 rfl (by decide) (by omega) false (ok := fun _ => True) (okp := fun _ => True) rfl (fun _ hk => hk) trivial (by omega) (by omega) (Below.refl _ _) (Nat.le_refl _) ?_; intro v469 w12 ho13 hb hg_ hnew_; clear hg_ hnew_; (first | rw [← Ny468.out] at ho13 | (simp only [Int.reduceToNat] at ho13; rw [← Ny468.out] at ho13)); have n0_ := Aside0.mk (Kd.R_below (by (with_reducible repeat (first | apply Kd.R_alloc | apply Kd.R_drewN | apply Kd.R_drew)); exact HO463.out) hb); have n1_ := Aside0.mk (Kd.R_elder' (by (with_reducible repeat (first | apply Kd.R_alloc | apply Kd.R_drewN | apply Kd.R_drew)); exact HO467.out) (Kd.R_base ho13) hb); have n2_ := Aside0.mk (Kd.R_lower (Kd.R_new' ho13 (Kd.R_lt (by (with_reducible repeat (first | apply Kd.R_alloc | apply Kd.R_drewN | apply Kd.R_drew)); exact HO467.out))) (below_size (by repeat (first | (with_reducible first | exact HB.out | apply below_alloc | apply pw_below_drewN | apply below_drew1) | exact HB.out)))); have n3_ := Aside0.mk (below_step (by repeat (first | (with_reducible first | exact HB.out | apply below_alloc | apply pw_below_drewN | apply below_drew1) | exact HB.out)) hb); clear HO463 HO467 HB; have HO463 := n0_; have HO467 := n1_; have HO470 := n2_; have HB := n3_; clear n0_ n1_ n2_ n3_; clear hb ho13) | ((with_reducible refine gate_callee (f := 14) rfl ?_); refine goesL_ (some 21) rfl rfl Try.func14 (by kernel_rfl) rfl #[.slice A0 l0.length c0, .int .i64 a1] rfl (by (try simp only [List.map_toArray, List.map_cons, List.map_nil]); first | done | rfl | (simp only [List.length_drop, List.length_take]; rfl)) ?_; (with_reducible refine (spec_BreadsOf.calls k _ _ l0 a1 t471 _ ?side1 ?side2 A6.out).mono ?_); (case side1 => repeat (first | exact (Kd.C_below HR0.out HB.out) | (with_reducible refine Kd.C_alloc ?_ _) | (with_reducible refine Kd.C_drewN ?_ _) | (with_reducible refine Kd.C_drew ?_))); (case side2 => exact HC0.out); rintro e w14 ⟨v472, rfl, ho0, hb⟩; refine ⟨_, rfl, ?_⟩; have n0_ := Aside0.mk (Kd.R_elder' (by (with_reducible repeat (first | apply Kd.R_alloc | apply Kd.R_drewN | apply Kd.R_drew)); exact HO463.out) (Kd.R_base ho0) hb); have n1_ := Aside0.mk (Kd.R_below (by (with_reducible repeat (first | apply Kd.R_alloc | apply Kd.R_drewN | apply Kd.R_drew)); exact HO467.out) hb); have n2_ := Aside0.mk (Kd.R_below (by (with_reducible repeat (first | apply Kd.R_alloc | apply Kd.R_drewN | apply Kd.R_drew)); exact HO470.out) hb); have n3_ := Aside0.mk (Kd.R_lower (Kd.R_new' ho0 (Kd.R_lt (by (with_reducible repeat (first | apply Kd.R_alloc | apply Kd.R_drewN | apply Kd.R_drew)); exact HO463.out))) (below_size (by repeat (first | (with_reducible first | exact HB.out | apply below_alloc | apply pw_below_drewN | apply below_drew1) | exact HB.out)))); have n4_ := Aside0.mk (below_step (by repeat (first | (with_reducible first | exact HB.out | apply below_alloc | apply pw_below_drewN | apply below_drew1) | exact HB.out)) hb); clear HO463 HO467 HO470 HB; have HO463 := n0_; have HO467 := n1_; have HO470 := n2_; have HO473 := n3_; have HB := n4_; clear n0_ n1_ n2_ n3_ n4_; (try clear hb); (try clear hb2); (try clear hk); (try clear hi); (try clear ho0); obtain ⟨Ao15, co15, eo15⟩ := Kd.R_slice HO473.out; subst eo15))
   (try simp only [Act.put, List.setIfInBounds_toArray, List.set_cons_zero, List.set_cons_succ])
   go_cut [] (fun wc => ∃ (kq : Nat) (x6_6 : List Bool), Aside0 (spec_Reached.j0 kq l0 y461 x6_6 y468 = some r) ∧ Aside0 (kq ≤ k) ∧ Aside0 (Kd.R (Kd.int .i64) 3 wc w.heap.size (fun _ => True) v462 y461) ∧ Aside0 (Kd.R Kd.bool 4 wc w.heap.size (fun k_ => some k_ ≠ (v469 : Value).ownBlock) v466 x6_6) ∧ Aside0 (Kd.R Kd.bool 4 wc w.heap.size (fun k_ => some k_ ≠ (v466 : Value).ownBlock) v469 y468) ∧ Aside0 (Below w.heap.size w wc))
   case first =>
    have H := HC7.out
    clear HC7
    by_cases c16 : (t471.length : Int) > 0
    ·rw [if_pos c16] at H
     have c16b0 : decide (0 < (t471.length : Int)) = true := decide_eq_true c16
     have c16b1 : decide (0 < t471.length) = true := decide_eq_true (by omega)
     clear c16
     (first | rw [c16b0] | (simp only [i64_w, i32_w]; rw [c16b0]) | rw [c16b1] | skip)
     by_cases c17 : 0 ≤ a1
     ·rw [if_pos c17] at H
      have c17b0 : decide (0 ≤ a1) = true := decide_eq_true c17
      clear c17
      by_cases c18 : a1 < (y465.length : Int)
      ·rw [if_pos c18] at H
       have c18b0 : decide (a1 < (y465.length : Int)) = true := decide_eq_true c18
       clear c18
       obtain ⟨y474, hy474⟩ : ∃ y_ : List Bool, y_ = (y465.set (a1 : Int).toNat true) := ⟨_, rfl⟩
       replace H : (spec_Reached.j0 k l0 y461 y474 y468) = some r := by first | (rw [hy474]; with_reducible exact H) | (have H2_ := (Option.bind_some _ _).symm.trans H; rw [hy474]; with_reducible exact H2_) | (have H2_ := (Option.bind_some _ _).symm.trans H; with_reducible exact H2_) | with_reducible exact H | (rw [hy474]; exact H) | exact H
       have Ny474 := Aside0.mk hy474
       clear hy474
       have H' := Aside0.mk H
       clear H
       have p19 : 0 ≤ (a1 : Int) := of_decide_eq_true (by first | (with_reducible assumption) | assumption)
       have q19 : (a1 : Int) < ((y465.length : Int) : Int) := of_decide_eq_true (by first | (with_reducible assumption) | assumption)
       obtain ⟨go19, co19, eo19, gb19, gl19, cl19, HG19⟩ := Kd.R_form HO467.out (by omega)
       (first | cases eo19 | (injection eo19 with ea_ en_ ec_; (first | subst ea_ | (injection ea_ with ea_; subst ea_)); subst ec_; clear en_))
       have GB19 := Aside0.mk gb19
       have GG19 := Aside0.mk HG19
       clear gb19 gl19 HG19
       obtain ⟨hx19_0, hf19_0⟩ := Kd.R_celln false HO467.out (a1 : Int) p19 q19
       replace p19 := eq_true p19
       replace q19 := eq_true q19
       have n_ := Aside0.mk (Kd.R_mono (ok' := (fun k_ => some k_ ≠ (v469 : Value).ownBlock)) HO467.out (fun k_ hk => hk.2))
       clear HO467
       have HO467 := n_
       clear n_
       have HP20 := Kd.R_putg HO467.out (a1 : Int) true
       go_wp2_with (first | ((with_reducible refine gate_store (t := 4) (p := 26) rfl ?_); refine store_event (t := 4) (p := 26) (v := ?vo_w21) (w1 := (w14.setCell ⟨go19, (a1 : Int).toNat, none⟩ (.bool true))) ?hg ?ho ?hn ?hr ?_; (case ho => rfl); (case hg => rfl); (case hn => rfl); (case hr => first | (go_simp; done) | (go_simp; rfl)); intro w21 hw; have hg : w14.grownBy w21 (some go19) := (by rw [hw]; exact HP20.2); have hp_ : Kd.R Kd.bool 4 w21 w.heap.size (fun k_ => some k_ ≠ (v469 : Value).ownBlock) (.slice (some ⟨go19, 0, none⟩) y465.length co19) y474 := (by rw [hw, Ny474.out]; exact HP20.1); clear HP20; have n0_ := Aside0.mk (Kd.R_over' (v := (.slice (some ⟨go19, 0, none⟩) y465.length co19)) (by (with_reducible repeat (first | apply Kd.R_alloc | apply Kd.R_drewN | apply Kd.R_drew)); exact HO463.out) (Kd.R_typed HO467.out) (by decide) hg); have n1_ := Aside0.mk (hp_); have n2_ := Aside0.mk (Kd.R_after (v := (.slice (some ⟨go19, 0, none⟩) y465.length co19)) (v1 := (.slice (some ⟨go19, 0, none⟩) y465.length co19)) (ok := (fun _ => True)) (by (with_reducible repeat (first | apply Kd.R_alloc | apply Kd.R_drewN | apply Kd.R_drew)); exact HO470.out) hg (.inl rfl)); have n3_ := Aside0.mk (Kd.R_over' (v := (.slice (some ⟨go19, 0, none⟩) y465.length co19)) (by (with_reducible repeat (first | apply Kd.R_alloc | apply Kd.R_drewN | apply Kd.R_drew)); exact HO473.out) (Kd.R_typed HO467.out) (by decide) hg); have n4_ := Aside0.mk ((by rw [hw]; exact below_set (HB.out) GB19.out : Below w.heap.size w w21)); clear HO463 HO467 HO470 HO473 HB; have HO463 := n0_; have HO467 := n1_; have HO470 := n2_; have HO473 := n3_; have HB := n4_; clear n0_ n1_ n2_ n3_ n4_; clear hg hw hp_))
       go_meet
       case rel => exact ⟨_, (y474), H', ⟨by first | omega | exact Nat.le_refl _⟩, ⟨by (with_reducible repeat (first | apply Kd.R_alloc | apply Kd.R_drewN | apply Kd.R_drew)); exact Kd.R_mono HO463.out (fun _ hk => trivial)⟩, ⟨by (with_reducible repeat (first | apply Kd.R_alloc | apply Kd.R_drewN | apply Kd.R_drew)); exact HO467.out⟩, ⟨by (with_reducible repeat (first | apply Kd.R_alloc | apply Kd.R_drewN | apply Kd.R_drew)); exact Kd.R_mono HO470.out (fun _ hk => hk.2)⟩, ⟨by repeat (first | (with_reducible first | exact HB.out | apply below_alloc | apply pw_below_drewN | apply below_drew1) | exact HB.out)⟩⟩
      ·rw [if_neg c18] at H
       exact absurd H (by simp)
     ·rw [if_neg c17] at H
      exact absurd H (by simp)
    ·rw [if_neg c16] at H
     have c16b0 : decide (0 < (t471.length : Int)) = false := decide_eq_false c16
     have c16b1 : decide (0 < t471.length) = false := decide_eq_false (by omega)
     clear c16
     (first | rw [c16b0] | (simp only [i64_w, i32_w]; rw [c16b0]) | rw [c16b1] | skip)
     have H' := Aside0.mk H
     clear H
     go_wp2
     go_meet
     case rel => exact ⟨_, (y465), H', ⟨by first | omega | exact Nat.le_refl _⟩, ⟨by (with_reducible repeat (first | apply Kd.R_alloc | apply Kd.R_drewN | apply Kd.R_drew)); exact Kd.R_mono HO463.out (fun _ hk => trivial)⟩, ⟨by (with_reducible repeat (first | apply Kd.R_alloc | apply Kd.R_drewN | apply Kd.R_drew)); exact Kd.R_mono HO467.out (fun _ hk => hk.2)⟩, ⟨by (with_reducible repeat (first | apply Kd.R_alloc | apply Kd.R_drewN | apply Kd.R_drew)); exact Kd.R_mono HO470.out (fun _ hk => hk.2)⟩, ⟨by repeat (first | (with_reducible first | exact HB.out | apply below_alloc | apply pw_below_drewN | apply below_drew1) | exact HB.out)⟩⟩
   case rest =>
    clear HC7
    try clear c1
    try clear p1
    try clear q1
    try clear hx1
    try clear p2
    try clear c3
    try clear c4
    try clear c5
    try clear c5b0
    try clear c5b1
    try clear c14
    try clear c16
    try clear c16b0
    try clear c16b1
    try clear c17
    try clear c17b0
    try clear c18
    try clear c18b0
    try clear p19
    try clear q19
    try clear hx19
    try clear hf19
    try clear hx19_0
    try clear p19
    try clear q19
    obtain ⟨kq, x6_6, HA, HJ6, HO_5, HO_6, HO_7, HB⟩ := hcut
    cases kq with
    | zero => exact absurd HA.out (by simp [spec_Reached.j0])
    | succ kj6 =>
     have H := HA.out
     clear HA
     simp only [spec_Reached.j0] at H
     have H' := Aside0.mk H
     clear H
     go_wp2
     go_loopg [8] kj6 (fun kq v8 w' => ∃ (x6_2 : List Bool) (x7_2 : List Bool) (x8_2 : Int), v8 = .int .i64 x8_2 ∧ Aside0 (spec_Reached.l0 kq l0 y461 x6_2 x7_2 x8_2 = some r) ∧ Aside0 (kq ≤ kj6) ∧ Aside0 (Kd.R (Kd.int .i64) 3 w' w.heap.size (fun _ => True) v462 y461) ∧ Aside0 (Kd.R Kd.bool 4 w' w.heap.size (fun k_ => some k_ ≠ (v469 : Value).ownBlock) v466 x6_2) ∧ Aside0 (Kd.R Kd.bool 4 w' w.heap.size (fun k_ => some k_ ≠ (v466 : Value).ownBlock) v469 x7_2) ∧ Aside0 (Below w.heap.size w w'))
     case atStart => exact ⟨(x6_6), (y468), (0), (by first | rfl | (simp; done) | (simp [*]; done)), H', ⟨Nat.le_refl _⟩, ⟨by (with_reducible repeat (first | apply Kd.R_alloc | apply Kd.R_drewN | apply Kd.R_drew)); exact HO_5.out⟩, ⟨by (with_reducible repeat (first | apply Kd.R_alloc | apply Kd.R_drewN | apply Kd.R_drew)); exact HO_6.out⟩, ⟨by (with_reducible repeat (first | apply Kd.R_alloc | apply Kd.R_drewN | apply Kd.R_drew)); exact HO_7.out⟩, ⟨by repeat (first | (with_reducible first | exact HB.out | apply below_alloc | apply pw_below_drewN | apply below_drew1) | exact HB.out)⟩⟩
     case round =>
      clear H'
      try clear c1
      try clear p1
      try clear q1
      try clear hx1
      try clear p2
      try clear c3
      try clear c4
      try clear c5
      try clear c5b0
      try clear c5b1
      try clear c14
      try clear c16
      try clear c16b0
      try clear c16b1
      try clear c17
      try clear c17b0
      try clear c18
      try clear c18b0
      try clear p19
      try clear q19
      try clear hx19
      try clear hf19
      try clear hx19_0
      try clear p1
      try clear p19
      try clear p2
      try clear q1
      try clear q19
      obtain ⟨x6_2, x7_2, x8_2, rfl, HA, HK2, HO_5, HO_6, HO_7, HB⟩ := hrel
      cases gk with
      | zero => exact absurd HA.out (by simp [spec_Reached.l0])
      | succ k2 =>
       have H := HA.out
       clear HA
       simp only [spec_Reached.l0] at H
       by_cases c22 : x8_2 < 60
       ·rw [if_pos c22] at H
        have c22b0 : decide (x8_2 < 60) = true := decide_eq_true c22
        clear c22
        have H' := Aside0.mk H
        clear H
        go_wp2
        go_loopg [9] k2 (fun kq v9 w' => ∃ (x6_3 : List Bool) (x7_3 : List Bool) (x9_3 : Int), v9 = .int .i64 x9_3 ∧ Aside0 (spec_Reached.l1 kq l0 y461 x6_3 x7_3 x8_2 x9_3 = some r) ∧ Aside0 (kq ≤ k2) ∧ Aside0 (Kd.R (Kd.int .i64) 3 w' w.heap.size (fun _ => True) v462 y461) ∧ Aside0 (Kd.R Kd.bool 4 w' w.heap.size (fun k_ => some k_ ≠ (v469 : Value).ownBlock) v466 x6_3) ∧ Aside0 (Kd.R Kd.bool 4 w' w.heap.size (fun k_ => some k_ ≠ (v466 : Value).ownBlock) v469 x7_3) ∧ Aside0 (Below w.heap.size w w'))
        case atStart => exact ⟨(x6_2), (x7_2), (0), (by first | rfl | (simp; done) | (simp [*]; done)), H', ⟨Nat.le_refl _⟩, ⟨by (with_reducible repeat (first | apply Kd.R_alloc | apply Kd.R_drewN | apply Kd.R_drew)); exact HO_5.out⟩, ⟨by (with_reducible repeat (first | apply Kd.R_alloc | apply Kd.R_drewN | apply Kd.R_drew)); exact HO_6.out⟩, ⟨by (with_reducible repeat (first | apply Kd.R_alloc | apply Kd.R_drewN | apply Kd.R_drew)); exact HO_7.out⟩, ⟨by repeat (first | (with_reducible first | exact HB.out | apply below_alloc | apply pw_below_drewN | apply below_drew1) | exact HB.out)⟩⟩
        case round =>
         clear H'
         try clear c1
         try clear p1
         try clear q1
         try clear hx1
         try clear c2
         try clear p2
         try clear c3
         try clear c4
         try clear c5
         try clear c5b0
         try clear c5b1
         try clear c14
         try clear c16
         try clear c16b0
         try clear c16b1
         try clear c17
         try clear c17b0
         try clear c18
         try clear c18b0
         try clear p19
         try clear q19
         try clear hx19
         try clear hf19
         try clear c22
         try clear c22b0
         try clear hx19_0
         try clear p1
         try clear p19
         try clear p2
         try clear q1
         try clear q19
         obtain ⟨x6_3, x7_3, x9_3, rfl, HA, HK3, HO_5, HO_6, HO_7, HB⟩ := hrel
         cases gk with
         | zero => exact absurd HA.out (by simp [spec_Reached.l1])
         | succ k3 =>
          have H := HA.out
          clear HA
          simp only [spec_Reached.l1] at H
          by_cases c23 : x9_3 < (l0.length : Int)
          ·rw [if_pos c23] at H
           have c23b0 : decide (x9_3 < (l0.length : Int)) = true := decide_eq_true c23
           clear c23
           by_cases c24 : 0 ≤ x9_3
           ·rw [if_pos c24] at H
            have c24b0 : decide (0 ≤ x9_3) = true := decide_eq_true c24
            clear c24
            by_cases c25 : 0 ≤ ((rd_T39 l0 x9_3).f0)
            ·rw [if_pos c25] at H
             have c25b0 : decide (0 ≤ ((rd_T39 l0 x9_3).f0)) = true := decide_eq_true c25
             clear c25
             by_cases c26 : ((rd_T39 l0 x9_3).f0) < (x6_3.length : Int)
             ·rw [if_pos c26] at H
              have c26b0 : decide (((rd_T39 l0 x9_3).f0) < (x6_3.length : Int)) = true := decide_eq_true c26
              clear c26
              obtain ⟨bq27, hbq27⟩ : ∃ b_ : Bool, b_ = (rdOf false x6_3 ((rd_T39 l0 x9_3).f0)) := ⟨_, rfl⟩
              replace H : (if bq27 = true then (if 0 ≤ ((rd_T39 l0 x9_3).f1) then (if ((rd_T39 l0 x9_3).f1) < (x7_3.length : Int) then (spec_Reached.l1 k3 l0 y461 (x6_3.set (((rd_T39 l0 x9_3).f0) : Int).toNat true) (x7_3.set (((rd_T39 l0 x9_3).f1) : Int).toNat true) x8_2 (wrap64 (x9_3 + 1))) else (none)) else (none)) else (if 0 ≤ ((rd_T39 l0 x9_3).f1) then (if ((rd_T39 l0 x9_3).f1) < (x7_3.length : Int) then (if rdOf false x7_3 ((rd_T39 l0 x9_3).f1) = true then (spec_Reached.l1 k3 l0 y461 (x6_3.set (((rd_T39 l0 x9_3).f0) : Int).toNat true) (x7_3.set (((rd_T39 l0 x9_3).f1) : Int).toNat true) x8_2 (wrap64 (x9_3 + 1))) else (spec_Reached.l1 k3 l0 y461 x6_3 x7_3 x8_2 (wrap64 (x9_3 + 1)))) else (none)) else (none))) = some r := by rw [← hbq27] at H; exact H
              have Nbq27 := Aside0.mk hbq27
              clear hbq27
              by_cases c28 : bq27 = true
              ·subst c28
               have H1 : (if 0 ≤ ((rd_T39 l0 x9_3).f1) then (if ((rd_T39 l0 x9_3).f1) < (x7_3.length : Int) then (spec_Reached.l1 k3 l0 y461 (x6_3.set (((rd_T39 l0 x9_3).f0) : Int).toNat true) (x7_3.set (((rd_T39 l0 x9_3).f1) : Int).toNat true) x8_2 (wrap64 (x9_3 + 1))) else (none)) else (none)) = some r := by rw [if_pos rfl] at H; exact H
               clear H
               have H := H1
               clear H1
               obtain ⟨y478, hy478⟩ : ∃ y_ : List Bool, y_ = (x6_3.set (((rd_T39 l0 x9_3).f0) : Int).toNat true) := ⟨_, rfl⟩
               replace H : (if 0 ≤ ((rd_T39 l0 x9_3).f1) then (if ((rd_T39 l0 x9_3).f1) < (x7_3.length : Int) then (spec_Reached.l1 k3 l0 y461 y478 (x7_3.set (((rd_T39 l0 x9_3).f1) : Int).toNat true) x8_2 (wrap64 (x9_3 + 1))) else (none)) else (none)) = some r := by first | (rw [hy478]; with_reducible exact H) | (have H2_ := (Option.bind_some _ _).symm.trans H; rw [hy478]; with_reducible exact H2_) | (have H2_ := (Option.bind_some _ _).symm.trans H; with_reducible exact H2_) | with_reducible exact H | (rw [hy478]; exact H) | exact H
               have Ny478 := Aside0.mk hy478
               clear hy478
               by_cases c30 : 0 ≤ ((rd_T39 l0 x9_3).f1)
               ·rw [if_pos c30] at H
                have c30b0 : decide (0 ≤ ((rd_T39 l0 x9_3).f1)) = true := decide_eq_true c30
                clear c30
                by_cases c31 : ((rd_T39 l0 x9_3).f1) < (x7_3.length : Int)
                ·rw [if_pos c31] at H
                 have c31b0 : decide (((rd_T39 l0 x9_3).f1) < (x7_3.length : Int)) = true := decide_eq_true c31
                 clear c31
                 obtain ⟨y479, hy479⟩ : ∃ y_ : List Bool, y_ = (x7_3.set (((rd_T39 l0 x9_3).f1) : Int).toNat true) := ⟨_, rfl⟩
                 replace H : (spec_Reached.l1 k3 l0 y461 y478 y479 x8_2 (wrap64 (x9_3 + 1))) = some r := by first | (rw [hy479]; with_reducible exact H) | (have H2_ := (Option.bind_some _ _).symm.trans H; rw [hy479]; with_reducible exact H2_) | (have H2_ := (Option.bind_some _ _).symm.trans H; with_reducible exact H2_) | with_reducible exact H | (rw [hy479]; exact H) | exact H
                 have Ny479 := Aside0.mk hy479
                 clear hy479
                 have H' := Aside0.mk H
                 clear H
                 have p475 : 0 ≤ (x9_3 : Int) := of_decide_eq_true (by first | (with_reducible assumption) | assumption)
                 have q475 : x9_3 < (l0.length : Int) := of_decide_eq_true (by first | (with_reducible assumption) | assumption)
                 obtain ⟨ad475, e475, hx475_0, hx475_1, hx475_2⟩ := at_T39 HR0.out x9_3 p475 q475
                 cases e475
                 replace hx475_0 := (HB.out.cell (World.block_lt_of_cell? w _ hx475_0)).trans hx475_0
                 replace hx475_1 := (HB.out.cell (World.block_lt_of_cell? w _ hx475_1)).trans hx475_1
                 replace hx475_2 := (HB.out.cell (World.block_lt_of_cell? w _ hx475_2)).trans hx475_2
                 replace p475 := eq_true p475
                 replace q475 := eq_true q475
                 go_wp2_with (first | ((with_reducible refine gate_dst (N := 10) rfl ?_); refine box_event ?hg (N := 10) ?hd (cs := #[.int .i64 0, .int .i64 0, .int .i64 0]) (t := 39) ?hr ?_; (case hd => rfl); (case hg => rfl); (case hr => first | (go_simp; done) | (go_simp; rfl)); intro gb476 hg w33 hbox hb; have n0_ := Aside0.mk (Kd.R_below (by (with_reducible repeat (first | apply Kd.R_alloc | apply Kd.R_drewN | apply Kd.R_drew)); exact HO_5.out) hb); have n1_ := Aside0.mk (Kd.R_below (by (with_reducible repeat (first | apply Kd.R_alloc | apply Kd.R_drewN | apply Kd.R_drew)); exact HO_6.out) hb); have n2_ := Aside0.mk (Kd.R_below (by (with_reducible repeat (first | apply Kd.R_alloc | apply Kd.R_drewN | apply Kd.R_drew)); exact HO_7.out) hb); have n3_ := Aside0.mk (below_step (by repeat (first | (with_reducible first | exact HB.out | apply below_alloc | apply pw_below_drewN | apply below_drew1) | exact HB.out)) hb); have n4_ := Aside0.mk (hbox); have n5_ := Aside0.mk ((by rw [hg]; exact (below_size (by repeat (first | (with_reducible first | exact HB.out | apply below_alloc | apply pw_below_drewN | apply below_drew1) | exact HB.out))) : w.heap.size ≤ gb476)); have n6_ := Aside0.mk ((by rw [hg]; exact (below_size (by repeat (first | (with_reducible first | exact HB.out | apply below_alloc | apply pw_below_drewN | apply below_drew1) | exact HB.out))) : w.heap.size ≤ gb476)); clear HO_5 HO_6 HO_7 HB; have HO_5 := n0_; have HO_6 := n1_; have HO_7 := n2_; have HB := n3_; have BK476 := n4_; have GW476 := n5_; have GE476 := n6_; clear n0_ n1_ n2_ n3_ n4_ n5_ n6_; clear hb hbox hg; have hcz34_0 : w33.cell? ⟨gb476, 0, none⟩ = some (.int .i64 0) := (blk_cell BK476.out 0).trans rfl; have hcz34_1 : w33.cell? ⟨gb476, 1, none⟩ = some (.int .i64 0) := (blk_cell BK476.out 1).trans rfl; have hcz34_2 : w33.cell? ⟨gb476, 2, none⟩ = some (.int .i64 0) := (blk_cell BK476.out 2).trans rfl; have hfz34_0 := blk_frozen BK476.out 0; have hfz34_1 := blk_frozen BK476.out 1; have hfz34_2 := blk_frozen BK476.out 2) | ((with_reducible refine gate_store (t := 39) (p := 10) rfl ?_); refine store_event (t := 39) (p := 10) (v := ?vo_w35) (w1 := (((w33.setCell ⟨gb476, 0, none⟩ (.int .i64 ((rd_T39 l0 x9_3).f0))).setCell ⟨gb476, 1, none⟩ (.int .i64 ((rd_T39 l0 x9_3).f1))).setCell ⟨gb476, 2, none⟩ (.int .i64 ((rd_T39 l0 x9_3).f2)))) ?hg ?ho ?hn ?hr ?_; (case ho => rfl); (case hg => rfl); (case hn => rfl); (case hr => first | (go_simp; done) | (go_simp; rfl)); intro w35 hw; have n0_ : Aside0 (Kd.R (Kd.int .i64) 3 w35 w.heap.size (fun _ => True) v462 y461) := ⟨(by rw [hw]; exact (by (with_reducible repeat (first | apply Kd.R_alloc | apply Kd.R_drewN | apply Kd.R_drew)); exact Kd.R_mono (Kd.R_far (p := ⟨gb476, 2, none⟩) (Kd.R_far (p := ⟨gb476, 1, none⟩) (Kd.R_far (p := ⟨gb476, 0, none⟩) (Kd.R_types HO_5.out BK476.out (by decide)) (fun _ hk => hk.2) (.int .i64 ((rd_T39 l0 x9_3).f0))) (fun _ hk => hk.2) (.int .i64 ((rd_T39 l0 x9_3).f1))) (fun _ hk => hk.2) (.int .i64 ((rd_T39 l0 x9_3).f2))) (fun _ hk => trivial)))⟩; have n1_ : Aside0 (Kd.R Kd.bool 4 w35 w.heap.size (fun k_ => some k_ ≠ (v469 : Value).ownBlock) v466 x6_3) := ⟨(by rw [hw]; exact (by (with_reducible repeat (first | apply Kd.R_alloc | apply Kd.R_drewN | apply Kd.R_drew)); exact Kd.R_mono (Kd.R_far (p := ⟨gb476, 2, none⟩) (Kd.R_far (p := ⟨gb476, 1, none⟩) (Kd.R_far (p := ⟨gb476, 0, none⟩) (Kd.R_types HO_6.out BK476.out (by decide)) (fun _ hk => hk.2) (.int .i64 ((rd_T39 l0 x9_3).f0))) (fun _ hk => hk.2) (.int .i64 ((rd_T39 l0 x9_3).f1))) (fun _ hk => hk.2) (.int .i64 ((rd_T39 l0 x9_3).f2))) (fun _ hk => hk.1)))⟩; have n2_ : Aside0 (Kd.R Kd.bool 4 w35 w.heap.size (fun k_ => some k_ ≠ (v466 : Value).ownBlock) v469 x7_3) := ⟨(by rw [hw]; exact (by (with_reducible repeat (first | apply Kd.R_alloc | apply Kd.R_drewN | apply Kd.R_drew)); exact Kd.R_mono (Kd.R_far (p := ⟨gb476, 2, none⟩) (Kd.R_far (p := ⟨gb476, 1, none⟩) (Kd.R_far (p := ⟨gb476, 0, none⟩) (Kd.R_types HO_7.out BK476.out (by decide)) (fun _ hk => hk.2) (.int .i64 ((rd_T39 l0 x9_3).f0))) (fun _ hk => hk.2) (.int .i64 ((rd_T39 l0 x9_3).f1))) (fun _ hk => hk.2) (.int .i64 ((rd_T39 l0 x9_3).f2))) (fun _ hk => hk.1)))⟩; have n3_ : Aside0 (w35.heap[gb476]? = some (.cells #[.int .i64 ((rd_T39 l0 x9_3).f0), .int .i64 ((rd_T39 l0 x9_3).f1), .int .i64 ((rd_T39 l0 x9_3).f2)] 39 (0, 0))) := ⟨(by rw [hw]; exact (by (with_reducible repeat (first | refine blk_drewN ?_ _ | refine blk_drew ?_ | refine blk_alloc ?_ _)); refine blk_put (cs := #[.int .i64 ((rd_T39 l0 x9_3).f0), .int .i64 ((rd_T39 l0 x9_3).f1), .int .i64 0]) ?_ 2 _ rfl; (with_reducible repeat (first | refine blk_drewN ?_ _ | refine blk_drew ?_ | refine blk_alloc ?_ _)); refine blk_put (cs := #[.int .i64 ((rd_T39 l0 x9_3).f0), .int .i64 0, .int .i64 0]) ?_ 1 _ rfl; (with_reducible repeat (first | refine blk_drewN ?_ _ | refine blk_drew ?_ | refine blk_alloc ?_ _)); refine blk_put (cs := #[.int .i64 0, .int .i64 0, .int .i64 0]) ?_ 0 _ rfl; (with_reducible repeat (first | refine blk_drewN ?_ _ | refine blk_drew ?_ | refine blk_alloc ?_ _)); exact BK476.out))⟩; have n4_ : Aside0 (Below w.heap.size w w35) := ⟨(by rw [hw]; exact (by repeat (first | (with_reducible first | exact HB.out | apply below_alloc | apply pw_below_drewN | apply below_drew1 | refine below_set ?_ GE476.out) | exact HB.out)))⟩; clear hw HO_5 HO_6 HO_7 BK476 HB; have HO_5 := n0_; have HO_6 := n1_; have HO_7 := n2_; have BK476 := n3_; have HB := n4_; clear n0_ n1_ n2_ n3_ n4_; have hcz36_0 : w35.cell? ⟨gb476, 0, none⟩ = some (.int .i64 ((rd_T39 l0 x9_3).f0)) := (blk_cell BK476.out 0).trans rfl; have hcz36_1 : w35.cell? ⟨gb476, 1, none⟩ = some (.int .i64 ((rd_T39 l0 x9_3).f1)) := (blk_cell BK476.out 1).trans rfl; have hcz36_2 : w35.cell? ⟨gb476, 2, none⟩ = some (.int .i64 ((rd_T39 l0 x9_3).f2)) := (blk_cell BK476.out 2).trans rfl; have hfz36_0 := blk_frozen BK476.out 0; have hfz36_1 := blk_frozen BK476.out 1; have hfz36_2 := blk_frozen BK476.out 2; obtain ⟨Ao37, co37, eo37⟩ := Kd.R_slice HO_6.out; subst eo37; have p477 : 0 ≤ (((rd_T39 l0 x9_3).f0) : Int) := of_decide_eq_true (by first | (with_reducible assumption) | assumption); have q477 : ((rd_T39 l0 x9_3).f0) < (x6_3.length : Int) := of_decide_eq_true (by first | (with_reducible assumption) | assumption); obtain ⟨ad477, e477, hx477_0⟩ := Kd.at_bool (Kd.R_reads' HO_6.out).2.2 ((rd_T39 l0 x9_3).f0) p477 q477; (try rw [← Nbq27.out] at hx477_0); cases e477; replace p477 := eq_true p477; replace q477 := eq_true q477; have p29 : 0 ≤ (((rd_T39 l0 x9_3).f0) : Int) := of_decide_eq_true (by first | (with_reducible assumption) | assumption); have q29 : (((rd_T39 l0 x9_3).f0) : Int) < ((x6_3.length : Int) : Int) := of_decide_eq_true (by first | (with_reducible assumption) | assumption); obtain ⟨go29, co29, eo29, gb29, gl29, cl29, HG29⟩ := Kd.R_form HO_6.out (by omega); (first | cases eo29 | (injection eo29 with ea_ en_ ec_; (first | subst ea_ | (injection ea_ with ea_; subst ea_)); subst ec_; clear en_)); have GB29 := Aside0.mk gb29; have GG29 := Aside0.mk HG29; clear gb29 gl29 HG29; (first | simp only [add_plain] at hx477_0 | skip); obtain ⟨hx29_0, hf29_0⟩ := Kd.R_celln false HO_6.out (((rd_T39 l0 x9_3).f0) : Int) p29 q29; replace p29 := eq_true p29; replace q29 := eq_true q29; obtain ⟨hy38_, hz38_⟩ := Kd.R_celln false HO_6.out (((rd_T39 l0 x9_3).f0) : Int) (of_decide_eq_true (by first | (with_reducible assumption) | assumption)) (of_decide_eq_true (by first | (with_reducible assumption) | assumption)); have HP38 := Kd.R_putg HO_6.out (((rd_T39 l0 x9_3).f0) : Int) true) | ((with_reducible refine gate_store (t := 4) (p := 56) rfl ?_); refine store_event (t := 4) (p := 56) (v := ?vo_w39) (w1 := (w35.setCell ⟨go29, (((rd_T39 l0 x9_3).f0) : Int).toNat, none⟩ (.bool true))) ?hg ?ho ?hn ?hr ?_; (case ho => rfl); (case hg => rfl); (case hn => rfl); (case hr => first | (go_simp; done) | (go_simp; rfl)); intro w39 hw; have hg : w35.grownBy w39 (some go29) := (by rw [hw]; exact HP38.2); have hp_ : Kd.R Kd.bool 4 w39 w.heap.size (fun k_ => some k_ ≠ (v469 : Value).ownBlock) (.slice (some ⟨go29, 0, none⟩) x6_3.length co37) y478 := (by rw [hw, Ny478.out]; exact HP38.1); clear HP38; have n0_ := Aside0.mk (Kd.R_over' (v := (.slice (some ⟨go29, 0, none⟩) x6_3.length co37)) (by (with_reducible repeat (first | apply Kd.R_alloc | apply Kd.R_drewN | apply Kd.R_drew)); exact HO_5.out) (Kd.R_typed HO_6.out) (by decide) hg); have n1_ := Aside0.mk (hp_); have n2_ := Aside0.mk (Kd.R_after (v := (.slice (some ⟨go29, 0, none⟩) x6_3.length co37)) (v1 := (.slice (some ⟨go29, 0, none⟩) x6_3.length co37)) (ok := (fun _ => True)) (by (with_reducible repeat (first | apply Kd.R_alloc | apply Kd.R_drewN | apply Kd.R_drew)); exact Kd.R_mono HO_7.out (fun _ hk => ⟨trivial, hk⟩)) hg (.inl rfl)); have n3_ := Aside0.mk (blk_grown (g := gb476) (o := .cells #[.int .i64 ((rd_T39 l0 x9_3).f0), .int .i64 ((rd_T39 l0 x9_3).f1), .int .i64 ((rd_T39 l0 x9_3).f2)] 39 (0, 0)) (by (with_reducible repeat (first | refine blk_drewN ?_ _ | refine blk_drew ?_ | refine blk_alloc ?_ _)); exact BK476.out) hg (Kd.R_ne HO_6.out BK476.out (by decide))); have n4_ := Aside0.mk ((by rw [hw]; exact below_set (HB.out) GB29.out : Below w.heap.size w w39)); clear HO_5 HO_6 HO_7 BK476 HB; have HO_5 := n0_; have HO_6 := n1_; have HO_7 := n2_; have BK476 := n3_; have HB := n4_; clear n0_ n1_ n2_ n3_ n4_; clear hg hw hp_; have hcz40_0 : w39.cell? ⟨gb476, 0, none⟩ = some (.int .i64 ((rd_T39 l0 x9_3).f0)) := (blk_cell BK476.out 0).trans rfl; have hcz40_1 : w39.cell? ⟨gb476, 1, none⟩ = some (.int .i64 ((rd_T39 l0 x9_3).f1)) := (blk_cell BK476.out 1).trans rfl; have hcz40_2 : w39.cell? ⟨gb476, 2, none⟩ = some (.int .i64 ((rd_T39 l0 x9_3).f2)) := (blk_cell BK476.out 2).trans rfl; have hfz40_0 := blk_frozen BK476.out 0; have hfz40_1 := blk_frozen BK476.out 1; have hfz40_2 := blk_frozen BK476.out 2; have p32 : 0 ≤ (((rd_T39 l0 x9_3).f1) : Int) := of_decide_eq_true (by first | (with_reducible assumption) | assumption); have q32 : (((rd_T39 l0 x9_3).f1) : Int) < ((x7_3.length : Int) : Int) := of_decide_eq_true (by first | (with_reducible assumption) | assumption); obtain ⟨go32, co32, eo32, gb32, gl32, cl32, HG32⟩ := Kd.R_form HO_7.out (by omega); (first | cases eo32 | (injection eo32 with ea_ en_ ec_; (first | subst ea_ | (injection ea_ with ea_; subst ea_)); subst ec_; clear en_)); have GB32 := Aside0.mk gb32; have GG32 := Aside0.mk HG32; clear gb32 gl32 HG32; obtain ⟨hx32_0, hf32_0⟩ := Kd.R_celln false HO_7.out (((rd_T39 l0 x9_3).f1) : Int) p32 q32; replace p32 := eq_true p32; replace q32 := eq_true q32; have n_ := Aside0.mk (Kd.R_mono (ok' := (fun k_ => some k_ ≠ (.slice (some ⟨go29, 0, none⟩) x6_3.length co37 : Value).ownBlock)) HO_7.out (fun k_ hk => hk.2)); clear HO_7; have HO_7 := n_; clear n_; obtain ⟨hy41_, hz41_⟩ := Kd.R_celln false HO_7.out (((rd_T39 l0 x9_3).f1) : Int) (of_decide_eq_true (by first | (with_reducible assumption) | assumption)) (of_decide_eq_true (by first | (with_reducible assumption) | assumption)); have HP41 := Kd.R_putg HO_7.out (((rd_T39 l0 x9_3).f1) : Int) true) | ((with_reducible refine gate_store (t := 4) (p := 60) rfl ?_); refine store_event (t := 4) (p := 60) (v := ?vo_w42) (w1 := (w39.setCell ⟨go32, (((rd_T39 l0 x9_3).f1) : Int).toNat, none⟩ (.bool true))) ?hg ?ho ?hn ?hr ?_; (case ho => rfl); (case hg => rfl); (case hn => rfl); (case hr => first | (go_simp; done) | (go_simp; rfl)); intro w42 hw; have hg : w39.grownBy w42 (some go32) := (by rw [hw]; exact HP41.2); have hp_ : Kd.R Kd.bool 4 w42 w.heap.size (fun k_ => some k_ ≠ (.slice (some ⟨go29, 0, none⟩) x6_3.length co37 : Value).ownBlock) (.slice (some ⟨go32, 0, none⟩) x7_3.length co32) y479 := (by rw [hw, Ny479.out]; exact HP41.1); clear HP41; have n0_ := Aside0.mk (Kd.R_over' (v := (.slice (some ⟨go32, 0, none⟩) x7_3.length co32)) (by (with_reducible repeat (first | apply Kd.R_alloc | apply Kd.R_drewN | apply Kd.R_drew)); exact HO_5.out) (Kd.R_typed HO_7.out) (by decide) hg); have n1_ := Aside0.mk (Kd.R_after (v := (.slice (some ⟨go32, 0, none⟩) x7_3.length co32)) (v1 := (.slice (some ⟨go32, 0, none⟩) x7_3.length co32)) (ok := (fun _ => True)) (by (with_reducible repeat (first | apply Kd.R_alloc | apply Kd.R_drewN | apply Kd.R_drew)); exact Kd.R_mono HO_6.out (fun _ hk => ⟨trivial, hk⟩)) hg (.inl rfl)); have n2_ := Aside0.mk (hp_); have n3_ := Aside0.mk (blk_grown (g := gb476) (o := .cells #[.int .i64 ((rd_T39 l0 x9_3).f0), .int .i64 ((rd_T39 l0 x9_3).f1), .int .i64 ((rd_T39 l0 x9_3).f2)] 39 (0, 0)) (by (with_reducible repeat (first | refine blk_drewN ?_ _ | refine blk_drew ?_ | refine blk_alloc ?_ _)); exact BK476.out) hg (Kd.R_ne HO_7.out BK476.out (by decide))); have n4_ := Aside0.mk ((by rw [hw]; exact below_set (HB.out) GB32.out : Below w.heap.size w w42)); clear HO_5 HO_6 HO_7 BK476 HB; have HO_5 := n0_; have HO_6 := n1_; have HO_7 := n2_; have BK476 := n3_; have HB := n4_; clear n0_ n1_ n2_ n3_ n4_; clear hg hw hp_))
                 go_roundg k3
                 case measure => have := HJ6.out; have := HK2.out; have := HK3.out; omega
                 case rel => exact ⟨(y478), (y479), (wrap64 (x9_3 + 1)), (by first | rfl | (simp; done) | (simp [*]; done)), H', ⟨by have := HJ6.out; have := HK2.out; have := HK3.out; omega⟩, ⟨by (with_reducible repeat (first | apply Kd.R_alloc | apply Kd.R_drewN | apply Kd.R_drew)); exact HO_5.out⟩, ⟨by (with_reducible repeat (first | apply Kd.R_alloc | apply Kd.R_drewN | apply Kd.R_drew)); exact Kd.R_mono HO_6.out (fun _ hk => hk.2)⟩, ⟨by (with_reducible repeat (first | apply Kd.R_alloc | apply Kd.R_drewN | apply Kd.R_drew)); exact HO_7.out⟩, ⟨by repeat (first | (with_reducible first | exact HB.out | apply below_alloc | apply pw_below_drewN | apply below_drew1 | refine below_set ?_ GE476.out) | exact HB.out)⟩⟩
                ·rw [if_neg c31] at H
                 exact absurd H (by simp)
               ·rw [if_neg c30] at H
                exact absurd H (by simp)
              ·replace c28 := Bool.eq_false_iff.mpr c28
               subst c28
               have H1 : (if 0 ≤ ((rd_T39 l0 x9_3).f1) then (if ((rd_T39 l0 x9_3).f1) < (x7_3.length : Int) then (if rdOf false x7_3 ((rd_T39 l0 x9_3).f1) = true then (spec_Reached.l1 k3 l0 y461 (x6_3.set (((rd_T39 l0 x9_3).f0) : Int).toNat true) (x7_3.set (((rd_T39 l0 x9_3).f1) : Int).toNat true) x8_2 (wrap64 (x9_3 + 1))) else (spec_Reached.l1 k3 l0 y461 x6_3 x7_3 x8_2 (wrap64 (x9_3 + 1)))) else (none)) else (none)) = some r := by rw [if_neg (show ¬ (false = true) by decide)] at H; exact H
               clear H
               have H := H1
               clear H1
               by_cases c43 : 0 ≤ ((rd_T39 l0 x9_3).f1)
               ·rw [if_pos c43] at H
                have c43b0 : decide (0 ≤ ((rd_T39 l0 x9_3).f1)) = true := decide_eq_true c43
                clear c43
                by_cases c44 : ((rd_T39 l0 x9_3).f1) < (x7_3.length : Int)
                ·rw [if_pos c44] at H
                 have c44b0 : decide (((rd_T39 l0 x9_3).f1) < (x7_3.length : Int)) = true := decide_eq_true c44
                 clear c44
                 obtain ⟨bq45, hbq45⟩ : ∃ b_ : Bool, b_ = (rdOf false x7_3 ((rd_T39 l0 x9_3).f1)) := ⟨_, rfl⟩
                 replace H : (if bq45 = true then (spec_Reached.l1 k3 l0 y461 (x6_3.set (((rd_T39 l0 x9_3).f0) : Int).toNat true) (x7_3.set (((rd_T39 l0 x9_3).f1) : Int).toNat true) x8_2 (wrap64 (x9_3 + 1))) else (spec_Reached.l1 k3 l0 y461 x6_3 x7_3 x8_2 (wrap64 (x9_3 + 1)))) = some r := by rw [← hbq45] at H; exact H
                 have Nbq45 := Aside0.mk hbq45
                 clear hbq45
                 by_cases c46 : bq45 = true
                 ·subst c46
                  have H1 : (spec_Reached.l1 k3 l0 y461 (x6_3.set (((rd_T39 l0 x9_3).f0) : Int).toNat true) (x7_3.set (((rd_T39 l0 x9_3).f1) : Int).toNat true) x8_2 (wrap64 (x9_3 + 1))) = some r := by rw [if_pos rfl] at H; exact H
                  clear H
                  have H := H1
                  clear H1
                  obtain ⟨y481, hy481⟩ : ∃ y_ : List Bool, y_ = (x6_3.set (((rd_T39 l0 x9_3).f0) : Int).toNat true) := ⟨_, rfl⟩
                  replace H : (spec_Reached.l1 k3 l0 y461 y481 (x7_3.set (((rd_T39 l0 x9_3).f1) : Int).toNat true) x8_2 (wrap64 (x9_3 + 1))) = some r := by first | (rw [hy481]; with_reducible exact H) | (have H2_ := (Option.bind_some _ _).symm.trans H; rw [hy481]; with_reducible exact H2_) | (have H2_ := (Option.bind_some _ _).symm.trans H; with_reducible exact H2_) | with_reducible exact H | (rw [hy481]; exact H) | exact H
                  have Ny481 := Aside0.mk hy481
                  clear hy481
                  obtain ⟨y482, hy482⟩ : ∃ y_ : List Bool, y_ = (x7_3.set (((rd_T39 l0 x9_3).f1) : Int).toNat true) := ⟨_, rfl⟩
                  replace H : (spec_Reached.l1 k3 l0 y461 y481 y482 x8_2 (wrap64 (x9_3 + 1))) = some r := by first | (rw [hy482]; with_reducible exact H) | (have H2_ := (Option.bind_some _ _).symm.trans H; rw [hy482]; with_reducible exact H2_) | (have H2_ := (Option.bind_some _ _).symm.trans H; with_reducible exact H2_) | with_reducible exact H | (rw [hy482]; exact H) | exact H
                  have Ny482 := Aside0.mk hy482
                  clear hy482
                  have H' := Aside0.mk H
                  clear H
                  have p475 : 0 ≤ (x9_3 : Int) := of_decide_eq_true (by first | (with_reducible assumption) | assumption)
                  have q475 : x9_3 < (l0.length : Int) := of_decide_eq_true (by first | (with_reducible assumption) | assumption)
                  obtain ⟨ad475, e475, hx475_0, hx475_1, hx475_2⟩ := at_T39 HR0.out x9_3 p475 q475
                  cases e475
                  replace hx475_0 := (HB.out.cell (World.block_lt_of_cell? w _ hx475_0)).trans hx475_0
                  replace hx475_1 := (HB.out.cell (World.block_lt_of_cell? w _ hx475_1)).trans hx475_1
                  replace hx475_2 := (HB.out.cell (World.block_lt_of_cell? w _ hx475_2)).trans hx475_2
                  replace p475 := eq_true p475
                  replace q475 := eq_true q475
                  go_wp2_with (first | ((with_reducible refine gate_dst (N := 10) rfl ?_); refine box_event ?hg (N := 10) ?hd (cs := #[.int .i64 0, .int .i64 0, .int .i64 0]) (t := 39) ?hr ?_; (case hd => rfl); (case hg => rfl); (case hr => first | (go_simp; done) | (go_simp; rfl)); intro gb476 hg w49 hbox hb; have n0_ := Aside0.mk (Kd.R_below (by (with_reducible repeat (first | apply Kd.R_alloc | apply Kd.R_drewN | apply Kd.R_drew)); exact HO_5.out) hb); have n1_ := Aside0.mk (Kd.R_below (by (with_reducible repeat (first | apply Kd.R_alloc | apply Kd.R_drewN | apply Kd.R_drew)); exact HO_6.out) hb); have n2_ := Aside0.mk (Kd.R_below (by (with_reducible repeat (first | apply Kd.R_alloc | apply Kd.R_drewN | apply Kd.R_drew)); exact HO_7.out) hb); have n3_ := Aside0.mk (below_step (by repeat (first | (with_reducible first | exact HB.out | apply below_alloc | apply pw_below_drewN | apply below_drew1) | exact HB.out)) hb); have n4_ := Aside0.mk (hbox); have n5_ := Aside0.mk ((by rw [hg]; exact (below_size (by repeat (first | (with_reducible first | exact HB.out | apply below_alloc | apply pw_below_drewN | apply below_drew1) | exact HB.out))) : w.heap.size ≤ gb476)); have n6_ := Aside0.mk ((by rw [hg]; exact (below_size (by repeat (first | (with_reducible first | exact HB.out | apply below_alloc | apply pw_below_drewN | apply below_drew1) | exact HB.out))) : w.heap.size ≤ gb476)); clear HO_5 HO_6 HO_7 HB; have HO_5 := n0_; have HO_6 := n1_; have HO_7 := n2_; have HB := n3_; have BK476 := n4_; have GW476 := n5_; have GE476 := n6_; clear n0_ n1_ n2_ n3_ n4_ n5_ n6_; clear hb hbox hg; have hcz50_0 : w49.cell? ⟨gb476, 0, none⟩ = some (.int .i64 0) := (blk_cell BK476.out 0).trans rfl; have hcz50_1 : w49.cell? ⟨gb476, 1, none⟩ = some (.int .i64 0) := (blk_cell BK476.out 1).trans rfl; have hcz50_2 : w49.cell? ⟨gb476, 2, none⟩ = some (.int .i64 0) := (blk_cell BK476.out 2).trans rfl; have hfz50_0 := blk_frozen BK476.out 0; have hfz50_1 := blk_frozen BK476.out 1; have hfz50_2 := blk_frozen BK476.out 2) | ((with_reducible refine gate_store (t := 39) (p := 10) rfl ?_); refine store_event (t := 39) (p := 10) (v := ?vo_w51) (w1 := (((w49.setCell ⟨gb476, 0, none⟩ (.int .i64 ((rd_T39 l0 x9_3).f0))).setCell ⟨gb476, 1, none⟩ (.int .i64 ((rd_T39 l0 x9_3).f1))).setCell ⟨gb476, 2, none⟩ (.int .i64 ((rd_T39 l0 x9_3).f2)))) ?hg ?ho ?hn ?hr ?_; (case ho => rfl); (case hg => rfl); (case hn => rfl); (case hr => first | (go_simp; done) | (go_simp; rfl)); intro w51 hw; have n0_ : Aside0 (Kd.R (Kd.int .i64) 3 w51 w.heap.size (fun _ => True) v462 y461) := ⟨(by rw [hw]; exact (by (with_reducible repeat (first | apply Kd.R_alloc | apply Kd.R_drewN | apply Kd.R_drew)); exact Kd.R_mono (Kd.R_far (p := ⟨gb476, 2, none⟩) (Kd.R_far (p := ⟨gb476, 1, none⟩) (Kd.R_far (p := ⟨gb476, 0, none⟩) (Kd.R_types HO_5.out BK476.out (by decide)) (fun _ hk => hk.2) (.int .i64 ((rd_T39 l0 x9_3).f0))) (fun _ hk => hk.2) (.int .i64 ((rd_T39 l0 x9_3).f1))) (fun _ hk => hk.2) (.int .i64 ((rd_T39 l0 x9_3).f2))) (fun _ hk => trivial)))⟩; have n1_ : Aside0 (Kd.R Kd.bool 4 w51 w.heap.size (fun k_ => some k_ ≠ (v469 : Value).ownBlock) v466 x6_3) := ⟨(by rw [hw]; exact (by (with_reducible repeat (first | apply Kd.R_alloc | apply Kd.R_drewN | apply Kd.R_drew)); exact Kd.R_mono (Kd.R_far (p := ⟨gb476, 2, none⟩) (Kd.R_far (p := ⟨gb476, 1, none⟩) (Kd.R_far (p := ⟨gb476, 0, none⟩) (Kd.R_types HO_6.out BK476.out (by decide)) (fun _ hk => hk.2) (.int .i64 ((rd_T39 l0 x9_3).f0))) (fun _ hk => hk.2) (.int .i64 ((rd_T39 l0 x9_3).f1))) (fun _ hk => hk.2) (.int .i64 ((rd_T39 l0 x9_3).f2))) (fun _ hk => hk.1)))⟩; have n2_ : Aside0 (Kd.R Kd.bool 4 w51 w.heap.size (fun k_ => some k_ ≠ (v466 : Value).ownBlock) v469 x7_3) := ⟨(by rw [hw]; exact (by (with_reducible repeat (first | apply Kd.R_alloc | apply Kd.R_drewN | apply Kd.R_drew)); exact Kd.R_mono (Kd.R_far (p := ⟨gb476, 2, none⟩) (Kd.R_far (p := ⟨gb476, 1, none⟩) (Kd.R_far (p := ⟨gb476, 0, none⟩) (Kd.R_types HO_7.out BK476.out (by decide)) (fun _ hk => hk.2) (.int .i64 ((rd_T39 l0 x9_3).f0))) (fun _ hk => hk.2) (.int .i64 ((rd_T39 l0 x9_3).f1))) (fun _ hk => hk.2) (.int .i64 ((rd_T39 l0 x9_3).f2))) (fun _ hk => hk.1)))⟩; have n3_ : Aside0 (w51.heap[gb476]? = some (.cells #[.int .i64 ((rd_T39 l0 x9_3).f0), .int .i64 ((rd_T39 l0 x9_3).f1), .int .i64 ((rd_T39 l0 x9_3).f2)] 39 (0, 0))) := ⟨(by rw [hw]; exact (by (with_reducible repeat (first | refine blk_drewN ?_ _ | refine blk_drew ?_ | refine blk_alloc ?_ _)); refine blk_put (cs := #[.int .i64 ((rd_T39 l0 x9_3).f0), .int .i64 ((rd_T39 l0 x9_3).f1), .int .i64 0]) ?_ 2 _ rfl; (with_reducible repeat (first | refine blk_drewN ?_ _ | refine blk_drew ?_ | refine blk_alloc ?_ _)); refine blk_put (cs := #[.int .i64 ((rd_T39 l0 x9_3).f0), .int .i64 0, .int .i64 0]) ?_ 1 _ rfl; (with_reducible repeat (first | refine blk_drewN ?_ _ | refine blk_drew ?_ | refine blk_alloc ?_ _)); refine blk_put (cs := #[.int .i64 0, .int .i64 0, .int .i64 0]) ?_ 0 _ rfl; (with_reducible repeat (first | refine blk_drewN ?_ _ | refine blk_drew ?_ | refine blk_alloc ?_ _)); exact BK476.out))⟩; have n4_ : Aside0 (Below w.heap.size w w51) := ⟨(by rw [hw]; exact (by repeat (first | (with_reducible first | exact HB.out | apply below_alloc | apply pw_below_drewN | apply below_drew1 | refine below_set ?_ GE476.out) | exact HB.out)))⟩; clear hw HO_5 HO_6 HO_7 BK476 HB; have HO_5 := n0_; have HO_6 := n1_; have HO_7 := n2_; have BK476 := n3_; have HB := n4_; clear n0_ n1_ n2_ n3_ n4_; have hcz52_0 : w51.cell? ⟨gb476, 0, none⟩ = some (.int .i64 ((rd_T39 l0 x9_3).f0)) := (blk_cell BK476.out 0).trans rfl; have hcz52_1 : w51.cell? ⟨gb476, 1, none⟩ = some (.int .i64 ((rd_T39 l0 x9_3).f1)) := (blk_cell BK476.out 1).trans rfl; have hcz52_2 : w51.cell? ⟨gb476, 2, none⟩ = some (.int .i64 ((rd_T39 l0 x9_3).f2)) := (blk_cell BK476.out 2).trans rfl; have hfz52_0 := blk_frozen BK476.out 0; have hfz52_1 := blk_frozen BK476.out 1; have hfz52_2 := blk_frozen BK476.out 2; obtain ⟨Ao53, co53, eo53⟩ := Kd.R_slice HO_6.out; subst eo53; have p477 : 0 ≤ (((rd_T39 l0 x9_3).f0) : Int) := of_decide_eq_true (by first | (with_reducible assumption) | assumption); have q477 : ((rd_T39 l0 x9_3).f0) < (x6_3.length : Int) := of_decide_eq_true (by first | (with_reducible assumption) | assumption); obtain ⟨ad477, e477, hx477_0⟩ := Kd.at_bool (Kd.R_reads' HO_6.out).2.2 ((rd_T39 l0 x9_3).f0) p477 q477; (try rw [← Nbq27.out] at hx477_0); (try rw [← Nbq45.out] at hx477_0); cases e477; replace p477 := eq_true p477; replace q477 := eq_true q477; obtain ⟨Ao54, co54, eo54⟩ := Kd.R_slice HO_7.out; subst eo54; have p480 : 0 ≤ (((rd_T39 l0 x9_3).f1) : Int) := of_decide_eq_true (by first | (with_reducible assumption) | assumption); have q480 : ((rd_T39 l0 x9_3).f1) < (x7_3.length : Int) := of_decide_eq_true (by first | (with_reducible assumption) | assumption); obtain ⟨ad480, e480, hx480_0⟩ := Kd.at_bool (Kd.R_reads' HO_7.out).2.2 ((rd_T39 l0 x9_3).f1) p480 q480; (try rw [← Nbq27.out] at hx480_0); (try rw [← Nbq45.out] at hx480_0); cases e480; replace p480 := eq_true p480; replace q480 := eq_true q480; have p47 : 0 ≤ (((rd_T39 l0 x9_3).f0) : Int) := of_decide_eq_true (by first | (with_reducible assumption) | assumption); have q47 : (((rd_T39 l0 x9_3).f0) : Int) < ((x6_3.length : Int) : Int) := of_decide_eq_true (by first | (with_reducible assumption) | assumption); obtain ⟨go47, co47, eo47, gb47, gl47, cl47, HG47⟩ := Kd.R_form HO_6.out (by omega); (first | cases eo47 | (injection eo47 with ea_ en_ ec_; (first | subst ea_ | (injection ea_ with ea_; subst ea_)); subst ec_; clear en_)); have GB47 := Aside0.mk gb47; have GG47 := Aside0.mk HG47; clear gb47 gl47 HG47; (first | simp only [add_plain] at hx477_0 | skip); obtain ⟨hx47_0, hf47_0⟩ := Kd.R_celln false HO_6.out (((rd_T39 l0 x9_3).f0) : Int) p47 q47; replace p47 := eq_true p47; replace q47 := eq_true q47; obtain ⟨hy55_, hz55_⟩ := Kd.R_celln false HO_6.out (((rd_T39 l0 x9_3).f0) : Int) (of_decide_eq_true (by first | (with_reducible assumption) | assumption)) (of_decide_eq_true (by first | (with_reducible assumption) | assumption)); have HP55 := Kd.R_putg HO_6.out (((rd_T39 l0 x9_3).f0) : Int) true) | ((with_reducible refine gate_store (t := 4) (p := 56) rfl ?_); refine store_event (t := 4) (p := 56) (v := ?vo_w56) (w1 := (w51.setCell ⟨go47, (((rd_T39 l0 x9_3).f0) : Int).toNat, none⟩ (.bool true))) ?hg ?ho ?hn ?hr ?_; (case ho => rfl); (case hg => rfl); (case hn => rfl); (case hr => first | (go_simp; done) | (go_simp; rfl)); intro w56 hw; have hg : w51.grownBy w56 (some go47) := (by rw [hw]; exact HP55.2); have hp_ : Kd.R Kd.bool 4 w56 w.heap.size (fun k_ => some k_ ≠ (.slice (some ad480) x7_3.length co54 : Value).ownBlock) (.slice (some ⟨go47, 0, none⟩) x6_3.length co53) y481 := (by rw [hw, Ny481.out]; exact HP55.1); clear HP55; have n0_ := Aside0.mk (Kd.R_over' (v := (.slice (some ⟨go47, 0, none⟩) x6_3.length co53)) (by (with_reducible repeat (first | apply Kd.R_alloc | apply Kd.R_drewN | apply Kd.R_drew)); exact HO_5.out) (Kd.R_typed HO_6.out) (by decide) hg); have n1_ := Aside0.mk (hp_); have n2_ := Aside0.mk (Kd.R_after (v := (.slice (some ⟨go47, 0, none⟩) x6_3.length co53)) (v1 := (.slice (some ⟨go47, 0, none⟩) x6_3.length co53)) (ok := (fun _ => True)) (by (with_reducible repeat (first | apply Kd.R_alloc | apply Kd.R_drewN | apply Kd.R_drew)); exact Kd.R_mono HO_7.out (fun _ hk => ⟨trivial, hk⟩)) hg (.inl rfl)); have n3_ := Aside0.mk (blk_grown (g := gb476) (o := .cells #[.int .i64 ((rd_T39 l0 x9_3).f0), .int .i64 ((rd_T39 l0 x9_3).f1), .int .i64 ((rd_T39 l0 x9_3).f2)] 39 (0, 0)) (by (with_reducible repeat (first | refine blk_drewN ?_ _ | refine blk_drew ?_ | refine blk_alloc ?_ _)); exact BK476.out) hg (Kd.R_ne HO_6.out BK476.out (by decide))); have n4_ := Aside0.mk ((by rw [hw]; exact below_set (HB.out) GB47.out : Below w.heap.size w w56)); clear HO_5 HO_6 HO_7 BK476 HB; have HO_5 := n0_; have HO_6 := n1_; have HO_7 := n2_; have BK476 := n3_; have HB := n4_; clear n0_ n1_ n2_ n3_ n4_; clear hg hw hp_; have hcz57_0 : w56.cell? ⟨gb476, 0, none⟩ = some (.int .i64 ((rd_T39 l0 x9_3).f0)) := (blk_cell BK476.out 0).trans rfl; have hcz57_1 : w56.cell? ⟨gb476, 1, none⟩ = some (.int .i64 ((rd_T39 l0 x9_3).f1)) := (blk_cell BK476.out 1).trans rfl; have hcz57_2 : w56.cell? ⟨gb476, 2, none⟩ = some (.int .i64 ((rd_T39 l0 x9_3).f2)) := (blk_cell BK476.out 2).trans rfl; have hfz57_0 := blk_frozen BK476.out 0; have hfz57_1 := blk_frozen BK476.out 1; have hfz57_2 := blk_frozen BK476.out 2; have p48 : 0 ≤ (((rd_T39 l0 x9_3).f1) : Int) := of_decide_eq_true (by first | (with_reducible assumption) | assumption); have q48 : (((rd_T39 l0 x9_3).f1) : Int) < ((x7_3.length : Int) : Int) := of_decide_eq_true (by first | (with_reducible assumption) | assumption); obtain ⟨go48, co48, eo48, gb48, gl48, cl48, HG48⟩ := Kd.R_form HO_7.out (by omega); (first | cases eo48 | (injection eo48 with ea_ en_ ec_; (first | subst ea_ | (injection ea_ with ea_; subst ea_)); subst ec_; clear en_)); have GB48 := Aside0.mk gb48; have GG48 := Aside0.mk HG48; clear gb48 gl48 HG48; (first | simp only [add_plain] at hx480_0 | skip); obtain ⟨hx48_0, hf48_0⟩ := Kd.R_celln false HO_7.out (((rd_T39 l0 x9_3).f1) : Int) p48 q48; replace p48 := eq_true p48; replace q48 := eq_true q48; have n_ := Aside0.mk (Kd.R_mono (ok' := (fun k_ => some k_ ≠ (.slice (some ⟨go47, 0, none⟩) x6_3.length co53 : Value).ownBlock)) HO_7.out (fun k_ hk => hk.2)); clear HO_7; have HO_7 := n_; clear n_; obtain ⟨hy58_, hz58_⟩ := Kd.R_celln false HO_7.out (((rd_T39 l0 x9_3).f1) : Int) (of_decide_eq_true (by first | (with_reducible assumption) | assumption)) (of_decide_eq_true (by first | (with_reducible assumption) | assumption)); have HP58 := Kd.R_putg HO_7.out (((rd_T39 l0 x9_3).f1) : Int) true) | ((with_reducible refine gate_store (t := 4) (p := 60) rfl ?_); refine store_event (t := 4) (p := 60) (v := ?vo_w59) (w1 := (w56.setCell ⟨go48, (((rd_T39 l0 x9_3).f1) : Int).toNat, none⟩ (.bool true))) ?hg ?ho ?hn ?hr ?_; (case ho => rfl); (case hg => rfl); (case hn => rfl); (case hr => first | (go_simp; done) | (go_simp; rfl)); intro w59 hw; have hg : w56.grownBy w59 (some go48) := (by rw [hw]; exact HP58.2); have hp_ : Kd.R Kd.bool 4 w59 w.heap.size (fun k_ => some k_ ≠ (.slice (some ⟨go47, 0, none⟩) x6_3.length co53 : Value).ownBlock) (.slice (some ⟨go48, 0, none⟩) x7_3.length co54) y482 := (by rw [hw, Ny482.out]; exact HP58.1); clear HP58; have n0_ := Aside0.mk (Kd.R_over' (v := (.slice (some ⟨go48, 0, none⟩) x7_3.length co54)) (by (with_reducible repeat (first | apply Kd.R_alloc | apply Kd.R_drewN | apply Kd.R_drew)); exact HO_5.out) (Kd.R_typed HO_7.out) (by decide) hg); have n1_ := Aside0.mk (Kd.R_after (v := (.slice (some ⟨go48, 0, none⟩) x7_3.length co54)) (v1 := (.slice (some ⟨go48, 0, none⟩) x7_3.length co54)) (ok := (fun _ => True)) (by (with_reducible repeat (first | apply Kd.R_alloc | apply Kd.R_drewN | apply Kd.R_drew)); exact Kd.R_mono HO_6.out (fun _ hk => ⟨trivial, hk⟩)) hg (.inl rfl)); have n2_ := Aside0.mk (hp_); have n3_ := Aside0.mk (blk_grown (g := gb476) (o := .cells #[.int .i64 ((rd_T39 l0 x9_3).f0), .int .i64 ((rd_T39 l0 x9_3).f1), .int .i64 ((rd_T39 l0 x9_3).f2)] 39 (0, 0)) (by (with_reducible repeat (first | refine blk_drewN ?_ _ | refine blk_drew ?_ | refine blk_alloc ?_ _)); exact BK476.out) hg (Kd.R_ne HO_7.out BK476.out (by decide))); have n4_ := Aside0.mk ((by rw [hw]; exact below_set (HB.out) GB48.out : Below w.heap.size w w59)); clear HO_5 HO_6 HO_7 BK476 HB; have HO_5 := n0_; have HO_6 := n1_; have HO_7 := n2_; have BK476 := n3_; have HB := n4_; clear n0_ n1_ n2_ n3_ n4_; clear hg hw hp_))
                  go_roundg k3
                  case measure => have := HJ6.out; have := HK2.out; have := HK3.out; omega
                  case rel => exact ⟨(y481), (y482), (wrap64 (x9_3 + 1)), (by first | rfl | (simp; done) | (simp [*]; done)), H', ⟨by have := HJ6.out; have := HK2.out; have := HK3.out; omega⟩, ⟨by (with_reducible repeat (first | apply Kd.R_alloc | apply Kd.R_drewN | apply Kd.R_drew)); exact HO_5.out⟩, ⟨by (with_reducible repeat (first | apply Kd.R_alloc | apply Kd.R_drewN | apply Kd.R_drew)); exact Kd.R_mono HO_6.out (fun _ hk => hk.2)⟩, ⟨by (with_reducible repeat (first | apply Kd.R_alloc | apply Kd.R_drewN | apply Kd.R_drew)); exact HO_7.out⟩, ⟨by repeat (first | (with_reducible first | exact HB.out | apply below_alloc | apply pw_below_drewN | apply below_drew1 | refine below_set ?_ GE476.out) | exact HB.out)⟩⟩
                 ·replace c46 := Bool.eq_false_iff.mpr c46
                  subst c46
                  have H1 : (spec_Reached.l1 k3 l0 y461 x6_3 x7_3 x8_2 (wrap64 (x9_3 + 1))) = some r := by rw [if_neg (show ¬ (false = true) by decide)] at H; exact H
                  clear H
                  have H := H1
                  clear H1
                  have H' := Aside0.mk H
                  clear H
                  have p475 : 0 ≤ (x9_3 : Int) := of_decide_eq_true (by first | (with_reducible assumption) | assumption)
                  have q475 : x9_3 < (l0.length : Int) := of_decide_eq_true (by first | (with_reducible assumption) | assumption)
                  obtain ⟨ad475, e475, hx475_0, hx475_1, hx475_2⟩ := at_T39 HR0.out x9_3 p475 q475
                  cases e475
                  replace hx475_0 := (HB.out.cell (World.block_lt_of_cell? w _ hx475_0)).trans hx475_0
                  replace hx475_1 := (HB.out.cell (World.block_lt_of_cell? w _ hx475_1)).trans hx475_1
                  replace hx475_2 := (HB.out.cell (World.block_lt_of_cell? w _ hx475_2)).trans hx475_2
                  replace p475 := eq_true p475
                  replace q475 := eq_true q475
                  go_wp2_with (first | ((with_reducible refine gate_dst (N := 10) rfl ?_); refine box_event ?hg (N := 10) ?hd (cs := #[.int .i64 0, .int .i64 0, .int .i64 0]) (t := 39) ?hr ?_; (case hd => rfl); (case hg => rfl); (case hr => first | (go_simp; done) | (go_simp; rfl)); intro gb476 hg w60 hbox hb; have n0_ := Aside0.mk (Kd.R_below (by (with_reducible repeat (first | apply Kd.R_alloc | apply Kd.R_drewN | apply Kd.R_drew)); exact HO_5.out) hb); have n1_ := Aside0.mk (Kd.R_below (by (with_reducible repeat (first | apply Kd.R_alloc | apply Kd.R_drewN | apply Kd.R_drew)); exact HO_6.out) hb); have n2_ := Aside0.mk (Kd.R_below (by (with_reducible repeat (first | apply Kd.R_alloc | apply Kd.R_drewN | apply Kd.R_drew)); exact HO_7.out) hb); have n3_ := Aside0.mk (below_step (by repeat (first | (with_reducible first | exact HB.out | apply below_alloc | apply pw_below_drewN | apply below_drew1) | exact HB.out)) hb); have n4_ := Aside0.mk (hbox); have n5_ := Aside0.mk ((by rw [hg]; exact (below_size (by repeat (first | (with_reducible first | exact HB.out | apply below_alloc | apply pw_below_drewN | apply below_drew1) | exact HB.out))) : w.heap.size ≤ gb476)); have n6_ := Aside0.mk ((by rw [hg]; exact (below_size (by repeat (first | (with_reducible first | exact HB.out | apply below_alloc | apply pw_below_drewN | apply below_drew1) | exact HB.out))) : w.heap.size ≤ gb476)); clear HO_5 HO_6 HO_7 HB; have HO_5 := n0_; have HO_6 := n1_; have HO_7 := n2_; have HB := n3_; have BK476 := n4_; have GW476 := n5_; have GE476 := n6_; clear n0_ n1_ n2_ n3_ n4_ n5_ n6_; clear hb hbox hg; have hcz61_0 : w60.cell? ⟨gb476, 0, none⟩ = some (.int .i64 0) := (blk_cell BK476.out 0).trans rfl; have hcz61_1 : w60.cell? ⟨gb476, 1, none⟩ = some (.int .i64 0) := (blk_cell BK476.out 1).trans rfl; have hcz61_2 : w60.cell? ⟨gb476, 2, none⟩ = some (.int .i64 0) := (blk_cell BK476.out 2).trans rfl; have hfz61_0 := blk_frozen BK476.out 0; have hfz61_1 := blk_frozen BK476.out 1; have hfz61_2 := blk_frozen BK476.out 2; obtain ⟨Ao62, co62, eo62⟩ := Kd.R_slice HO_6.out; subst eo62; have p477 : 0 ≤ (((rd_T39 l0 x9_3).f0) : Int) := of_decide_eq_true (by first | (with_reducible assumption) | assumption); have q477 : ((rd_T39 l0 x9_3).f0) < (x6_3.length : Int) := of_decide_eq_true (by first | (with_reducible assumption) | assumption); obtain ⟨ad477, e477, hx477_0⟩ := Kd.at_bool (Kd.R_reads' HO_6.out).2.2 ((rd_T39 l0 x9_3).f0) p477 q477; (try rw [← Nbq27.out] at hx477_0); (try rw [← Nbq45.out] at hx477_0); cases e477; have hn477_0 : ad477.block ≠ gb476 := Kd.own_blk (Kd.R_ne HO_6.out BK476.out (by decide)); have hn477_1 : ad477.block ≠ gb476 := Kd.own_blk (Kd.R_ne HO_6.out BK476.out (by decide)); have hn477_2 : ad477.block ≠ gb476 := Kd.own_blk (Kd.R_ne HO_6.out BK476.out (by decide)); replace hx477_0 := (cell_far (p := ⟨gb476, 0, none⟩) (by first | (rw [add_block]; exact hn477_0) | (show (Addr.add _ _).block ≠ _; rw [add_block]; exact hn477_0) | exact hn477_0) (.int .i64 ((rd_T39 l0 x9_3).f0))).trans hx477_0; replace hx477_0 := (cell_far (p := ⟨gb476, 1, none⟩) (by first | (rw [add_block]; exact hn477_1) | (show (Addr.add _ _).block ≠ _; rw [add_block]; exact hn477_1) | exact hn477_1) (.int .i64 ((rd_T39 l0 x9_3).f1))).trans hx477_0; replace hx477_0 := (cell_far (p := ⟨gb476, 2, none⟩) (by first | (rw [add_block]; exact hn477_2) | (show (Addr.add _ _).block ≠ _; rw [add_block]; exact hn477_2) | exact hn477_2) (.int .i64 ((rd_T39 l0 x9_3).f2))).trans hx477_0; clear hn477_0 hn477_1 hn477_2; replace p477 := eq_true p477; replace q477 := eq_true q477; obtain ⟨Ao63, co63, eo63⟩ := Kd.R_slice HO_7.out; subst eo63; have p480 : 0 ≤ (((rd_T39 l0 x9_3).f1) : Int) := of_decide_eq_true (by first | (with_reducible assumption) | assumption); have q480 : ((rd_T39 l0 x9_3).f1) < (x7_3.length : Int) := of_decide_eq_true (by first | (with_reducible assumption) | assumption); obtain ⟨ad480, e480, hx480_0⟩ := Kd.at_bool (Kd.R_reads' HO_7.out).2.2 ((rd_T39 l0 x9_3).f1) p480 q480; (try rw [← Nbq27.out] at hx480_0); (try rw [← Nbq45.out] at hx480_0); cases e480; have hn480_0 : ad480.block ≠ gb476 := Kd.own_blk (Kd.R_ne HO_7.out BK476.out (by decide)); have hn480_1 : ad480.block ≠ gb476 := Kd.own_blk (Kd.R_ne HO_7.out BK476.out (by decide)); have hn480_2 : ad480.block ≠ gb476 := Kd.own_blk (Kd.R_ne HO_7.out BK476.out (by decide)); replace hx480_0 := (cell_far (p := ⟨gb476, 0, none⟩) (by first | (rw [add_block]; exact hn480_0) | (show (Addr.add _ _).block ≠ _; rw [add_block]; exact hn480_0) | exact hn480_0) (.int .i64 ((rd_T39 l0 x9_3).f0))).trans hx480_0; replace hx480_0 := (cell_far (p := ⟨gb476, 1, none⟩) (by first | (rw [add_block]; exact hn480_1) | (show (Addr.add _ _).block ≠ _; rw [add_block]; exact hn480_1) | exact hn480_1) (.int .i64 ((rd_T39 l0 x9_3).f1))).trans hx480_0; replace hx480_0 := (cell_far (p := ⟨gb476, 2, none⟩) (by first | (rw [add_block]; exact hn480_2) | (show (Addr.add _ _).block ≠ _; rw [add_block]; exact hn480_2) | exact hn480_2) (.int .i64 ((rd_T39 l0 x9_3).f2))).trans hx480_0; clear hn480_0 hn480_1 hn480_2; replace p480 := eq_true p480; replace q480 := eq_true q480))
                  go_roundg k3
                  case measure => have := HJ6.out; have := HK2.out; have := HK3.out; omega
                  case rel => exact ⟨(x6_3), (x7_3), (wrap64 (x9_3 + 1)), (by first | rfl | (simp; done) | (simp [*]; done)), H', ⟨by have := HJ6.out; have := HK2.out; have := HK3.out; omega⟩, ⟨by (with_reducible repeat (first | apply Kd.R_alloc | apply Kd.R_drewN | apply Kd.R_drew)); exact Kd.R_mono (Kd.R_far (p := ⟨gb476, 2, none⟩) (Kd.R_far (p := ⟨gb476, 1, none⟩) (Kd.R_far (p := ⟨gb476, 0, none⟩) (Kd.R_types HO_5.out BK476.out (by decide)) (fun _ hk => hk.2) (.int .i64 ((rd_T39 l0 x9_3).f0))) (fun _ hk => hk.2) (.int .i64 ((rd_T39 l0 x9_3).f1))) (fun _ hk => hk.2) (.int .i64 ((rd_T39 l0 x9_3).f2))) (fun _ hk => trivial)⟩, ⟨by (with_reducible repeat (first | apply Kd.R_alloc | apply Kd.R_drewN | apply Kd.R_drew)); exact Kd.R_mono (Kd.R_far (p := ⟨gb476, 2, none⟩) (Kd.R_far (p := ⟨gb476, 1, none⟩) (Kd.R_far (p := ⟨gb476, 0, none⟩) (Kd.R_types HO_6.out BK476.out (by decide)) (fun _ hk => hk.2) (.int .i64 ((rd_T39 l0 x9_3).f0))) (fun _ hk => hk.2) (.int .i64 ((rd_T39 l0 x9_3).f1))) (fun _ hk => hk.2) (.int .i64 ((rd_T39 l0 x9_3).f2))) (fun _ hk => hk.1)⟩, ⟨by (with_reducible repeat (first | apply Kd.R_alloc | apply Kd.R_drewN | apply Kd.R_drew)); exact Kd.R_mono (Kd.R_far (p := ⟨gb476, 2, none⟩) (Kd.R_far (p := ⟨gb476, 1, none⟩) (Kd.R_far (p := ⟨gb476, 0, none⟩) (Kd.R_types HO_7.out BK476.out (by decide)) (fun _ hk => hk.2) (.int .i64 ((rd_T39 l0 x9_3).f0))) (fun _ hk => hk.2) (.int .i64 ((rd_T39 l0 x9_3).f1))) (fun _ hk => hk.2) (.int .i64 ((rd_T39 l0 x9_3).f2))) (fun _ hk => hk.1)⟩, ⟨by repeat (first | (with_reducible first | exact HB.out | apply below_alloc | apply pw_below_drewN | apply below_drew1 | refine below_set ?_ GE476.out) | exact HB.out)⟩⟩
                ·rw [if_neg c44] at H
                 exact absurd H (by simp)
               ·rw [if_neg c43] at H
                exact absurd H (by simp)
             ·rw [if_neg c26] at H
              exact absurd H (by simp)
            ·rw [if_neg c25] at H
             exact absurd H (by simp)
           ·rw [if_neg c24] at H
            exact absurd H (by simp)
          ·rw [if_neg c23] at H
           have c23b0 : decide (x9_3 < (l0.length : Int)) = false := decide_eq_false c23
           clear c23
           have H' := Aside0.mk H
           clear H
           go_wp2
           go_roundg k3
           case measure => have := HJ6.out; have := HK2.out; have := HK3.out; omega
           case rel => exact ⟨(x6_3), (x7_3), (wrap64 (x8_2 + 1)), (by first | rfl | (simp; done) | (simp [*]; done)), H', ⟨by have := HJ6.out; have := HK2.out; have := HK3.out; omega⟩, ⟨by (with_reducible repeat (first | apply Kd.R_alloc | apply Kd.R_drewN | apply Kd.R_drew)); exact HO_5.out⟩, ⟨by (with_reducible repeat (first | apply Kd.R_alloc | apply Kd.R_drewN | apply Kd.R_drew)); exact HO_6.out⟩, ⟨by (with_reducible repeat (first | apply Kd.R_alloc | apply Kd.R_drewN | apply Kd.R_drew)); exact HO_7.out⟩, ⟨by repeat (first | (with_reducible first | exact HB.out | apply below_alloc | apply pw_below_drewN | apply below_drew1) | exact HB.out)⟩⟩
       ·rw [if_neg c22] at H
        have c22b0 : decide (x8_2 < 60) = false := decide_eq_false c22
        clear c22
        have H' := Aside0.mk H
        clear H
        go_wp2
        go_loopg [5, 11] k2 (fun kq v5 v11 w' => ∃ (x5_3 : List Int) (x11_3 : Int), v11 = .int .i64 x11_3 ∧ Aside0 (spec_Reached.l2 kq x5_3 x6_2 x11_3 = some r) ∧ Aside0 (kq ≤ k2) ∧ Aside0 (Kd.R (Kd.int .i64) 3 w' w.heap.size (fun _ => True) v5 x5_3) ∧ Aside0 (Kd.R Kd.bool 4 w' w.heap.size (fun _ => True) v466 x6_2) ∧ Aside0 (Below w.heap.size w w'))
        case atStart => exact ⟨(y461), (1), (by first | rfl | (simp; done) | (simp [*]; done)), H', ⟨Nat.le_refl _⟩, ⟨by (with_reducible repeat (first | apply Kd.R_alloc | apply Kd.R_drewN | apply Kd.R_drew)); exact HO_5.out⟩, ⟨by (with_reducible repeat (first | apply Kd.R_alloc | apply Kd.R_drewN | apply Kd.R_drew)); exact Kd.R_mono HO_6.out (fun _ hk => trivial)⟩, ⟨by repeat (first | (with_reducible first | exact HB.out | apply below_alloc | apply pw_below_drewN | apply below_drew1) | exact HB.out)⟩⟩
        case round =>
         clear H'
         try clear c1
         try clear p1
         try clear q1
         try clear hx1
         try clear c2
         try clear p2
         try clear q2
         try clear hx2
         try clear hf2
         try clear c3
         try clear p3
         try clear q3
         try clear hx3
         try clear hf3
         try clear c4
         try clear p4
         try clear q4
         try clear hx4
         try clear hf4
         try clear c5
         try clear c5b0
         try clear c5b1
         try clear p6
         try clear c14
         try clear c16
         try clear c16b0
         try clear c16b1
         try clear c17
         try clear c17b0
         try clear c18
         try clear c18b0
         try clear p19
         try clear q19
         try clear hx19
         try clear hf19
         try clear c22
         try clear c22b0
         try clear c23
         try clear c23b0
         try clear c24
         try clear c24b0
         try clear c25
         try clear c25b0
         try clear c26
         try clear c26b0
         try clear q27
         try clear c28
         try clear p29
         try clear q29
         try clear hx29
         try clear hf29
         try clear c30
         try clear c30b0
         try clear c31
         try clear c31b0
         try clear c32
         try clear p32
         try clear q32
         try clear hx32
         try clear hf32
         try clear c33
         try clear c43
         try clear c43b0
         try clear c44
         try clear c44b0
         try clear q45
         try clear c46
         try clear p47
         try clear q47
         try clear hx47
         try clear hf47
         try clear p48
         try clear q48
         try clear hx48
         try clear hf48
         try clear hcz34_0
         try clear hcz34_1
         try clear hcz34_2
         try clear hcz36_0
         try clear hcz36_1
         try clear hcz36_2
         try clear hcz40_0
         try clear hcz40_1
         try clear hcz40_2
         try clear hcz50_0
         try clear hcz50_1
         try clear hcz50_2
         try clear hcz52_0
         try clear hcz52_1
         try clear hcz52_2
         try clear hcz57_0
         try clear hcz57_1
         try clear hcz57_2
         try clear hcz61_0
         try clear hcz61_1
         try clear hcz61_2
         try clear hfz34_0
         try clear hfz34_1
         try clear hfz34_2
         try clear hfz36_0
         try clear hfz36_1
         try clear hfz36_2
         try clear hfz40_0
         try clear hfz40_1
         try clear hfz40_2
         try clear hfz50_0
         try clear hfz50_1
         try clear hfz50_2
         try clear hfz52_0
         try clear hfz52_1
         try clear hfz52_2
         try clear hfz57_0
         try clear hfz57_1
         try clear hfz57_2
         try clear hfz61_0
         try clear hfz61_1
         try clear hfz61_2
         try clear hx19_0
         try clear hx29_0
         try clear hx32_0
         try clear hx475_0
         try clear hx475_1
         try clear hx475_2
         try clear hx477_0
         try clear hx47_0
         try clear hx480_0
         try clear hx48_0
         try clear p1
         try clear p19
         try clear p2
         try clear p29
         try clear p32
         try clear p47
         try clear p475
         try clear p477
         try clear p48
         try clear p480
         try clear q1
         try clear q19
         try clear q29
         try clear q32
         try clear q47
         try clear q475
         try clear q477
         try clear q48
         try clear q480
         obtain ⟨x5_3, x11_3, rfl, HA, HK3, HO_5, HO_6, HB⟩ := hrel
         cases gk with
         | zero => exact absurd HA.out (by simp [spec_Reached.l2])
         | succ k3 =>
          have H := HA.out
          clear HA
          simp only [spec_Reached.l2] at H
          by_cases c64 : x11_3 ≤ 50
          ·rw [if_pos c64] at H
           have c64b0 : decide (x11_3 ≤ 50) = true := decide_eq_true c64
           clear c64
           by_cases c65 : 0 ≤ x11_3
           ·rw [if_pos c65] at H
            have c65b0 : decide (0 ≤ x11_3) = true := decide_eq_true c65
            clear c65
            by_cases c66 : x11_3 < (x6_2.length : Int)
            ·rw [if_pos c66] at H
             have c66b0 : decide (x11_3 < (x6_2.length : Int)) = true := decide_eq_true c66
             clear c66
             obtain ⟨bq67, hbq67⟩ : ∃ b_ : Bool, b_ = (rdOf false x6_2 x11_3) := ⟨_, rfl⟩
             replace H : (if bq67 = true then (if x5_3.length < 17592186044416 then (spec_Reached.l2 k3 (x5_3 ++ [x11_3]) x6_2 (wrap64 (x11_3 + 1))) else (none)) else (spec_Reached.l2 k3 x5_3 x6_2 (wrap64 (x11_3 + 1)))) = some r := by rw [← hbq67] at H; exact H
             have Nbq67 := Aside0.mk hbq67
             clear hbq67
             by_cases c68 : bq67 = true
             ·subst c68
              have H1 : (if x5_3.length < 17592186044416 then (spec_Reached.l2 k3 (x5_3 ++ [x11_3]) x6_2 (wrap64 (x11_3 + 1))) else (none)) = some r := by rw [if_pos rfl] at H; exact H
              clear H
              have H := H1
              clear H1
              by_cases c69 : x5_3.length < 17592186044416
              ·rw [if_pos c69] at H
               have LMc69 := Aside0.mk c69
               clear c69
               obtain ⟨y484, hy484⟩ : ∃ y_ : List Int, y_ = (x5_3 ++ [x11_3]) := ⟨_, rfl⟩
               replace H : (spec_Reached.l2 k3 y484 x6_2 (wrap64 (x11_3 + 1))) = some r := by first | (rw [hy484]; with_reducible exact H) | (have H2_ := (Option.bind_some _ _).symm.trans H; rw [hy484]; with_reducible exact H2_) | (have H2_ := (Option.bind_some _ _).symm.trans H; with_reducible exact H2_) | with_reducible exact H | (rw [hy484]; exact H) | exact H
               have Ny484 := Aside0.mk hy484
               clear hy484
               have H' := Aside0.mk H
               clear H
               obtain ⟨Ao70, co70, eo70⟩ := Kd.R_slice HO_6.out
               subst eo70
               have p483 : 0 ≤ (x11_3 : Int) := of_decide_eq_true (by first | (with_reducible assumption) | assumption)
               have q483 : x11_3 < (x6_2.length : Int) := of_decide_eq_true (by first | (with_reducible assumption) | assumption)
               obtain ⟨ad483, e483, hx483_0⟩ := Kd.at_bool (Kd.R_reads' HO_6.out).2.2 x11_3 p483 q483
               (try rw [← Nbq67.out] at hx483_0)
               cases e483
               replace p483 := eq_true p483
               replace q483 := eq_true q483
               go_wp2_with (first | ((with_reducible refine gate_builtin (b := .append) (xs := #[.tmp 69, .tmp 71]) rfl ?_); at_builtin; refine Kd.R_append (Kd.int .i64) (w0 := w) w.heap.size rfl (.tmp 69) (.tmp 71) 29 3 (.int .i64 0) 8 rfl Try.underlying29 info3 rfl (by decide) (by omega) u5 x5_3 x11_3 [.int .i64 x11_3] (fun _ => True) (fun _ => False) rfl rfl ?aP (fun _ hk => hk.elim) ?aF ?aO ?aB ?aS ?aL ?_; (case aP => exact rfl); (case aB => exact (by repeat (first | (with_reducible first | exact HB.out | apply below_alloc | apply pw_below_drewN | apply below_drew1) | exact HB.out))); (case aF => exact (fun _ _ => trivial)); (case aO => exact (by (with_reducible repeat (first | apply Kd.R_alloc | apply Kd.R_drewN | apply Kd.R_drew)); exact HO_5.out)); (case aS => exact (below_size (by repeat (first | (with_reducible first | exact HB.out | apply below_alloc | apply pw_below_drewN | apply below_drew1) | exact HB.out)))); (case aL => have := LMc69.out; omega); intro v485 w71 ho hb hg hat; rw [← Ny484.out] at ho; have n0_ := Aside0.mk (Kd.R_over' (by (with_reducible repeat (first | apply Kd.R_alloc | apply Kd.R_drewN | apply Kd.R_drew)); exact HO_6.out) (Kd.R_typed (by (with_reducible repeat (first | apply Kd.R_alloc | apply Kd.R_drewN | apply Kd.R_drew)); exact HO_5.out)) (by decide) hg); have n1_ := Aside0.mk (hb); have n2_ := Aside0.mk (ho); clear HO_6 HB HO_5; have HO_6 := n0_; have HB := n1_; have HO486 := n2_; clear n0_ n1_ n2_; clear ho hb hg hat))
               go_roundg k3
               case measure => have := HJ6.out; have := HK2.out; have := HK3.out; omega
               case rel => exact ⟨(y484), (wrap64 (x11_3 + 1)), (by first | rfl | (simp; done) | (simp [*]; done)), H', ⟨by have := HJ6.out; have := HK2.out; have := HK3.out; omega⟩, ⟨by (with_reducible repeat (first | apply Kd.R_alloc | apply Kd.R_drewN | apply Kd.R_drew)); exact HO486.out⟩, ⟨by (with_reducible repeat (first | apply Kd.R_alloc | apply Kd.R_drewN | apply Kd.R_drew)); exact HO_6.out⟩, ⟨by repeat (first | (with_reducible first | exact HB.out | apply below_alloc | apply pw_below_drewN | apply below_drew1) | exact HB.out)⟩⟩
              ·rw [if_neg c69] at H
               exact absurd H (by simp)
             ·replace c68 := Bool.eq_false_iff.mpr c68
              subst c68
              have H1 : (spec_Reached.l2 k3 x5_3 x6_2 (wrap64 (x11_3 + 1))) = some r := by rw [if_neg (show ¬ (false = true) by decide)] at H; exact H
              clear H
              have H := H1
              clear H1
              have H' := Aside0.mk H
              clear H
              obtain ⟨Ao72, co72, eo72⟩ := Kd.R_slice HO_6.out
              subst eo72
              have p483 : 0 ≤ (x11_3 : Int) := of_decide_eq_true (by first | (with_reducible assumption) | assumption)
              have q483 : x11_3 < (x6_2.length : Int) := of_decide_eq_true (by first | (with_reducible assumption) | assumption)
              obtain ⟨ad483, e483, hx483_0⟩ := Kd.at_bool (Kd.R_reads' HO_6.out).2.2 x11_3 p483 q483
              (try rw [← Nbq67.out] at hx483_0)
              cases e483
              replace p483 := eq_true p483
              replace q483 := eq_true q483
              go_wp2
              go_roundg k3
              case measure => have := HJ6.out; have := HK2.out; have := HK3.out; omega
              case rel => exact ⟨(x5_3), (wrap64 (x11_3 + 1)), (by first | rfl | (simp; done) | (simp [*]; done)), H', ⟨by have := HJ6.out; have := HK2.out; have := HK3.out; omega⟩, ⟨by (with_reducible repeat (first | apply Kd.R_alloc | apply Kd.R_drewN | apply Kd.R_drew)); exact HO_5.out⟩, ⟨by (with_reducible repeat (first | apply Kd.R_alloc | apply Kd.R_drewN | apply Kd.R_drew)); exact HO_6.out⟩, ⟨by repeat (first | (with_reducible first | exact HB.out | apply below_alloc | apply pw_below_drewN | apply below_drew1) | exact HB.out)⟩⟩
            ·rw [if_neg c66] at H
             exact absurd H (by simp)
           ·rw [if_neg c65] at H
            exact absurd H (by simp)
          ·rw [if_neg c64] at H
           have c64b0 : decide (x11_3 ≤ 50) = false := decide_eq_false c64
           clear c64
           obtain rfl := Option.some.inj H
           go_wp2
           go_ret
           exact ⟨_, by first | rfl | (simp [errW_none, errW_some] <;> rfl) | (simp [*, errW_none, errW_some] <;> rfl), by (with_reducible repeat (first | apply Kd.R_alloc | apply Kd.R_drewN | apply Kd.R_drew)); exact HO_5.out, by repeat (first | (with_reducible first | exact HB.out | apply below_alloc | apply pw_below_drewN | apply below_drew1) | exact HB.out)⟩
  ·rw [if_neg c5] at H
   exact absurd H (by simp)
 ·replace c4 := Bool.eq_false_iff.mpr c4
  subst c4
  have H1 : (some y461) = some r := by rw [if_neg (show ¬ (false = true) by decide)] at H; exact H
  clear H
  have H := H1
  clear H1
  obtain rfl := Option.some.inj H
  go_enter Try.func32, Try.ntmps32
  go_wp2_with (first | ((with_reducible refine gate_dst (N := 12) rfl ?_); refine Kd.R_lit (Kd.int .i64) _ 3 ?hg (N := 12) ?hd (xs := ([] : List Int)) (inner := []) (ok := fun _ => True) (okp := fun _ => True) ?hr ?hp (fun _ hk => hk) trivial (Below.refl _ _) (Nat.le_refl _) (by simp) ?_; (case hd => rfl); (case hg => rfl); (case hr => first | (go_simp; done) | (go_simp; rfl)); (case hp => exact (Reps.none _ _)); intro v462 w73 ho74 hb hg_ hnew_; clear hg_ hnew_; (first | rw [← Ny461.out] at ho74 | (simp only [Int.reduceToNat] at ho74; rw [← Ny461.out] at ho74)); have n0_ := Aside0.mk (Kd.R_lower ho74 (below_size (by repeat (first | (with_reducible first | exact HB.out | apply below_alloc | apply pw_below_drewN | apply below_drew1) | exact HB.out)))); have n1_ := Aside0.mk (below_step (by repeat (first | (with_reducible first | exact HB.out | apply below_alloc | apply pw_below_drewN | apply below_drew1) | exact HB.out)) hb); clear HB; have HO463 := n0_; have HB := n1_; clear n0_ n1_; clear hb ho74) | ((with_reducible refine gate_callee (f := 33) rfl ?_); refine goesL_ (some 14) rfl rfl Try.func33 (by kernel_rfl) rfl #[.slice A0 l0.length c0] rfl (by (try simp only [List.map_toArray, List.map_cons, List.map_nil]); first | done | rfl | (simp only [List.length_drop, List.length_take]; rfl)) ?_; (with_reducible refine (spec_UsesOk.calls k _ _ l0 false _ ?side1 ?side2 A3.out).mono ?_); (case side1 => repeat (first | exact (Kd.C_below HR0.out HB.out) | (with_reducible refine Kd.C_alloc ?_ _) | (with_reducible refine Kd.C_drewN ?_ _) | (with_reducible refine Kd.C_drew ?_))); (case side2 => exact HC0.out); rintro e w' ⟨rfl, ⟨nd, rfl⟩⟩; refine ⟨_, rfl, ?_⟩))
  go_ret
  exact ⟨_, by first | rfl | (simp [errW_none, errW_some] <;> rfl) | (simp [*, errW_none, errW_some] <;> rfl), by (with_reducible repeat (first | apply Kd.R_alloc | apply Kd.R_drewN | apply Kd.R_drew)); exact HO463.out, by repeat (first | (with_reducible first | exact HB.out | apply below_alloc | apply pw_below_drewN | apply below_drew1) | exact HB.out)⟩

end Go.Proofs.Ythdgbngnddkkiaa.PHX
