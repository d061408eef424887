-- Written by a program of this session (wip/hprint.py, over the kit's print).
import Derived.Test.YtjfehhdgfpodhaaPFLx0
import Derived.Test.YtjfehhdgfpodhaaPFLx3
import Derived.Test.YtjfehhdgfpodhaaPFLx6
import Derived.Test.YtjfehhdgfpodhaaPFLx7
import Derived.Test.YtjfehhdgfpodhaaPFLx8
import Derived.Test.YtjfehhdgfpodhaaPFLx9
namespace Go.Proofs.Ytjfehhdgfpodhaa.PFL
open Go.RowKit Go.Proofs.YtjfehhdgfpodhaaW.PrintWords Go.Proofs.YtjfehhdgfpodhaaW.PrintLast Go.Proofs.YtjfehhdgfpodhaaW.PrintMore
attribute [local go_sem] max2_int min2_int max_two min_two max_three min_three max_four min_four   -- for this text's walks alone
set_option linter.unusedVariables false
set_option linter.unusedSimpArgs false

/-! ### spec_CanLearn: function 33 -/
mutual
def spec_CanLearn.j0 : Nat → List (S34) → List Int → List Int → Bool → Option (List Int)
 | 0, _, _, _, _ => none
 | k + 1, x0, x1, x5, x20 => if x20 = true then (some x5) else (spec_CanLearn.l0 k x0 x1 x5 0)
def spec_CanLearn.l0 : Nat → List (S34) → List Int → List Int → Int → Option (List Int)
 | 0, _, _, _, _ => none
 | k + 1, x0, x1, x5, x6 => if x6 < (x0.length : Int) then ((spec_l17Has.f k x1 x6).bind fun t375 => (spec_CanLearn.l1 k x0 x1 x5 x6 (!t375) 0)) else (some x5)
def spec_CanLearn.l1 : Nat → List (S34) → List Int → List Int → Int → Bool → Int → Option (List Int)
 | 0, _, _, _, _, _, _ => none
 | k + 1, x0, x1, x5, x6, x7, x8 => if 0 ≤ x6 then (if x6 < (x0.length : Int) then (if x8 < (((rd_T34 x0 x6).f0).length : Int) then (if x7 = true then (if 0 ≤ x8 then ((spec_l17Has.f k x1 (rd ((rd_T34 x0 x6).f0) x8)).bind fun t379 => (spec_CanLearn.l1 k x0 x1 x5 x6 t379 (wrap64 (x8 + 1)))) else (none)) else (spec_CanLearn.l1 k x0 x1 x5 x6 false (wrap64 (x8 + 1)))) else (if x7 = true then (if x5.length < 17592186044416 then (spec_CanLearn.l0 k x0 x1 (x5 ++ [x6]) (wrap64 (x6 + 1))) else (none)) else (spec_CanLearn.l0 k x0 x1 x5 (wrap64 (x6 + 1))))) else (none)) else (none)
end
def spec_CanLearn.f (k : Nat) (l0 : List (S34)) (l1 : List Int) : Option (List Int) := (some (([] : List Int) : List Int)).bind fun y370 => ((spec_SkillsOk.f k l0).bind fun t373 => (if t373 = true then ((spec_l20Rising.f k l1 0 (wrap64 ((l0.length : Int) - 1))).bind fun t374 => (spec_CanLearn.j0 k l0 l1 y370 (!t374))) else (spec_CanLearn.j0 k l0 l1 y370 true)))
theorem spec_CanLearn.mono_l : ∀ k, (∀ y0 y1 y2 y3, LeO (spec_CanLearn.j0 k y0 y1 y2 y3) (spec_CanLearn.j0 (k + 1) y0 y1 y2 y3)) ∧ (∀ y0 y1 y2 y3, LeO (spec_CanLearn.l0 k y0 y1 y2 y3) (spec_CanLearn.l0 (k + 1) y0 y1 y2 y3)) ∧ (∀ y0 y1 y2 y3 y4 y5, LeO (spec_CanLearn.l1 k y0 y1 y2 y3 y4 y5) (spec_CanLearn.l1 (k + 1) y0 y1 y2 y3 y4 y5))
 | 0 => ⟨fun _ _ _ _ r h => by simp [spec_CanLearn.j0] at h, fun _ _ _ _ r h => by simp [spec_CanLearn.l0] at h, fun _ _ _ _ _ _ r h => by simp [spec_CanLearn.l1] at h⟩
 | k + 1 => by
  obtain ⟨ih0, ih1, ih2⟩ := spec_CanLearn.mono_l k
  refine ⟨?_, ?_, ?_⟩
  ·intro y0 y1 y2 y3
   unfold spec_CanLearn.j0
   repeat' first
   | (with_reducible exact ih0 _ _ _ _)
   | (with_reducible exact ih1 _ _ _ _)
   | (with_reducible exact ih2 _ _ _ _ _ _)
   | (with_reducible exact spec_SkillsOk.mono _ _)
   | (with_reducible exact spec_l17Has.mono _ _ _)
   | (with_reducible exact spec_l20Rising.mono _ _ _ _)
   | (with_reducible exact LeO.refl _)
   | (with_reducible exact LeO.none _)
   | (with_reducible refine LeO.ite ?_ ?_)
   | (with_reducible refine LeO.bind ?_ (fun _ => ?_))
   | exact ih0 _ _ _ _
   | exact ih1 _ _ _ _
   | exact ih2 _ _ _ _ _ _
   | exact spec_SkillsOk.mono _ _
   | exact spec_l17Has.mono _ _ _
   | exact spec_l20Rising.mono _ _ _ _
   | exact LeO.none _
   | refine LeO.ite ?_ ?_
   | refine LeO.bind ?_ (fun _ => ?_)
  ·intro y0 y1 y2 y3
   unfold spec_CanLearn.l0
   repeat' first
   | (with_reducible exact ih0 _ _ _ _)
   | (with_reducible exact ih1 _ _ _ _)
   | (with_reducible exact ih2 _ _ _ _ _ _)
   | (with_reducible exact spec_SkillsOk.mono _ _)
   | (with_reducible exact spec_l17Has.mono _ _ _)
   | (with_reducible exact spec_l20Rising.mono _ _ _ _)
   | (with_reducible exact LeO.refl _)
   | (with_reducible exact LeO.none _)
   | (with_reducible refine LeO.ite ?_ ?_)
   | (with_reducible refine LeO.bind ?_ (fun _ => ?_))
   | exact ih0 _ _ _ _
   | exact ih1 _ _ _ _
   | exact ih2 _ _ _ _ _ _
   | exact spec_SkillsOk.mono _ _
   | exact spec_l17Has.mono _ _ _
   | exact spec_l20Rising.mono _ _ _ _
   | exact LeO.none _
   | refine LeO.ite ?_ ?_
   | refine LeO.bind ?_ (fun _ => ?_)
  ·intro y0 y1 y2 y3 y4 y5
   unfold spec_CanLearn.l1
   repeat' first
   | (with_reducible exact ih0 _ _ _ _)
   | (with_reducible exact ih1 _ _ _ _)
   | (with_reducible exact ih2 _ _ _ _ _ _)
   | (with_reducible exact spec_SkillsOk.mono _ _)
   | (with_reducible exact spec_l17Has.mono _ _ _)
   | (with_reducible exact spec_l20Rising.mono _ _ _ _)
   | (with_reducible exact LeO.refl _)
   | (with_reducible exact LeO.none _)
   | (with_reducible refine LeO.ite ?_ ?_)
   | (with_reducible refine LeO.bind ?_ (fun _ => ?_))
   | exact ih0 _ _ _ _
   | exact ih1 _ _ _ _
   | exact ih2 _ _ _ _ _ _
   | exact spec_SkillsOk.mono _ _
   | exact spec_l17Has.mono _ _ _
   | exact spec_l20Rising.mono _ _ _ _
   | exact LeO.none _
   | refine LeO.ite ?_ ?_
   | refine LeO.bind ?_ (fun _ => ?_)
theorem spec_CanLearn.mono : ∀ a0 a1 k, LeO (spec_CanLearn.f k a0 a1) (spec_CanLearn.f (k + 1) a0 a1) := by
 intro a0 a1 k
 obtain ⟨ih0, ih1, ih2⟩ := spec_CanLearn.mono_l k
 unfold spec_CanLearn.f
 repeat' first
   | (with_reducible exact ih0 _ _ _ _)
   | (with_reducible exact ih1 _ _ _ _)
   | (with_reducible exact ih2 _ _ _ _ _ _)
   | (with_reducible exact spec_SkillsOk.mono _ _)
   | (with_reducible exact spec_l17Has.mono _ _ _)
   | (with_reducible exact spec_l20Rising.mono _ _ _ _)
   | (with_reducible exact LeO.refl _)
   | (with_reducible exact LeO.none _)
   | (with_reducible refine LeO.ite ?_ ?_)
   | (with_reducible refine LeO.bind ?_ (fun _ => ?_))
   | exact ih0 _ _ _ _
   | exact ih1 _ _ _ _
   | exact ih2 _ _ _ _ _ _
   | exact spec_SkillsOk.mono _ _
   | exact spec_l17Has.mono _ _ _
   | exact spec_l20Rising.mono _ _ _ _
   | exact LeO.none _
   | refine LeO.ite ?_ ?_
   | refine LeO.bind ?_ (fun _ => ?_)
set_option maxHeartbeats 8000000 in
set_option maxRecDepth 100000 in
theorem spec_CanLearn.calls (k : Nat) (A0 : Option Addr) (c0 : Nat) (l0 : List (S34)) (A1 : Option Addr) (c1 : Nat) (l1 : List Int) (r : List Int) (w : World) (hr0 : Kd.C k34 w A0 l0.length l0) (hc0 : l0.length ≤ c0) (hr1 : Kd.C (Kd.int .i64) w A1 l1.length l1) (hc1 : l1.length ≤ c1) (h : spec_CanLearn.f k l0 l1 = some r) :
  Calls Try.prog 33 #[.slice A0 l0.length c0, .slice A1 l1.length c1] w fun e w' => ∃ v0_ : Value, e = .returned (v0_) ∧ Kd.R (Kd.int .i64) 3 w' w.heap.size (fun _ => True) v0_ r ∧ Below w.heap.size w w' := by
 have HR0 := Aside0.mk hr0
 have HC0 := Aside0.mk hc0
 clear hr0 hc0
 have HR1 := Aside0.mk hr1
 have HC1 := Aside0.mk hc1
 clear hr1 hc1
 have HB := Aside0.mk (Below.refl w.heap.size w)
 have H : ((some (([] : List Int) : List Int)).bind fun y370 => ((spec_SkillsOk.f k l0).bind fun t373 => (if t373 = true then ((spec_l20Rising.f k l1 0 (wrap64 ((l0.length : Int) - 1))).bind fun t374 => (spec_CanLearn.j0 k l0 l1 y370 (!t374))) else (spec_CanLearn.j0 k l0 l1 y370 true)))) = some r := h
 clear h
 obtain ⟨y370, hy370⟩ : ∃ y_ : List Int, y_ = (([] : List Int)) := ⟨_, rfl⟩
 replace H : ((spec_SkillsOk.f k l0).bind fun t373 => (if t373 = true then ((spec_l20Rising.f k l1 0 (wrap64 ((l0.length : Int) - 1))).bind fun t374 => (spec_CanLearn.j0 k l0 l1 y370 (!t374))) else (spec_CanLearn.j0 k l0 l1 y370 true))) = some r := by first | (rw [hy370]; with_reducible exact H) | (have H2_ := (Option.bind_some _ _).symm.trans H; rw [hy370]; with_reducible exact H2_) | (have H2_ := (Option.bind_some _ _).symm.trans H; with_reducible exact H2_) | with_reducible exact H | (rw [hy370]; exact H) | exact H
 have Ny370 := Aside0.mk hy370
 clear hy370
 have HC3 := Aside0.mk H
 clear H
 go_enter Try.func33, Try.ntmps33
 go_upto_region 2 with (first | ((with_reducible refine gate_dst (N := 9) rfl ?_); (try (refine gate_guard (by rfl) ?_; dsimp only)); refine Kd.R_lit (Kd.int .i64) _ 3 ?hg (N := 9) ?hd (xs := ([] : List Int)) (inner := []) (ok := fun _ => True) (okp := fun _ => True) ?hr ?hp (fun _ hk => hk) trivial (Below.refl _ _) (Nat.le_refl _) (by simp) ?_; (case hd => rfl); (case hg => rfl); (case hr => first | (go_simp; done) | (go_simp; rfl)); (case hp => exact (Reps.none _ _)); intro v371 w4 ho5 hb hg_ hnew_; clear hg_ hnew_; (first | rw [← Ny370.out] at ho5 | (simp only [Int.reduceToNat] at ho5; rw [← Ny370.out] at ho5)); have n0_ := Aside0.mk (Kd.R_lower ho5 (below_size (by repeat (first | (with_reducible first | exact HB.out | apply below_alloc | apply pw_below_drewN | apply below_drew1) | exact HB.out)))); have n1_ := Aside0.mk (below_step (by repeat (first | (with_reducible first | exact HB.out | apply below_alloc | apply pw_below_drewN | apply below_drew1) | exact HB.out)) hb); clear HB; have HO372 := n0_; have HB := n1_; clear n0_ n1_; clear hb ho5))
 (try simp only [Act.put, List.setIfInBounds_toArray, List.set_cons_zero, List.set_cons_succ])
 go_cut [20] (fun v20 wc => ∃ (kq : Nat) (x20_2 : Bool), v20 = .bool x20_2 ∧ Aside0 (spec_CanLearn.j0 kq l0 l1 y370 x20_2 = some r) ∧ Aside0 (kq ≤ k) ∧ Aside0 (Kd.R (Kd.int .i64) 3 wc w.heap.size (fun _ => True) v371 y370) ∧ Aside0 (Below w.heap.size w wc))
 case first =>
  have H := HC3.out
  clear HC3
  replace H := Option.bind_eq_some_iff.mp H
  obtain ⟨t373, A60, H⟩ := H
  replace H : (if t373 = true then ((spec_l20Rising.f k l1 0 (wrap64 ((l0.length : Int) - 1))).bind fun t374 => (spec_CanLearn.j0 k l0 l1 y370 (!t374))) else (spec_CanLearn.j0 k l0 l1 y370 true)) = some r := H
  have A6 := Aside0.mk A60
  clear A60
  by_cases c7 : t373 = true
  ·subst c7
   have H1 : ((spec_l20Rising.f k l1 0 (wrap64 ((l0.length : Int) - 1))).bind fun t374 => (spec_CanLearn.j0 k l0 l1 y370 (!t374))) = some r := by rw [if_pos rfl] at H; exact H
   clear H
   have H := H1
   clear H1
   replace H := Option.bind_eq_some_iff.mp H
   obtain ⟨t374, A80, H⟩ := H
   replace H : (spec_CanLearn.j0 k l0 l1 y370 (!t374)) = some r := H
   have A8 := Aside0.mk A80
   clear A80
   have H' := Aside0.mk H
   clear H
   go_wp2_with (first | ((with_reducible refine gate_callee (f := 21) rfl ?_); refine goesL_ (some 11) rfl rfl Try.func21 (by kernel_rfl) rfl #[.slice A0 l0.length c0] rfl (by (try simp only [List.map_toArray, List.map_cons, List.map_nil]); first | done | rfl | (simp only [List.length_drop, List.length_take]; rfl)) ?_; (with_reducible refine (spec_SkillsOk.calls k _ _ l0 true _ ?side1 ?side2 A6.out).mono ?_); (case side1 => repeat (first | exact (Kd.C_below HR0.out HB.out) | (with_reducible refine Kd.C_alloc ?_ _) | (with_reducible refine Kd.C_drewN ?_ _) | (with_reducible refine Kd.C_drew ?_))); (case side2 => exact HC0.out); rintro e w9 ⟨rfl, hb⟩; refine ⟨_, rfl, ?_⟩; have n0_ := Aside0.mk (Kd.R_below (by (with_reducible repeat (first | apply Kd.R_alloc | apply Kd.R_drewN | apply Kd.R_drew)); exact HO372.out) hb); have n1_ := Aside0.mk (below_step (by repeat (first | (with_reducible first | exact HB.out | apply below_alloc | apply pw_below_drewN | apply below_drew1) | exact HB.out)) hb); clear HO372 HB; have HO372 := n0_; have HB := n1_; clear n0_ n1_; (try clear hb); (try clear hb2); (try clear hk); (try clear hi)) | (go_at_call 46; (with_reducible refine (spec_l20Rising.calls k _ _ l1 0 (wrap64 ((l0.length : Int) - 1)) t374 _ ?side1 ?side2 A8.out).mono ?_); (case side1 => repeat (first | exact (Kd.C_below HR1.out HB.out) | (with_reducible refine Kd.C_alloc ?_ _) | (with_reducible refine Kd.C_drewN ?_ _) | (with_reducible refine Kd.C_drew ?_))); (case side2 => exact HC1.out); rintro e w' ⟨rfl, ⟨nd, rfl⟩⟩))
   go_meet
   case rel => exact ⟨_, (!t374), (by first | rfl | (simp; done) | (simp [*]; done)), H', ⟨by first | omega | exact Nat.le_refl _⟩, ⟨by (with_reducible repeat (first | apply Kd.R_alloc | apply Kd.R_drewN | apply Kd.R_drew)); exact HO372.out⟩, ⟨by repeat (first | (with_reducible first | exact HB.out | apply below_alloc | apply pw_below_drewN | apply below_drew1) | exact HB.out)⟩⟩
  ·replace c7 := Bool.eq_false_iff.mpr c7
   subst c7
   have H1 : (spec_CanLearn.j0 k l0 l1 y370 true) = some r := by rw [if_neg (show ¬ (false = true) by decide)] at H; exact H
   clear H
   have H := H1
   clear H1
   have H' := Aside0.mk H
   clear H
   go_wp2_with (first | ((with_reducible refine gate_callee (f := 21) rfl ?_); refine goesL_ (some 11) rfl rfl Try.func21 (by kernel_rfl) rfl #[.slice A0 l0.length c0] rfl (by (try simp only [List.map_toArray, List.map_cons, List.map_nil]); first | done | rfl | (simp only [List.length_drop, List.length_take]; rfl)) ?_; (with_reducible refine (spec_SkillsOk.calls k _ _ l0 false _ ?side1 ?side2 A6.out).mono ?_); (case side1 => repeat (first | exact (Kd.C_below HR0.out HB.out) | (with_reducible refine Kd.C_alloc ?_ _) | (with_reducible refine Kd.C_drewN ?_ _) | (with_reducible refine Kd.C_drew ?_))); (case side2 => exact HC0.out); rintro e w10 ⟨rfl, hb⟩; refine ⟨_, rfl, ?_⟩; have n0_ := Aside0.mk (Kd.R_below (by (with_reducible repeat (first | apply Kd.R_alloc | apply Kd.R_drewN | apply Kd.R_drew)); exact HO372.out) hb); have n1_ := Aside0.mk (below_step (by repeat (first | (with_reducible first | exact HB.out | apply below_alloc | apply pw_below_drewN | apply below_drew1) | exact HB.out)) hb); clear HO372 HB; have HO372 := n0_; have HB := n1_; clear n0_ n1_; (try clear hb); (try clear hb2); (try clear hk); (try clear hi)))
   go_meet
   case rel => exact ⟨_, (true), (by first | rfl | (simp; done) | (simp [*]; done)), H', ⟨by first | omega | exact Nat.le_refl _⟩, ⟨by (with_reducible repeat (first | apply Kd.R_alloc | apply Kd.R_drewN | apply Kd.R_drew)); exact HO372.out⟩, ⟨by repeat (first | (with_reducible first | exact HB.out | apply below_alloc | apply pw_below_drewN | apply below_drew1) | exact HB.out)⟩⟩
 case rest =>
  clear HC3
  try clear c1
  try clear c2
  try clear p2
  try clear c3
  try clear p6
  try clear c7
  obtain ⟨kq, x20_2, rfl, HA, HJ2, HO_5, HB⟩ := hcut
  cases kq with
  | zero => exact absurd HA.out (by simp [spec_CanLearn.j0])
  | succ kj2 =>
   have H := HA.out
   clear HA
   simp only [spec_CanLearn.j0] at H
   by_cases c11 : x20_2 = true
   ·subst c11
    have H1 : (some y370) = some r := by rw [if_pos rfl] at H; exact H
    clear H
    have H := H1
    clear H1
    obtain rfl := Option.some.inj H
    go_wp2
    go_ret
    exact ⟨_, by first | rfl | (simp [errW_none, errW_some] <;> rfl) | (simp [*, errW_none, errW_some] <;> rfl), by (with_reducible repeat (first | apply Kd.R_alloc | apply Kd.R_drewN | apply Kd.R_drew)); exact HO_5.out, by repeat (first | (with_reducible first | exact HB.out | apply below_alloc | apply pw_below_drewN | apply below_drew1) | exact HB.out)⟩
   ·replace c11 := Bool.eq_false_iff.mpr c11
    subst c11
    have H1 : (spec_CanLearn.l0 kj2 l0 l1 y370 0) = some r := by rw [if_neg (show ¬ (false = true) by decide)] at H; exact H
    clear H
    have H := H1
    clear H1
    have H' := Aside0.mk H
    clear H
    go_wp2
    go_loopg [5, 6] kj2 (fun kq v5 v6 w' => ∃ (x5_2 : List Int) (x6_2 : Int), v6 = .int .i64 x6_2 ∧ Aside0 (spec_CanLearn.l0 kq l0 l1 x5_2 x6_2 = some r) ∧ Aside0 (kq ≤ kj2) ∧ Aside0 (Kd.R (Kd.int .i64) 3 w' w.heap.size (fun _ => True) v5 x5_2) ∧ Aside0 (Below w.heap.size w w'))
    case atStart => exact ⟨(y370), (0), (by first | rfl | (simp; done) | (simp [*]; done)), H', ⟨Nat.le_refl _⟩, ⟨by (with_reducible repeat (first | apply Kd.R_alloc | apply Kd.R_drewN | apply Kd.R_drew)); exact HO_5.out⟩, ⟨by repeat (first | (with_reducible first | exact HB.out | apply below_alloc | apply pw_below_drewN | apply below_drew1) | exact HB.out)⟩⟩
    case round =>
     clear H'
     try clear c1
     try clear c2
     try clear p2
     try clear c3
     try clear p6
     try clear c7
     try clear c11
     try clear p2
     try clear p6
     obtain ⟨x5_2, x6_2, rfl, HA, HK2, HO_5, HB⟩ := hrel
     cases gk with
     | zero => exact absurd HA.out (by simp [spec_CanLearn.l0])
     | succ k2 =>
      have H := HA.out
      clear HA
      simp only [spec_CanLearn.l0] at H
      by_cases c12 : x6_2 < (l0.length : Int)
      ·rw [if_pos c12] at H
       have c12b0 : decide (x6_2 < (l0.length : Int)) = true := decide_eq_true c12
       clear c12
       replace H := Option.bind_eq_some_iff.mp H
       obtain ⟨t375, A130, H⟩ := H
       replace H : (spec_CanLearn.l1 k2 l0 l1 x5_2 x6_2 (!t375) 0) = some r := H
       have A13 := Aside0.mk A130
       clear A130
       have H' := Aside0.mk H
       clear H
       go_wp2_with (first | ((with_reducible refine gate_callee (f := 47) rfl ?_); refine goesL_ (some 30) rfl rfl Try.func47 (by kernel_rfl) rfl #[.slice A1 l1.length c1, .int .i64 x6_2] rfl (by (try simp only [List.map_toArray, List.map_cons, List.map_nil]); first | done | rfl | (simp only [List.length_drop, List.length_take]; rfl)) ?_; (with_reducible refine (spec_l17Has.calls k2 _ _ l1 x6_2 t375 _ ?side1 ?side2 A13.out).mono ?_); (case side1 => repeat (first | exact (Kd.C_below HR1.out HB.out) | (with_reducible refine Kd.C_alloc ?_ _) | (with_reducible refine Kd.C_drewN ?_ _) | (with_reducible refine Kd.C_drew ?_))); (case side2 => exact HC1.out); rintro e w' ⟨rfl, ⟨nd, rfl⟩⟩; refine ⟨_, rfl, ?_⟩))
       go_loopg [7, 8] k2 (fun kq v7 v8 w' => ∃ (x7_3 : Bool) (x8_3 : Int), v7 = .bool x7_3 ∧ v8 = .int .i64 x8_3 ∧ Aside0 (spec_CanLearn.l1 kq l0 l1 x5_2 x6_2 x7_3 x8_3 = some r) ∧ Aside0 (kq ≤ k2) ∧ Aside0 (Kd.R (Kd.int .i64) 3 w' w.heap.size (fun _ => True) u5 x5_2) ∧ Aside0 (Below w.heap.size w w'))
       case atStart => exact ⟨(!t375), (0), (by first | rfl | (simp; done) | (simp [*]; done)), (by first | rfl | (simp; done) | (simp [*]; done)), H', ⟨Nat.le_refl _⟩, ⟨by (with_reducible repeat (first | apply Kd.R_alloc | apply Kd.R_drewN | apply Kd.R_drew)); exact HO_5.out⟩, ⟨by repeat (first | (with_reducible first | exact HB.out | apply below_alloc | apply pw_below_drewN | apply below_drew1) | exact HB.out)⟩⟩
       case round =>
        clear H'
        try clear c1
        try clear c2
        try clear p2
        try clear c3
        try clear c4
        try clear p6
        try clear c7
        try clear c11
        try clear c12
        try clear c12b0
        try clear p2
        try clear p6
        obtain ⟨x7_3, x8_3, rfl, rfl, HA, HK3, HO_5, HB⟩ := hrel
        cases gk with
        | zero => exact absurd HA.out (by simp [spec_CanLearn.l1])
        | succ k3 =>
         have H := HA.out
         clear HA
         simp only [spec_CanLearn.l1] at H
         by_cases c14 : 0 ≤ x6_2
         ·rw [if_pos c14] at H
          have c14b0 : decide (0 ≤ x6_2) = true := decide_eq_true c14
          clear c14
          by_cases c15 : x6_2 < (l0.length : Int)
          ·rw [if_pos c15] at H
           have c15b0 : decide (x6_2 < (l0.length : Int)) = true := decide_eq_true c15
           clear c15
           by_cases c16 : x8_3 < (((rd_T34 l0 x6_2).f0).length : Int)
           ·rw [if_pos c16] at H
            have c16b0 : decide (x8_3 < (((rd_T34 l0 x6_2).f0).length : Int)) = true := decide_eq_true c16
            clear c16
            by_cases c17 : x7_3 = true
            ·subst c17
             have H1 : (if 0 ≤ x8_3 then ((spec_l17Has.f k3 l1 (rd ((rd_T34 l0 x6_2).f0) x8_3)).bind fun t379 => (spec_CanLearn.l1 k3 l0 l1 x5_2 x6_2 t379 (wrap64 (x8_3 + 1)))) else (none)) = some r := by rw [if_pos rfl] at H; exact H
             clear H
             have H := H1
             clear H1
             by_cases c18 : 0 ≤ x8_3
             ·rw [if_pos c18] at H
              have c18b0 : decide (0 ≤ x8_3) = true := decide_eq_true c18
              clear c18
              replace H := Option.bind_eq_some_iff.mp H
              obtain ⟨t379, A190, H⟩ := H
              replace H : (spec_CanLearn.l1 k3 l0 l1 x5_2 x6_2 t379 (wrap64 (x8_3 + 1))) = some r := H
              have A19 := Aside0.mk A190
              clear A190
              have H' := Aside0.mk H
              clear H
              have p376 : 0 ≤ (x6_2 : Int) := of_decide_eq_true (by first | (with_reducible assumption) | assumption)
              have q376 : x6_2 < (l0.length : Int) := of_decide_eq_true (by first | (with_reducible assumption) | assumption)
              obtain ⟨ad376, A376_0, c376_0, e376, hx376_0, hx376_1, hl376_0, hi376_0⟩ := at_T34 HR0.out x6_2 p376 q376
              cases e376
              replace hx376_0 := (HB.out.cell (World.block_lt_of_cell? w _ hx376_0)).trans hx376_0
              replace hx376_1 := (HB.out.cell (World.block_lt_of_cell? w _ hx376_1)).trans hx376_1
              have HR376_0 := Aside0.mk hi376_0
              have HC376_0 := Aside0.mk hl376_0
              clear hi376_0 hl376_0
              replace p376 := eq_true p376
              replace q376 := eq_true q376
              have p377 : 0 ≤ (x6_2 : Int) := of_decide_eq_true (by first | (with_reducible assumption) | assumption)
              have q377 : x6_2 < (l0.length : Int) := of_decide_eq_true (by first | (with_reducible assumption) | assumption)
              obtain ⟨ad377, A377_0, c377_0, e377, hx377_0, hx377_1, hl377_0, hi377_0⟩ := at_T34 HR0.out x6_2 p377 q377
              obtain rfl : ad376 = ad377 := (by injection e377)
              replace hx377_0 := (HB.out.cell (World.block_lt_of_cell? w _ hx377_0)).trans hx377_0
              replace hx377_1 := (HB.out.cell (World.block_lt_of_cell? w _ hx377_1)).trans hx377_1
              have HR377_0 := Aside0.mk hi377_0
              have HC377_0 := Aside0.mk hl377_0
              clear hi377_0 hl377_0
              replace p377 := eq_true p377
              replace q377 := eq_true q377
              have ea_ := Option.some.inj (hx376_0.symm.trans hx377_0)
              injection ea_ with ea_ en_ ec_
              subst ea_
              subst ec_
              clear en_
              have p378 : 0 ≤ (x8_3 : Int) := of_decide_eq_true (by first | (with_reducible assumption) | assumption)
              have q378 : x8_3 < (((rd_T34 l0 x6_2).f0).length : Int) := of_decide_eq_true (by first | (with_reducible assumption) | assumption)
              obtain ⟨ad378, e378, hx378_0⟩ := Kd.at_int HR377_0.out x8_3 p378 q378
              cases e378
              replace hx378_0 := (HB.out.cell (World.block_lt_of_cell? w _ hx378_0)).trans hx378_0
              replace p378 := eq_true p378
              replace q378 := eq_true q378
              go_wp2_with (first | (go_at_call 47; (with_reducible refine (spec_l17Has.calls k3 _ _ l1 (rd ((rd_T34 l0 x6_2).f0) x8_3) t379 _ ?side1 ?side2 A19.out).mono ?_); (case side1 => repeat (first | exact (Kd.C_below HR1.out HB.out) | (with_reducible refine Kd.C_alloc ?_ _) | (with_reducible refine Kd.C_drewN ?_ _) | (with_reducible refine Kd.C_drew ?_))); (case side2 => exact HC1.out); rintro e w' ⟨rfl, ⟨nd, rfl⟩⟩))
              go_roundg k3
              case measure => have := HJ2.out; have := HK2.out; have := HK3.out; omega
              case rel => exact ⟨(t379), (wrap64 (x8_3 + 1)), (by first | rfl | (simp; done) | (simp [*]; done)), (by first | rfl | (simp; done) | (simp [*]; done)), H', ⟨by have := HJ2.out; have := HK2.out; have := HK3.out; omega⟩, ⟨by (with_reducible repeat (first | apply Kd.R_alloc | apply Kd.R_drewN | apply Kd.R_drew)); exact HO_5.out⟩, ⟨by repeat (first | (with_reducible first | exact HB.out | apply below_alloc | apply pw_below_drewN | apply below_drew1) | exact HB.out)⟩⟩
             ·rw [if_neg c18] at H
              exact absurd H (by simp)
            ·replace c17 := Bool.eq_false_iff.mpr c17
             subst c17
             have H1 : (spec_CanLearn.l1 k3 l0 l1 x5_2 x6_2 false (wrap64 (x8_3 + 1))) = some r := by rw [if_neg (show ¬ (false = true) by decide)] at H; exact H
             clear H
             have H := H1
             clear H1
             have H' := Aside0.mk H
             clear H
             have p376 : 0 ≤ (x6_2 : Int) := of_decide_eq_true (by first | (with_reducible assumption) | assumption)
             have q376 : x6_2 < (l0.length : Int) := of_decide_eq_true (by first | (with_reducible assumption) | assumption)
             obtain ⟨ad376, A376_0, c376_0, e376, hx376_0, hx376_1, hl376_0, hi376_0⟩ := at_T34 HR0.out x6_2 p376 q376
             cases e376
             replace hx376_0 := (HB.out.cell (World.block_lt_of_cell? w _ hx376_0)).trans hx376_0
             replace hx376_1 := (HB.out.cell (World.block_lt_of_cell? w _ hx376_1)).trans hx376_1
             have HR376_0 := Aside0.mk hi376_0
             have HC376_0 := Aside0.mk hl376_0
             clear hi376_0 hl376_0
             replace p376 := eq_true p376
             replace q376 := eq_true q376
             go_wp2
             go_roundg k3
             case measure => have := HJ2.out; have := HK2.out; have := HK3.out; omega
             case rel => exact ⟨(false), (wrap64 (x8_3 + 1)), (by first | rfl | (simp; done) | (simp [*]; done)), (by first | rfl | (simp; done) | (simp [*]; done)), H', ⟨by have := HJ2.out; have := HK2.out; have := HK3.out; omega⟩, ⟨by (with_reducible repeat (first | apply Kd.R_alloc | apply Kd.R_drewN | apply Kd.R_drew)); exact HO_5.out⟩, ⟨by repeat (first | (with_reducible first | exact HB.out | apply below_alloc | apply pw_below_drewN | apply below_drew1) | exact HB.out)⟩⟩
           ·rw [if_neg c16] at H
            have c16b0 : decide (x8_3 < (((rd_T34 l0 x6_2).f0).length : Int)) = false := decide_eq_false c16
            clear c16
            by_cases c20 : x7_3 = true
            ·subst c20
             have H1 : (if x5_2.length < 17592186044416 then (spec_CanLearn.l0 k3 l0 l1 (x5_2 ++ [x6_2]) (wrap64 (x6_2 + 1))) else (none)) = some r := by rw [if_pos rfl] at H; exact H
             clear H
             have H := H1
             clear H1
             by_cases c21 : x5_2.length < 17592186044416
             ·rw [if_pos c21] at H
              have LMc21 := Aside0.mk c21
              clear c21
              obtain ⟨y380, hy380⟩ : ∃ y_ : List Int, y_ = (x5_2 ++ [x6_2]) := ⟨_, rfl⟩
              replace H : (spec_CanLearn.l0 k3 l0 l1 y380 (wrap64 (x6_2 + 1))) = some r := by first | (rw [hy380]; with_reducible exact H) | (have H2_ := (Option.bind_some _ _).symm.trans H; rw [hy380]; with_reducible exact H2_) | (have H2_ := (Option.bind_some _ _).symm.trans H; with_reducible exact H2_) | with_reducible exact H | (rw [hy380]; exact H) | exact H
              have Ny380 := Aside0.mk hy380
              clear hy380
              have H' := Aside0.mk H
              clear H
              have p376 : 0 ≤ (x6_2 : Int) := of_decide_eq_true (by first | (with_reducible assumption) | assumption)
              have q376 : x6_2 < (l0.length : Int) := of_decide_eq_true (by first | (with_reducible assumption) | assumption)
              obtain ⟨ad376, A376_0, c376_0, e376, hx376_0, hx376_1, hl376_0, hi376_0⟩ := at_T34 HR0.out x6_2 p376 q376
              cases e376
              replace hx376_0 := (HB.out.cell (World.block_lt_of_cell? w _ hx376_0)).trans hx376_0
              replace hx376_1 := (HB.out.cell (World.block_lt_of_cell? w _ hx376_1)).trans hx376_1
              have HR376_0 := Aside0.mk hi376_0
              have HC376_0 := Aside0.mk hl376_0
              clear hi376_0 hl376_0
              replace p376 := eq_true p376
              replace q376 := eq_true q376
              go_wp2_with (first | ((with_reducible refine gate_builtin (b := .append) (xs := #[.tmp 56, .tmp 58]) rfl ?_); (try (refine gate_guard (by rfl) ?_; dsimp only)); at_builtin; refine Kd.R_append (Kd.int .i64) (w0 := w) w.heap.size rfl (.tmp 56) (.tmp 58) 26 3 (.int .i64 0) 8 rfl Try.underlying26 info3 rfl (by decide) (by omega) u5 x5_2 x6_2 [.int .i64 x6_2] (fun _ => True) (fun _ => False) rfl rfl ?aP (fun _ hk => hk.elim) ?aF ?aO ?aB ?aS ?aL ?_; (case aP => exact rfl); (case aB => exact (by repeat (first | (with_reducible first | exact HB.out | apply below_alloc | apply pw_below_drewN | apply below_drew1) | exact HB.out))); (case aF => exact (fun _ _ => trivial)); (case aO => exact (by (with_reducible repeat (first | apply Kd.R_alloc | apply Kd.R_drewN | apply Kd.R_drew)); exact HO_5.out)); (case aS => exact (below_size (by repeat (first | (with_reducible first | exact HB.out | apply below_alloc | apply pw_below_drewN | apply below_drew1) | exact HB.out)))); (case aL => have := LMc21.out; omega); intro v381 w22 ho hb hg hat; rw [← Ny380.out] at ho; have n0_ := Aside0.mk (hb); have n1_ := Aside0.mk (ho); clear HB HO_5; have HB := n0_; have HO382 := n1_; clear n0_ n1_; clear ho hb hg hat))
              go_roundg k3
              case measure => have := HJ2.out; have := HK2.out; have := HK3.out; omega
              case rel => exact ⟨(y380), (wrap64 (x6_2 + 1)), (by first | rfl | (simp; done) | (simp [*]; done)), H', ⟨by have := HJ2.out; have := HK2.out; have := HK3.out; omega⟩, ⟨by (with_reducible repeat (first | apply Kd.R_alloc | apply Kd.R_drewN | apply Kd.R_drew)); exact HO382.out⟩, ⟨by repeat (first | (with_reducible first | exact HB.out | apply below_alloc | apply pw_below_drewN | apply below_drew1) | exact HB.out)⟩⟩
             ·rw [if_neg c21] at H
              exact absurd H (by simp)
            ·replace c20 := Bool.eq_false_iff.mpr c20
             subst c20
             have H1 : (spec_CanLearn.l0 k3 l0 l1 x5_2 (wrap64 (x6_2 + 1))) = some r := by rw [if_neg (show ¬ (false = true) by decide)] at H; exact H
             clear H
             have H := H1
             clear H1
             have H' := Aside0.mk H
             clear H
             have p376 : 0 ≤ (x6_2 : Int) := of_decide_eq_true (by first | (with_reducible assumption) | assumption)
             have q376 : x6_2 < (l0.length : Int) := of_decide_eq_true (by first | (with_reducible assumption) | assumption)
             obtain ⟨ad376, A376_0, c376_0, e376, hx376_0, hx376_1, hl376_0, hi376_0⟩ := at_T34 HR0.out x6_2 p376 q376
             cases e376
             replace hx376_0 := (HB.out.cell (World.block_lt_of_cell? w _ hx376_0)).trans hx376_0
             replace hx376_1 := (HB.out.cell (World.block_lt_of_cell? w _ hx376_1)).trans hx376_1
             have HR376_0 := Aside0.mk hi376_0
             have HC376_0 := Aside0.mk hl376_0
             clear hi376_0 hl376_0
             replace p376 := eq_true p376
             replace q376 := eq_true q376
             go_wp2
             go_roundg k3
             case measure => have := HJ2.out; have := HK2.out; have := HK3.out; omega
             case rel => exact ⟨(x5_2), (wrap64 (x6_2 + 1)), (by first | rfl | (simp; done) | (simp [*]; done)), H', ⟨by have := HJ2.out; have := HK2.out; have := HK3.out; omega⟩, ⟨by (with_reducible repeat (first | apply Kd.R_alloc | apply Kd.R_drewN | apply Kd.R_drew)); exact HO_5.out⟩, ⟨by repeat (first | (with_reducible first | exact HB.out | apply below_alloc | apply pw_below_drewN | apply below_drew1) | exact HB.out)⟩⟩
          ·rw [if_neg c15] at H
           exact absurd H (by simp)
         ·rw [if_neg c14] at H
          exact absurd H (by simp)
      ·rw [if_neg c12] at H
       have c12b0 : decide (x6_2 < (l0.length : Int)) = false := decide_eq_false c12
       clear c12
       obtain rfl := Option.some.inj H
       go_wp2
       go_ret
       exact ⟨_, by first | rfl | (simp [errW_none, errW_some] <;> rfl) | (simp [*, errW_none, errW_some] <;> rfl), by (with_reducible repeat (first | apply Kd.R_alloc | apply Kd.R_drewN | apply Kd.R_drew)); exact HO_5.out, by repeat (first | (with_reducible first | exact HB.out | apply below_alloc | apply pw_below_drewN | apply below_drew1) | exact HB.out)⟩

/-! ### laws_FnExactCanLearn: function 9 -/
def laws_FnExactCanLearn.j0 : Nat → List (S54) → List Int → List Int → List Int → Bool → Option (Bool)
 | 0, _, _, _, _, _ => none
 | k + 1, x0, x1, x6, x9, x61 => if x61 = true then (some false) else ((laws_markIntS.f k x9 1).bind fun bt415 => ((laws_heldIntS.f k bt415.2 1).bind fun t417 => (if t417 < 0 then (some false) else (if t417 = bt415.1 then ((laws_toSkillS.f k x0).bind fun t418 => ((laws_toIntS.f k x1).bind fun t421 => ((impl_CanLearn.f k t418 t421).bind fun t424 => ((laws_eqIntS.f k t424 x6).bind fun t427 => (if t427 = true then ((laws_heldIntS.f k bt415.2 1).bind fun t428 => (if t428 < 0 then (some false) else (if t428 = bt415.1 then (some true) else (some false)))) else (some false)))))) else (some false)))))
def laws_FnExactCanLearn.f (k : Nat) (l0 : List (S54)) (l1 : List Int) : Option (Bool) := if (l1.length : Int) > 1048576 then (some true) else ((laws_szSkillS.f k l0 1048576).bind fun t383 => (if t383 < 0 then (some true) else ((laws_toSkillS.f k l0).bind fun t384 => ((laws_toIntS.f k l1).bind fun t387 => ((spec_CanLearn.f k t384 t387).bind fun t390 => ((laws_toSkillS.f k l0).bind fun t393 => ((laws_toIntS.f k l1).bind fun t396 => ((impl_CanLearn.f k t393 t396).bind fun t399 => ((laws_eqIntS.f k t399 t390).bind fun t402 => (if t402 = true then ((laws_toSkillS.f k l0).bind fun t403 => ((laws_eqSkillS.f k t393 t403).bind fun t406 => (if t406 = true then ((laws_toIntS.f k l1).bind fun t407 => ((laws_eqIntS.f k t396 t407).bind fun t410 => (if t410 = true then ((laws_markSkillS.f k t393 1).bind fun t411 => ((laws_markIntS.f k t396 t411).bind fun bt412 => (if bt412.1 < 0 then (laws_FnExactCanLearn.j0 k l0 l1 t390 t399 true) else ((laws_eqIntS.f k t399 t390).bind fun t414 => (laws_FnExactCanLearn.j0 k l0 l1 t390 t399 (!t414)))))) else (some false)))) else (some false)))) else (some false)))))))))))
theorem laws_FnExactCanLearn.mono_l : ∀ k, (∀ y0 y1 y2 y3 y4, LeO (laws_FnExactCanLearn.j0 k y0 y1 y2 y3 y4) (laws_FnExactCanLearn.j0 (k + 1) y0 y1 y2 y3 y4))
 | 0 => fun _ _ _ _ _ r h => by simp [laws_FnExactCanLearn.j0] at h
 | k + 1 => by
  have ih0 := laws_FnExactCanLearn.mono_l k
  ·intro y0 y1 y2 y3 y4
   unfold laws_FnExactCanLearn.j0
   repeat' first
   | (with_reducible exact ih0 _ _ _ _ _)
   | (with_reducible exact impl_CanLearn.mono _ _ _)
   | (with_reducible exact laws_eqIntS.mono _ _ _)
   | (with_reducible exact laws_eqSkillS.mono _ _ _)
   | (with_reducible exact laws_heldIntS.mono _ _ _)
   | (with_reducible exact laws_markIntS.mono _ _ _)
   | (with_reducible exact laws_markSkillS.mono _ _ _)
   | (with_reducible exact laws_szSkillS.mono _ _ _)
   | (with_reducible exact laws_toIntS.mono _ _)
   | (with_reducible exact laws_toSkillS.mono _ _)
   | (with_reducible exact spec_CanLearn.mono _ _ _)
   | (with_reducible exact LeO.refl _)
   | (with_reducible exact LeO.none _)
   | (with_reducible refine LeO.ite ?_ ?_)
   | (with_reducible refine LeO.bind ?_ (fun _ => ?_))
   | exact ih0 _ _ _ _ _
   | exact impl_CanLearn.mono _ _ _
   | exact laws_eqIntS.mono _ _ _
   | exact laws_eqSkillS.mono _ _ _
   | exact laws_heldIntS.mono _ _ _
   | exact laws_markIntS.mono _ _ _
   | exact laws_markSkillS.mono _ _ _
   | exact laws_szSkillS.mono _ _ _
   | exact laws_toIntS.mono _ _
   | exact laws_toSkillS.mono _ _
   | exact spec_CanLearn.mono _ _ _
   | exact LeO.none _
   | refine LeO.ite ?_ ?_
   | refine LeO.bind ?_ (fun _ => ?_)
theorem laws_FnExactCanLearn.mono : ∀ a0 a1 k, LeO (laws_FnExactCanLearn.f k a0 a1) (laws_FnExactCanLearn.f (k + 1) a0 a1) := by
 intro a0 a1 k
 have ih0 := laws_FnExactCanLearn.mono_l k
 unfold laws_FnExactCanLearn.f
 repeat' first
   | (with_reducible exact ih0 _ _ _ _ _)
   | (with_reducible exact impl_CanLearn.mono _ _ _)
   | (with_reducible exact laws_eqIntS.mono _ _ _)
   | (with_reducible exact laws_eqSkillS.mono _ _ _)
   | (with_reducible exact laws_heldIntS.mono _ _ _)
   | (with_reducible exact laws_markIntS.mono _ _ _)
   | (with_reducible exact laws_markSkillS.mono _ _ _)
   | (with_reducible exact laws_szSkillS.mono _ _ _)
   | (with_reducible exact laws_toIntS.mono _ _)
   | (with_reducible exact laws_toSkillS.mono _ _)
   | (with_reducible exact spec_CanLearn.mono _ _ _)
   | (with_reducible exact LeO.refl _)
   | (with_reducible exact LeO.none _)
   | (with_reducible refine LeO.ite ?_ ?_)
   | (with_reducible refine LeO.bind ?_ (fun _ => ?_))
   | exact ih0 _ _ _ _ _
   | exact impl_CanLearn.mono _ _ _
   | exact laws_eqIntS.mono _ _ _
   | exact laws_eqSkillS.mono _ _ _
   | exact laws_heldIntS.mono _ _ _
   | exact laws_markIntS.mono _ _ _
   | exact laws_markSkillS.mono _ _ _
   | exact laws_szSkillS.mono _ _ _
   | exact laws_toIntS.mono _ _
   | exact laws_toSkillS.mono _ _
   | exact spec_CanLearn.mono _ _ _
   | exact LeO.none _
   | refine LeO.ite ?_ ?_
   | refine LeO.bind ?_ (fun _ => ?_)
theorem laws_FnExactCanLearn.j0_no {k : Nat} {x0 : List (S54)} {x1 : List Int} {x6 : List Int} {x9 : List Int} {r : Bool} (hr : r = true) (h : laws_FnExactCanLearn.j0 k x0 x1 x6 x9 true = some r) : False := by
 subst hr
 cases k <;> simp [laws_FnExactCanLearn.j0] at h
set_option maxHeartbeats 8000000 in
set_option maxRecDepth 100000 in
theorem laws_FnExactCanLearn.calls (k : Nat) (A0 : Option Addr) (c0 : Nat) (l0 : List (S54)) (A1 : Option Addr) (c1 : Nat) (l1 : List Int) (r : Bool) (w : World) (hr0 : Kd.C k54 w A0 l0.length l0) (hc0 : l0.length ≤ c0) (hr1 : Kd.C (Kd.int .i64) w A1 l1.length l1) (hc1 : l1.length ≤ c1) (hrt_ : r = true) (h : laws_FnExactCanLearn.f k l0 l1 = some r) :
  Calls Try.prog 9 #[.slice A0 l0.length c0, .slice A1 l1.length c1] w fun e w' => e = .returned (.bool r) ∧ Below w.heap.size w w' := by
 have HRT := Aside0.mk hrt_
 clear hrt_
 have HR0 := Aside0.mk hr0
 have HC0 := Aside0.mk hc0
 clear hr0 hc0
 have HR1 := Aside0.mk hr1
 have HC1 := Aside0.mk hc1
 clear hr1 hc1
 have HB := Aside0.mk (Below.refl w.heap.size w)
 have H : (if (l1.length : Int) > 1048576 then (some true) else ((laws_szSkillS.f k l0 1048576).bind fun t383 => (if t383 < 0 then (some true) else ((laws_toSkillS.f k l0).bind fun t384 => ((laws_toIntS.f k l1).bind fun t387 => ((spec_CanLearn.f k t384 t387).bind fun t390 => ((laws_toSkillS.f k l0).bind fun t393 => ((laws_toIntS.f k l1).bind fun t396 => ((impl_CanLearn.f k t393 t396).bind fun t399 => ((laws_eqIntS.f k t399 t390).bind fun t402 => (if t402 = true then ((laws_toSkillS.f k l0).bind fun t403 => ((laws_eqSkillS.f k t393 t403).bind fun t406 => (if t406 = true then ((laws_toIntS.f k l1).bind fun t407 => ((laws_eqIntS.f k t396 t407).bind fun t410 => (if t410 = true then ((laws_markSkillS.f k t393 1).bind fun t411 => ((laws_markIntS.f k t396 t411).bind fun bt412 => (if bt412.1 < 0 then (laws_FnExactCanLearn.j0 k l0 l1 t390 t399 true) else ((laws_eqIntS.f k t399 t390).bind fun t414 => (laws_FnExactCanLearn.j0 k l0 l1 t390 t399 (!t414)))))) else (some false)))) else (some false)))) else (some false)))))))))))) = some r := h
 clear h
 by_cases c3 : (l1.length : Int) > 1048576
 ·rw [if_pos c3] at H
  have c3b0 : decide (1048576 < (l1.length : Int)) = true := decide_eq_true c3
  have c3b1 : decide (1048576 < l1.length) = true := decide_eq_true (by omega)
  clear c3
  obtain rfl := Option.some.inj H
  go_enter Try.func9, Try.ntmps9
  go_wp2
  go_ret
  exact ⟨by first | rfl | (simp [errW_none, errW_some] <;> rfl) | (simp [*, errW_none, errW_some] <;> rfl), by repeat (first | (with_reducible first | exact HB.out | apply below_alloc | apply pw_below_drewN | apply below_drew1) | exact HB.out)⟩
 ·rw [if_neg c3] at H
  have c3b0 : decide (1048576 < (l1.length : Int)) = false := decide_eq_false c3
  have c3b1 : decide (1048576 < l1.length) = false := decide_eq_false (by omega)
  clear c3
  replace H := Option.bind_eq_some_iff.mp H
  obtain ⟨t383, A40, H⟩ := H
  replace H : (if t383 < 0 then (some true) else ((laws_toSkillS.f k l0).bind fun t384 => ((laws_toIntS.f k l1).bind fun t387 => ((spec_CanLearn.f k t384 t387).bind fun t390 => ((laws_toSkillS.f k l0).bind fun t393 => ((laws_toIntS.f k l1).bind fun t396 => ((impl_CanLearn.f k t393 t396).bind fun t399 => ((laws_eqIntS.f k t399 t390).bind fun t402 => (if t402 = true then ((laws_toSkillS.f k l0).bind fun t403 => ((laws_eqSkillS.f k t393 t403).bind fun t406 => (if t406 = true then ((laws_toIntS.f k l1).bind fun t407 => ((laws_eqIntS.f k t396 t407).bind fun t410 => (if t410 = true then ((laws_markSkillS.f k t393 1).bind fun t411 => ((laws_markIntS.f k t396 t411).bind fun bt412 => (if bt412.1 < 0 then (laws_FnExactCanLearn.j0 k l0 l1 t390 t399 true) else ((laws_eqIntS.f k t399 t390).bind fun t414 => (laws_FnExactCanLearn.j0 k l0 l1 t390 t399 (!t414)))))) else (some false)))) else (some false)))) else (some false)))))))))) = some r := H
  have A4 := Aside0.mk A40
  clear A40
  by_cases c5 : t383 < 0
  ·rw [if_pos c5] at H
   have c5b0 : decide (t383 < 0) = true := decide_eq_true c5
   clear c5
   obtain rfl := Option.some.inj H
   go_enter Try.func9, Try.ntmps9
   go_wp2_with (first | ((with_reducible refine gate_callee (f := 20) rfl ?_); refine goesL_ (some 19) rfl rfl Try.func20 (by kernel_rfl) rfl #[.slice A0 l0.length c0, .int .i64 1048576] rfl (by (try simp only [List.map_toArray, List.map_cons, List.map_nil]); first | done | rfl | (simp only [List.length_drop, List.length_take]; rfl)) ?_; (with_reducible refine (laws_szSkillS.calls k _ _ l0 1048576 t383 _ ?side1 ?side2 A4.out).mono ?_); (case side1 => repeat (first | exact HR0.out | (with_reducible refine Kd.C_alloc ?_ _) | (with_reducible refine Kd.C_drewN ?_ _) | (with_reducible refine Kd.C_drew ?_))); (case side2 => exact HC0.out); rintro e w6 ⟨rfl, hb⟩; refine ⟨_, rfl, ?_⟩; have n0_ := Aside0.mk (below_step (by repeat (first | (with_reducible first | exact HB.out | apply below_alloc | apply pw_below_drewN | apply below_drew1) | exact HB.out)) hb); clear HB; have HB := n0_; clear n0_; (try clear hb); (try clear hb2); (try clear hk); (try clear hi)))
   go_ret
   exact ⟨by first | rfl | (simp [errW_none, errW_some] <;> rfl) | (simp [*, errW_none, errW_some] <;> rfl), by repeat (first | (with_reducible first | exact HB.out | apply below_alloc | apply pw_below_drewN | apply below_drew1) | exact HB.out)⟩
  ·rw [if_neg c5] at H
   have c5b0 : decide (t383 < 0) = false := decide_eq_false c5
   clear c5
   replace H := Option.bind_eq_some_iff.mp H
   obtain ⟨t384, A70, H⟩ := H
   replace H : ((laws_toIntS.f k l1).bind fun t387 => ((spec_CanLearn.f k t384 t387).bind fun t390 => ((laws_toSkillS.f k l0).bind fun t393 => ((laws_toIntS.f k l1).bind fun t396 => ((impl_CanLearn.f k t393 t396).bind fun t399 => ((laws_eqIntS.f k t399 t390).bind fun t402 => (if t402 = true then ((laws_toSkillS.f k l0).bind fun t403 => ((laws_eqSkillS.f k t393 t403).bind fun t406 => (if t406 = true then ((laws_toIntS.f k l1).bind fun t407 => ((laws_eqIntS.f k t396 t407).bind fun t410 => (if t410 = true then ((laws_markSkillS.f k t393 1).bind fun t411 => ((laws_markIntS.f k t396 t411).bind fun bt412 => (if bt412.1 < 0 then (laws_FnExactCanLearn.j0 k l0 l1 t390 t399 true) else ((laws_eqIntS.f k t399 t390).bind fun t414 => (laws_FnExactCanLearn.j0 k l0 l1 t390 t399 (!t414)))))) else (some false)))) else (some false)))) else (some false)))))))) = some r := H
   have A7 := Aside0.mk A70
   clear A70
   replace H := Option.bind_eq_some_iff.mp H
   obtain ⟨t387, A80, H⟩ := H
   replace H : ((spec_CanLearn.f k t384 t387).bind fun t390 => ((laws_toSkillS.f k l0).bind fun t393 => ((laws_toIntS.f k l1).bind fun t396 => ((impl_CanLearn.f k t393 t396).bind fun t399 => ((laws_eqIntS.f k t399 t390).bind fun t402 => (if t402 = true then ((laws_toSkillS.f k l0).bind fun t403 => ((laws_eqSkillS.f k t393 t403).bind fun t406 => (if t406 = true then ((laws_toIntS.f k l1).bind fun t407 => ((laws_eqIntS.f k t396 t407).bind fun t410 => (if t410 = true then ((laws_markSkillS.f k t393 1).bind fun t411 => ((laws_markIntS.f k t396 t411).bind fun bt412 => (if bt412.1 < 0 then (laws_FnExactCanLearn.j0 k l0 l1 t390 t399 true) else ((laws_eqIntS.f k t399 t390).bind fun t414 => (laws_FnExactCanLearn.j0 k l0 l1 t390 t399 (!t414)))))) else (some false)))) else (some false)))) else (some false))))))) = some r := H
   have A8 := Aside0.mk A80
   clear A80
   replace H := Option.bind_eq_some_iff.mp H
   obtain ⟨t390, A90, H⟩ := H
   replace H : ((laws_toSkillS.f k l0).bind fun t393 => ((laws_toIntS.f k l1).bind fun t396 => ((impl_CanLearn.f k t393 t396).bind fun t399 => ((laws_eqIntS.f k t399 t390).bind fun t402 => (if t402 = true then ((laws_toSkillS.f k l0).bind fun t403 => ((laws_eqSkillS.f k t393 t403).bind fun t406 => (if t406 = true then ((laws_toIntS.f k l1).bind fun t407 => ((laws_eqIntS.f k t396 t407).bind fun t410 => (if t410 = true then ((laws_markSkillS.f k t393 1).bind fun t411 => ((laws_markIntS.f k t396 t411).bind fun bt412 => (if bt412.1 < 0 then (laws_FnExactCanLearn.j0 k l0 l1 t390 t399 true) else ((laws_eqIntS.f k t399 t390).bind fun t414 => (laws_FnExactCanLearn.j0 k l0 l1 t390 t399 (!t414)))))) else (some false)))) else (some false)))) else (some false)))))) = some r := H
   have A9 := Aside0.mk A90
   clear A90
   replace H := Option.bind_eq_some_iff.mp H
   obtain ⟨t393, A100, H⟩ := H
   replace H : ((laws_toIntS.f k l1).bind fun t396 => ((impl_CanLearn.f k t393 t396).bind fun t399 => ((laws_eqIntS.f k t399 t390).bind fun t402 => (if t402 = true then ((laws_toSkillS.f k l0).bind fun t403 => ((laws_eqSkillS.f k t393 t403).bind fun t406 => (if t406 = true then ((laws_toIntS.f k l1).bind fun t407 => ((laws_eqIntS.f k t396 t407).bind fun t410 => (if t410 = true then ((laws_markSkillS.f k t393 1).bind fun t411 => ((laws_markIntS.f k t396 t411).bind fun bt412 => (if bt412.1 < 0 then (laws_FnExactCanLearn.j0 k l0 l1 t390 t399 true) else ((laws_eqIntS.f k t399 t390).bind fun t414 => (laws_FnExactCanLearn.j0 k l0 l1 t390 t399 (!t414)))))) else (some false)))) else (some false)))) else (some false))))) = some r := H
   have A10 := Aside0.mk A100
   clear A100
   replace H := Option.bind_eq_some_iff.mp H
   obtain ⟨t396, A110, H⟩ := H
   replace H : ((impl_CanLearn.f k t393 t396).bind fun t399 => ((laws_eqIntS.f k t399 t390).bind fun t402 => (if t402 = true then ((laws_toSkillS.f k l0).bind fun t403 => ((laws_eqSkillS.f k t393 t403).bind fun t406 => (if t406 = true then ((laws_toIntS.f k l1).bind fun t407 => ((laws_eqIntS.f k t396 t407).bind fun t410 => (if t410 = true then ((laws_markSkillS.f k t393 1).bind fun t411 => ((laws_markIntS.f k t396 t411).bind fun bt412 => (if bt412.1 < 0 then (laws_FnExactCanLearn.j0 k l0 l1 t390 t399 true) else ((laws_eqIntS.f k t399 t390).bind fun t414 => (laws_FnExactCanLearn.j0 k l0 l1 t390 t399 (!t414)))))) else (some false)))) else (some false)))) else (some false)))) = some r := H
   have A11 := Aside0.mk A110
   clear A110
   replace H := Option.bind_eq_some_iff.mp H
   obtain ⟨t399, A120, H⟩ := H
   replace H : ((laws_eqIntS.f k t399 t390).bind fun t402 => (if t402 = true then ((laws_toSkillS.f k l0).bind fun t403 => ((laws_eqSkillS.f k t393 t403).bind fun t406 => (if t406 = true then ((laws_toIntS.f k l1).bind fun t407 => ((laws_eqIntS.f k t396 t407).bind fun t410 => (if t410 = true then ((laws_markSkillS.f k t393 1).bind fun t411 => ((laws_markIntS.f k t396 t411).bind fun bt412 => (if bt412.1 < 0 then (laws_FnExactCanLearn.j0 k l0 l1 t390 t399 true) else ((laws_eqIntS.f k t399 t390).bind fun t414 => (laws_FnExactCanLearn.j0 k l0 l1 t390 t399 (!t414)))))) else (some false)))) else (some false)))) else (some false))) = some r := H
   have A12 := Aside0.mk A120
   clear A120
   replace H := Option.bind_eq_some_iff.mp H
   obtain ⟨t402, A130, H⟩ := H
   replace H : (if t402 = true then ((laws_toSkillS.f k l0).bind fun t403 => ((laws_eqSkillS.f k t393 t403).bind fun t406 => (if t406 = true then ((laws_toIntS.f k l1).bind fun t407 => ((laws_eqIntS.f k t396 t407).bind fun t410 => (if t410 = true then ((laws_markSkillS.f k t393 1).bind fun t411 => ((laws_markIntS.f k t396 t411).bind fun bt412 => (if bt412.1 < 0 then (laws_FnExactCanLearn.j0 k l0 l1 t390 t399 true) else ((laws_eqIntS.f k t399 t390).bind fun t414 => (laws_FnExactCanLearn.j0 k l0 l1 t390 t399 (!t414)))))) else (some false)))) else (some false)))) else (some false)) = some r := H
   have A13 := Aside0.mk A130
   clear A130
   by_cases c14 : t402 = true
   ·subst c14
    have H1 : ((laws_toSkillS.f k l0).bind fun t403 => ((laws_eqSkillS.f k t393 t403).bind fun t406 => (if t406 = true then ((laws_toIntS.f k l1).bind fun t407 => ((laws_eqIntS.f k t396 t407).bind fun t410 => (if t410 = true then ((laws_markSkillS.f k t393 1).bind fun t411 => ((laws_markIntS.f k t396 t411).bind fun bt412 => (if bt412.1 < 0 then (laws_FnExactCanLearn.j0 k l0 l1 t390 t399 true) else ((laws_eqIntS.f k t399 t390).bind fun t414 => (laws_FnExactCanLearn.j0 k l0 l1 t390 t399 (!t414)))))) else (some false)))) else (some false)))) = some r := by rw [if_pos rfl] at H; exact H
    clear H
    have H := H1
    clear H1
    replace H := Option.bind_eq_some_iff.mp H
    obtain ⟨t403, A150, H⟩ := H
    replace H : ((laws_eqSkillS.f k t393 t403).bind fun t406 => (if t406 = true then ((laws_toIntS.f k l1).bind fun t407 => ((laws_eqIntS.f k t396 t407).bind fun t410 => (if t410 = true then ((laws_markSkillS.f k t393 1).bind fun t411 => ((laws_markIntS.f k t396 t411).bind fun bt412 => (if bt412.1 < 0 then (laws_FnExactCanLearn.j0 k l0 l1 t390 t399 true) else ((laws_eqIntS.f k t399 t390).bind fun t414 => (laws_FnExactCanLearn.j0 k l0 l1 t390 t399 (!t414)))))) else (some false)))) else (some false))) = some r := H
    have A15 := Aside0.mk A150
    clear A150
    replace H := Option.bind_eq_some_iff.mp H
    obtain ⟨t406, A160, H⟩ := H
    replace H : (if t406 = true then ((laws_toIntS.f k l1).bind fun t407 => ((laws_eqIntS.f k t396 t407).bind fun t410 => (if t410 = true then ((laws_markSkillS.f k t393 1).bind fun t411 => ((laws_markIntS.f k t396 t411).bind fun bt412 => (if bt412.1 < 0 then (laws_FnExactCanLearn.j0 k l0 l1 t390 t399 true) else ((laws_eqIntS.f k t399 t390).bind fun t414 => (laws_FnExactCanLearn.j0 k l0 l1 t390 t399 (!t414)))))) else (some false)))) else (some false)) = some r := H
    have A16 := Aside0.mk A160
    clear A160
    by_cases c17 : t406 = true
    ·subst c17
     have H1 : ((laws_toIntS.f k l1).bind fun t407 => ((laws_eqIntS.f k t396 t407).bind fun t410 => (if t410 = true then ((laws_markSkillS.f k t393 1).bind fun t411 => ((laws_markIntS.f k t396 t411).bind fun bt412 => (if bt412.1 < 0 then (laws_FnExactCanLearn.j0 k l0 l1 t390 t399 true) else ((laws_eqIntS.f k t399 t390).bind fun t414 => (laws_FnExactCanLearn.j0 k l0 l1 t390 t399 (!t414)))))) else (some false)))) = some r := by rw [if_pos rfl] at H; exact H
     clear H
     have H := H1
     clear H1
     replace H := Option.bind_eq_some_iff.mp H
     obtain ⟨t407, A180, H⟩ := H
     replace H : ((laws_eqIntS.f k t396 t407).bind fun t410 => (if t410 = true then ((laws_markSkillS.f k t393 1).bind fun t411 => ((laws_markIntS.f k t396 t411).bind fun bt412 => (if bt412.1 < 0 then (laws_FnExactCanLearn.j0 k l0 l1 t390 t399 true) else ((laws_eqIntS.f k t399 t390).bind fun t414 => (laws_FnExactCanLearn.j0 k l0 l1 t390 t399 (!t414)))))) else (some false))) = some r := H
     have A18 := Aside0.mk A180
     clear A180
     replace H := Option.bind_eq_some_iff.mp H
     obtain ⟨t410, A190, H⟩ := H
     replace H : (if t410 = true then ((laws_markSkillS.f k t393 1).bind fun t411 => ((laws_markIntS.f k t396 t411).bind fun bt412 => (if bt412.1 < 0 then (laws_FnExactCanLearn.j0 k l0 l1 t390 t399 true) else ((laws_eqIntS.f k t399 t390).bind fun t414 => (laws_FnExactCanLearn.j0 k l0 l1 t390 t399 (!t414)))))) else (some false)) = some r := H
     have A19 := Aside0.mk A190
     clear A190
     by_cases c20 : t410 = true
     ·subst c20
      have H1 : ((laws_markSkillS.f k t393 1).bind fun t411 => ((laws_markIntS.f k t396 t411).bind fun bt412 => (if bt412.1 < 0 then (laws_FnExactCanLearn.j0 k l0 l1 t390 t399 true) else ((laws_eqIntS.f k t399 t390).bind fun t414 => (laws_FnExactCanLearn.j0 k l0 l1 t390 t399 (!t414)))))) = some r := by rw [if_pos rfl] at H; exact H
      clear H
      have H := H1
      clear H1
      replace H := Option.bind_eq_some_iff.mp H
      obtain ⟨t411, A210, H⟩ := H
      replace H : ((laws_markIntS.f k t396 t411).bind fun bt412 => (if bt412.1 < 0 then (laws_FnExactCanLearn.j0 k l0 l1 t390 t399 true) else ((laws_eqIntS.f k t399 t390).bind fun t414 => (laws_FnExactCanLearn.j0 k l0 l1 t390 t399 (!t414))))) = some r := H
      have A21 := Aside0.mk A210
      clear A210
      replace H := Option.bind_eq_some_iff.mp H
      obtain ⟨⟨t412, t413⟩, A220, H⟩ := H
      replace H : (if t412 < 0 then (laws_FnExactCanLearn.j0 k l0 l1 t390 t399 true) else ((laws_eqIntS.f k t399 t390).bind fun t414 => (laws_FnExactCanLearn.j0 k l0 l1 t390 t399 (!t414)))) = some r := H
      have A22 := Aside0.mk A220
      clear A220
      have HC23 := Aside0.mk H
      clear H
      go_enter Try.func9, Try.ntmps9
      go_upto_region 20 with (first | ((with_reducible refine gate_callee (f := 20) rfl ?_); refine goesL_ (some 19) rfl rfl Try.func20 (by kernel_rfl) rfl #[.slice A0 l0.length c0, .int .i64 1048576] rfl (by (try simp only [List.map_toArray, List.map_cons, List.map_nil]); first | done | rfl | (simp only [List.length_drop, List.length_take]; rfl)) ?_; (with_reducible refine (laws_szSkillS.calls k _ _ l0 1048576 t383 _ ?side1 ?side2 A4.out).mono ?_); (case side1 => repeat (first | exact HR0.out | (with_reducible refine Kd.C_alloc ?_ _) | (with_reducible refine Kd.C_drewN ?_ _) | (with_reducible refine Kd.C_drew ?_))); (case side2 => exact HC0.out); rintro e w24 ⟨rfl, hb⟩; refine ⟨_, rfl, ?_⟩; have n0_ := Aside0.mk (below_step (by repeat (first | (with_reducible first | exact HB.out | apply below_alloc | apply pw_below_drewN | apply below_drew1) | exact HB.out)) hb); clear HB; have HB := n0_; clear n0_; (try clear hb); (try clear hb2); (try clear hk); (try clear hi)) | ((with_reducible refine gate_callee (f := 22) rfl ?_); refine goesL_ (some 23) rfl rfl Try.func22 (by kernel_rfl) rfl #[.slice A0 l0.length c0] rfl (by (try simp only [List.map_toArray, List.map_cons, List.map_nil]); first | done | rfl | (simp only [List.length_drop, List.length_take]; rfl)) ?_; (with_reducible refine (laws_toSkillS.calls k _ _ l0 t384 _ ?side1 ?side2 A7.out).mono ?_); (case side1 => repeat (first | exact (Kd.C_below HR0.out HB.out) | (with_reducible refine Kd.C_alloc ?_ _) | (with_reducible refine Kd.C_drewN ?_ _) | (with_reducible refine Kd.C_drew ?_))); (case side2 => exact HC0.out); rintro e w25 ⟨v385, rfl, ho0, hb⟩; refine ⟨_, rfl, ?_⟩; have n0_ := Aside0.mk (Kd.S_lower ho0 (below_size (by repeat (first | (with_reducible first | exact HB.out | apply below_alloc | apply pw_below_drewN | apply below_drew1) | exact HB.out)))); have n1_ := Aside0.mk (below_step (by repeat (first | (with_reducible first | exact HB.out | apply below_alloc | apply pw_below_drewN | apply below_drew1) | exact HB.out)) hb); clear HB; have HO386 := n0_; have HB := n1_; clear n0_ n1_; (try clear hb); (try clear hb2); (try clear hk); (try clear hi); (try clear ho0)) | ((with_reducible refine gate_callee (f := 25) rfl ?_); refine goesL_ (some 25) rfl rfl Try.func25 (by kernel_rfl) rfl #[.slice A1 l1.length c1] rfl (by (try simp only [List.map_toArray, List.map_cons, List.map_nil]); first | done | rfl | (simp only [List.length_drop, List.length_take]; rfl)) ?_; (with_reducible refine (laws_toIntS.calls k _ _ l1 t387 _ ?side1 ?side2 A8.out).mono ?_); (case side1 => repeat (first | exact (Kd.C_below HR1.out HB.out) | (with_reducible refine Kd.C_alloc ?_ _) | (with_reducible refine Kd.C_drewN ?_ _) | (with_reducible refine Kd.C_drew ?_))); (case side2 => exact HC1.out); rintro e w26 ⟨v388, rfl, ho0, hb⟩; refine ⟨_, rfl, ?_⟩; have n0_ := Aside0.mk (Kd.S_elder' (by (with_reducible repeat (first | apply Kd.S_alloc | apply Kd.S_drewN | apply Kd.S_drew)); exact HO386.out) (Kd.R_base ho0) hb); have n1_ := Aside0.mk (Kd.R_lower ho0 (below_size (by repeat (first | (with_reducible first | exact HB.out | apply below_alloc | apply pw_below_drewN | apply below_drew1) | exact HB.out)))); have n2_ := Aside0.mk (below_step (by repeat (first | (with_reducible first | exact HB.out | apply below_alloc | apply pw_below_drewN | apply below_drew1) | exact HB.out)) hb); clear HO386 HB; have HO386 := n0_; have HO389 := n1_; have HB := n2_; clear n0_ n1_ n2_; (try clear hb); (try clear hb2); (try clear hk); (try clear hi); (try clear ho0); obtain ⟨Ao27, co27, eo27⟩ := Kd.S_slice HO386.out; subst eo27; obtain ⟨Ao28, co28, eo28⟩ := Kd.R_slice HO389.out; subst eo28) | ((with_reducible refine gate_callee (f := 33) rfl ?_); refine goesL_ (some 26) rfl rfl Try.func33 (by kernel_rfl) rfl #[.slice Ao27 t384.length co27, .slice Ao28 t387.length co28] rfl (by (try simp only [List.map_toArray, List.map_cons, List.map_nil]); first | done | rfl | (simp only [List.length_drop, List.length_take]; rfl)) ?_; (with_reducible refine (spec_CanLearn.calls k _ _ t384 _ _ t387 t390 _ ?side1 ?side2 ?side3 ?side4 A9.out).mono ?_); (case side1 => repeat (first | exact (Kd.S_reads' HO386.out).2.2 | (with_reducible refine Kd.C_alloc ?_ _) | (with_reducible refine Kd.C_drewN ?_ _) | (with_reducible refine Kd.C_drew ?_))); (case side2 => exact (Kd.S_reads' HO386.out).2.1); (case side3 => repeat (first | exact (Kd.R_reads' HO389.out).2.2 | (with_reducible refine Kd.C_alloc ?_ _) | (with_reducible refine Kd.C_drewN ?_ _) | (with_reducible refine Kd.C_drew ?_))); (case side4 => exact (Kd.R_reads' HO389.out).2.1); rintro e w29 ⟨v391, rfl, ho0, hb⟩; refine ⟨_, rfl, ?_⟩; have n0_ := Aside0.mk (Kd.S_elder' (by (with_reducible repeat (first | apply Kd.S_alloc | apply Kd.S_drewN | apply Kd.S_drew)); exact HO386.out) (Kd.R_base ho0) hb); have n1_ := Aside0.mk (Kd.R_elder' (by (with_reducible repeat (first | apply Kd.R_alloc | apply Kd.R_drewN | apply Kd.R_drew)); exact HO389.out) (Kd.R_base ho0) hb); have n2_ := Aside0.mk (Kd.R_lower (Kd.R_new' ho0 (Kd.R_lt (by (with_reducible repeat (first | apply Kd.R_alloc | apply Kd.R_drewN | apply Kd.R_drew)); exact HO389.out))) (below_size (by repeat (first | (with_reducible first | exact HB.out | apply below_alloc | apply pw_below_drewN | apply below_drew1) | exact HB.out)))); have n3_ := Aside0.mk (below_step (by repeat (first | (with_reducible first | exact HB.out | apply below_alloc | apply pw_below_drewN | apply below_drew1) | exact HB.out)) hb); clear HO386 HO389 HB; have HO386 := n0_; have HO389 := n1_; have HO392 := n2_; have HB := n3_; clear n0_ n1_ n2_ n3_; (try clear hb); (try clear hb2); (try clear hk); (try clear hi); (try clear ho0)) | ((with_reducible refine gate_callee (f := 22) rfl ?_); refine goesL_ (some 28) rfl rfl Try.func22 (by kernel_rfl) rfl #[.slice A0 l0.length c0] rfl (by (try simp only [List.map_toArray, List.map_cons, List.map_nil]); first | done | rfl | (simp only [List.length_drop, List.length_take]; rfl)) ?_; (with_reducible refine (laws_toSkillS.calls k _ _ l0 t393 _ ?side1 ?side2 A10.out).mono ?_); (case side1 => repeat (first | exact (Kd.C_below HR0.out HB.out) | (with_reducible refine Kd.C_alloc ?_ _) | (with_reducible refine Kd.C_drewN ?_ _) | (with_reducible refine Kd.C_drew ?_))); (case side2 => exact HC0.out); rintro e w30 ⟨v394, rfl, ho0, hb⟩; refine ⟨_, rfl, ?_⟩; have n0_ := Aside0.mk (Kd.S_elder' (by (with_reducible repeat (first | apply Kd.S_alloc | apply Kd.S_drewN | apply Kd.S_drew)); exact HO386.out) (Kd.S_base ho0) hb); have n1_ := Aside0.mk (Kd.R_below (by (with_reducible repeat (first | apply Kd.R_alloc | apply Kd.R_drewN | apply Kd.R_drew)); exact HO389.out) hb); have n2_ := Aside0.mk (Kd.R_below (by (with_reducible repeat (first | apply Kd.R_alloc | apply Kd.R_drewN | apply Kd.R_drew)); exact HO392.out) hb); have n3_ := Aside0.mk (Kd.S_lower (Kd.S_new' (Kd.S_new' (Kd.S_new' ho0 (Kd.S_lt (by (with_reducible repeat (first | apply Kd.S_alloc | apply Kd.S_drewN | apply Kd.S_drew)); exact HO386.out))) (Kd.R_lt (by (with_reducible repeat (first | apply Kd.R_alloc | apply Kd.R_drewN | apply Kd.R_drew)); exact HO389.out))) (Kd.R_lt (by (with_reducible repeat (first | apply Kd.R_alloc | apply Kd.R_drewN | apply Kd.R_drew)); exact HO392.out))) (below_size (by repeat (first | (with_reducible first | exact HB.out | apply below_alloc | apply pw_below_drewN | apply below_drew1) | exact HB.out)))); have n4_ := Aside0.mk (below_step (by repeat (first | (with_reducible first | exact HB.out | apply below_alloc | apply pw_below_drewN | apply below_drew1) | exact HB.out)) hb); clear HO386 HO389 HO392 HB; have HO386 := n0_; have HO389 := n1_; have HO392 := n2_; have HO395 := n3_; have HB := n4_; clear n0_ n1_ n2_ n3_ n4_; (try clear hb); (try clear hb2); (try clear hk); (try clear hi); (try clear ho0)) | ((with_reducible refine gate_callee (f := 25) rfl ?_); refine goesL_ (some 30) rfl rfl Try.func25 (by kernel_rfl) rfl #[.slice A1 l1.length c1] rfl (by (try simp only [List.map_toArray, List.map_cons, List.map_nil]); first | done | rfl | (simp only [List.length_drop, List.length_take]; rfl)) ?_; (with_reducible refine (laws_toIntS.calls k _ _ l1 t396 _ ?side1 ?side2 A11.out).mono ?_); (case side1 => repeat (first | exact (Kd.C_below HR1.out HB.out) | (with_reducible refine Kd.C_alloc ?_ _) | (with_reducible refine Kd.C_drewN ?_ _) | (with_reducible refine Kd.C_drew ?_))); (case side2 => exact HC1.out); rintro e w31 ⟨v397, rfl, ho0, hb⟩; refine ⟨_, rfl, ?_⟩; have n0_ := Aside0.mk (Kd.S_elder' (by (with_reducible repeat (first | apply Kd.S_alloc | apply Kd.S_drewN | apply Kd.S_drew)); exact HO386.out) (Kd.R_base ho0) hb); have n1_ := Aside0.mk (Kd.R_elder' (by (with_reducible repeat (first | apply Kd.R_alloc | apply Kd.R_drewN | apply Kd.R_drew)); exact HO389.out) (Kd.R_base ho0) hb); have n2_ := Aside0.mk (Kd.R_elder' (by (with_reducible repeat (first | apply Kd.R_alloc | apply Kd.R_drewN | apply Kd.R_drew)); exact HO392.out) (Kd.R_base ho0) hb); have n3_ := Aside0.mk (Kd.S_elder' (by (with_reducible repeat (first | apply Kd.S_alloc | apply Kd.S_drewN | apply Kd.S_drew)); exact HO395.out) (Kd.R_base ho0) hb); have n4_ := Aside0.mk (Kd.R_lower (Kd.R_new' (Kd.R_new' ho0 (Kd.R_lt (by (with_reducible repeat (first | apply Kd.R_alloc | apply Kd.R_drewN | apply Kd.R_drew)); exact HO389.out))) (Kd.R_lt (by (with_reducible repeat (first | apply Kd.R_alloc | apply Kd.R_drewN | apply Kd.R_drew)); exact HO392.out))) (below_size (by repeat (first | (with_reducible first | exact HB.out | apply below_alloc | apply pw_below_drewN | apply below_drew1) | exact HB.out)))); have n5_ := Aside0.mk (below_step (by repeat (first | (with_reducible first | exact HB.out | apply below_alloc | apply pw_below_drewN | apply below_drew1) | exact HB.out)) hb); clear HO386 HO389 HO392 HO395 HB; have HO386 := n0_; have HO389 := n1_; have HO392 := n2_; have HO395 := n3_; have HO398 := n4_; have HB := n5_; clear n0_ n1_ n2_ n3_ n4_ n5_; (try clear hb); (try clear hb2); (try clear hk); (try clear hi); (try clear ho0); obtain ⟨Ao32, co32, eo32⟩ := Kd.S_slice HO395.out; subst eo32; obtain ⟨Ao33, co33, eo33⟩ := Kd.R_slice HO398.out; subst eo33) | ((with_reducible refine gate_callee (f := 13) rfl ?_); refine goesL_ (some 33) rfl rfl Try.func13 (by kernel_rfl) rfl #[.slice Ao32 t393.length co32, .slice Ao33 t396.length co33] rfl (by (try simp only [List.map_toArray, List.map_cons, List.map_nil]); first | done | rfl | (simp only [List.length_drop, List.length_take]; rfl)) ?_; (with_reducible refine (impl_CanLearn.calls k _ _ t393 _ _ t396 t399 _ ?side1 ?side2 ?side3 ?side4 A12.out).mono ?_); (case side1 => repeat (first | exact (Kd.S_reads' HO395.out).2.2 | (with_reducible refine Kd.C_alloc ?_ _) | (with_reducible refine Kd.C_drewN ?_ _) | (with_reducible refine Kd.C_drew ?_))); (case side2 => exact (Kd.S_reads' HO395.out).2.1); (case side3 => repeat (first | exact (Kd.R_reads' HO398.out).2.2 | (with_reducible refine Kd.C_alloc ?_ _) | (with_reducible refine Kd.C_drewN ?_ _) | (with_reducible refine Kd.C_drew ?_))); (case side4 => exact (Kd.R_reads' HO398.out).2.1); rintro e w34 ⟨v400, rfl, ho0, hb⟩; refine ⟨_, rfl, ?_⟩; have n0_ := Aside0.mk (Kd.S_elder' (by (with_reducible repeat (first | apply Kd.S_alloc | apply Kd.S_drewN | apply Kd.S_drew)); exact HO386.out) (Kd.R_base ho0) hb); have n1_ := Aside0.mk (Kd.R_elder' (by (with_reducible repeat (first | apply Kd.R_alloc | apply Kd.R_drewN | apply Kd.R_drew)); exact HO389.out) (Kd.R_base ho0) hb); have n2_ := Aside0.mk (Kd.R_elder' (by (with_reducible repeat (first | apply Kd.R_alloc | apply Kd.R_drewN | apply Kd.R_drew)); exact HO392.out) (Kd.R_base ho0) hb); have n3_ := Aside0.mk (Kd.S_elder' (by (with_reducible repeat (first | apply Kd.S_alloc | apply Kd.S_drewN | apply Kd.S_drew)); exact HO395.out) (Kd.R_base ho0) hb); have n4_ := Aside0.mk (Kd.R_elder' (by (with_reducible repeat (first | apply Kd.R_alloc | apply Kd.R_drewN | apply Kd.R_drew)); exact HO398.out) (Kd.R_base ho0) hb); have n5_ := Aside0.mk (Kd.R_lower (Kd.R_new' (Kd.R_new' (Kd.R_new' ho0 (Kd.R_lt (by (with_reducible repeat (first | apply Kd.R_alloc | apply Kd.R_drewN | apply Kd.R_drew)); exact HO389.out))) (Kd.R_lt (by (with_reducible repeat (first | apply Kd.R_alloc | apply Kd.R_drewN | apply Kd.R_drew)); exact HO392.out))) (Kd.R_lt (by (with_reducible repeat (first | apply Kd.R_alloc | apply Kd.R_drewN | apply Kd.R_drew)); exact HO398.out))) (below_size (by repeat (first | (with_reducible first | exact HB.out | apply below_alloc | apply pw_below_drewN | apply below_drew1) | exact HB.out)))); have n6_ := Aside0.mk (below_step (by repeat (first | (with_reducible first | exact HB.out | apply below_alloc | apply pw_below_drewN | apply below_drew1) | exact HB.out)) hb); clear HO386 HO389 HO392 HO395 HO398 HB; have HO386 := n0_; have HO389 := n1_; have HO392 := n2_; have HO395 := n3_; have HO398 := n4_; have HO401 := n5_; have HB := n6_; clear n0_ n1_ n2_ n3_ n4_ n5_ n6_; (try clear hb); (try clear hb2); (try clear hk); (try clear hi); (try clear ho0); obtain ⟨Ao35, co35, eo35⟩ := Kd.R_slice HO401.out; subst eo35; obtain ⟨Ao36, co36, eo36⟩ := Kd.R_slice HO392.out; subst eo36) | ((with_reducible refine gate_callee (f := 26) rfl ?_); refine goesL_ (some 36) rfl rfl Try.func26 (by kernel_rfl) rfl #[.slice Ao35 t399.length co35, .slice Ao36 t390.length co36] rfl (by (try simp only [List.map_toArray, List.map_cons, List.map_nil]); first | done | rfl | (simp only [List.length_drop, List.length_take]; rfl)) ?_; (with_reducible refine (laws_eqIntS.calls k _ _ t399 _ _ t390 true _ ?side1 ?side2 ?side3 ?side4 A13.out).mono ?_); (case side1 => repeat (first | exact (Kd.R_reads' HO401.out).2.2 | (with_reducible refine Kd.C_alloc ?_ _) | (with_reducible refine Kd.C_drewN ?_ _) | (with_reducible refine Kd.C_drew ?_))); (case side2 => exact (Kd.R_reads' HO401.out).2.1); (case side3 => repeat (first | exact (Kd.R_reads' HO392.out).2.2 | (with_reducible refine Kd.C_alloc ?_ _) | (with_reducible refine Kd.C_drewN ?_ _) | (with_reducible refine Kd.C_drew ?_))); (case side4 => exact (Kd.R_reads' HO392.out).2.1); rintro e w' ⟨rfl, ⟨nd, rfl⟩⟩; refine ⟨_, rfl, ?_⟩) | ((with_reducible refine gate_callee (f := 22) rfl ?_); refine goesL_ (some 40) rfl rfl Try.func22 (by kernel_rfl) rfl #[.slice A0 l0.length c0] rfl (by (try simp only [List.map_toArray, List.map_cons, List.map_nil]); first | done | rfl | (simp only [List.length_drop, List.length_take]; rfl)) ?_; (with_reducible refine (laws_toSkillS.calls k _ _ l0 t403 _ ?side1 ?side2 A15.out).mono ?_); (case side1 => repeat (first | exact (Kd.C_below HR0.out (by repeat (first | (with_reducible first | exact HB.out | apply below_alloc | apply pw_below_drewN | apply below_drew1) | exact HB.out))) | (with_reducible refine Kd.C_alloc ?_ _) | (with_reducible refine Kd.C_drewN ?_ _) | (with_reducible refine Kd.C_drew ?_))); (case side2 => exact HC0.out); rintro e w37 ⟨v404, rfl, ho0, hb⟩; refine ⟨_, rfl, ?_⟩; have n0_ := Aside0.mk (Kd.S_elder' (by (with_reducible repeat (first | apply Kd.S_alloc | apply Kd.S_drewN | apply Kd.S_drew)); exact HO386.out) (Kd.S_base ho0) hb); have n1_ := Aside0.mk (Kd.R_below (by (with_reducible repeat (first | apply Kd.R_alloc | apply Kd.R_drewN | apply Kd.R_drew)); exact HO389.out) hb); have n2_ := Aside0.mk (Kd.R_below (by (with_reducible repeat (first | apply Kd.R_alloc | apply Kd.R_drewN | apply Kd.R_drew)); exact HO392.out) hb); have n3_ := Aside0.mk (Kd.S_elder' (by (with_reducible repeat (first | apply Kd.S_alloc | apply Kd.S_drewN | apply Kd.S_drew)); exact HO395.out) (Kd.S_base ho0) hb); have n4_ := Aside0.mk (Kd.R_below (by (with_reducible repeat (first | apply Kd.R_alloc | apply Kd.R_drewN | apply Kd.R_drew)); exact HO398.out) hb); have n5_ := Aside0.mk (Kd.R_below (by (with_reducible repeat (first | apply Kd.R_alloc | apply Kd.R_drewN | apply Kd.R_drew)); exact HO401.out) hb); have n6_ := Aside0.mk (Kd.S_lower (Kd.S_new' (Kd.S_new' (Kd.S_new' (Kd.S_new' (Kd.S_new' (Kd.S_new' ho0 (Kd.S_lt (by (with_reducible repeat (first | apply Kd.S_alloc | apply Kd.S_drewN | apply Kd.S_drew)); exact HO386.out))) (Kd.R_lt (by (with_reducible repeat (first | apply Kd.R_alloc | apply Kd.R_drewN | apply Kd.R_drew)); exact HO389.out))) (Kd.R_lt (by (with_reducible repeat (first | apply Kd.R_alloc | apply Kd.R_drewN | apply Kd.R_drew)); exact HO392.out))) (Kd.S_lt (by (with_reducible repeat (first | apply Kd.S_alloc | apply Kd.S_drewN | apply Kd.S_drew)); exact HO395.out))) (Kd.R_lt (by (with_reducible repeat (first | apply Kd.R_alloc | apply Kd.R_drewN | apply Kd.R_drew)); exact HO398.out))) (Kd.R_lt (by (with_reducible repeat (first | apply Kd.R_alloc | apply Kd.R_drewN | apply Kd.R_drew)); exact HO401.out))) (below_size (by repeat (first | (with_reducible first | exact HB.out | apply below_alloc | apply pw_below_drewN | apply below_drew1) | exact HB.out)))); have n7_ := Aside0.mk (below_step (by repeat (first | (with_reducible first | exact HB.out | apply below_alloc | apply pw_below_drewN | apply below_drew1) | exact HB.out)) hb); clear HO386 HO389 HO392 HO395 HO398 HO401 HB; have HO386 := n0_; have HO389 := n1_; have HO392 := n2_; have HO395 := n3_; have HO398 := n4_; have HO401 := n5_; have HO405 := n6_; have HB := n7_; clear n0_ n1_ n2_ n3_ n4_ n5_ n6_ n7_; (try clear hb); (try clear hb2); (try clear hk); (try clear hi); (try clear ho0); obtain ⟨Ao38, co38, eo38⟩ := Kd.S_slice HO405.out; subst eo38) | ((with_reducible refine gate_callee (f := 23) rfl ?_); refine goesL_ (some 41) rfl rfl Try.func23 (by kernel_rfl) rfl #[.slice Ao32 t393.length co32, .slice Ao38 t403.length co38] rfl (by (try simp only [List.map_toArray, List.map_cons, List.map_nil]); first | done | rfl | (simp only [List.length_drop, List.length_take]; rfl)) ?_; (with_reducible refine (laws_eqSkillS.calls k _ _ t393 _ _ t403 true _ ?side1 ?side2 ?side3 ?side4 A16.out).mono ?_); (case side1 => repeat (first | exact (Kd.S_reads' HO395.out).2.2 | (with_reducible refine Kd.C_alloc ?_ _) | (with_reducible refine Kd.C_drewN ?_ _) | (with_reducible refine Kd.C_drew ?_))); (case side2 => exact (Kd.S_reads' HO395.out).2.1); (case side3 => repeat (first | exact (Kd.S_reads' HO405.out).2.2 | (with_reducible refine Kd.C_alloc ?_ _) | (with_reducible refine Kd.C_drewN ?_ _) | (with_reducible refine Kd.C_drew ?_))); (case side4 => exact (Kd.S_reads' HO405.out).2.1); rintro e w39 ⟨rfl, hb⟩; refine ⟨_, rfl, ?_⟩; have n0_ := Aside0.mk (Kd.S_below (by (with_reducible repeat (first | apply Kd.S_alloc | apply Kd.S_drewN | apply Kd.S_drew)); exact HO386.out) hb); have n1_ := Aside0.mk (Kd.R_below (by (with_reducible repeat (first | apply Kd.R_alloc | apply Kd.R_drewN | apply Kd.R_drew)); exact HO389.out) hb); have n2_ := Aside0.mk (Kd.R_below (by (with_reducible repeat (first | apply Kd.R_alloc | apply Kd.R_drewN | apply Kd.R_drew)); exact HO392.out) hb); have n3_ := Aside0.mk (Kd.S_below (by (with_reducible repeat (first | apply Kd.S_alloc | apply Kd.S_drewN | apply Kd.S_drew)); exact HO395.out) hb); have n4_ := Aside0.mk (Kd.R_below (by (with_reducible repeat (first | apply Kd.R_alloc | apply Kd.R_drewN | apply Kd.R_drew)); exact HO398.out) hb); have n5_ := Aside0.mk (Kd.R_below (by (with_reducible repeat (first | apply Kd.R_alloc | apply Kd.R_drewN | apply Kd.R_drew)); exact HO401.out) hb); have n6_ := Aside0.mk (Kd.S_below (by (with_reducible repeat (first | apply Kd.S_alloc | apply Kd.S_drewN | apply Kd.S_drew)); exact HO405.out) hb); have n7_ := Aside0.mk (below_step (by repeat (first | (with_reducible first | exact HB.out | apply below_alloc | apply pw_below_drewN | apply below_drew1) | exact HB.out)) hb); clear HO386 HO389 HO392 HO395 HO398 HO401 HO405 HB; have HO386 := n0_; have HO389 := n1_; have HO392 := n2_; have HO395 := n3_; have HO398 := n4_; have HO401 := n5_; have HO405 := n6_; have HB := n7_; clear n0_ n1_ n2_ n3_ n4_ n5_ n6_ n7_; (try clear hb); (try clear hb2); (try clear hk); (try clear hi)) | ((with_reducible refine gate_callee (f := 25) rfl ?_); refine goesL_ (some 45) rfl rfl Try.func25 (by kernel_rfl) rfl #[.slice A1 l1.length c1] rfl (by (try simp only [List.map_toArray, List.map_cons, List.map_nil]); first | done | rfl | (simp only [List.length_drop, List.length_take]; rfl)) ?_; (with_reducible refine (laws_toIntS.calls k _ _ l1 t407 _ ?side1 ?side2 A18.out).mono ?_); (case side1 => repeat (first | exact (Kd.C_below HR1.out HB.out) | (with_reducible refine Kd.C_alloc ?_ _) | (with_reducible refine Kd.C_drewN ?_ _) | (with_reducible refine Kd.C_drew ?_))); (case side2 => exact HC1.out); rintro e w40 ⟨v408, rfl, ho0, hb⟩; refine ⟨_, rfl, ?_⟩; have n0_ := Aside0.mk (Kd.S_elder' (by (with_reducible repeat (first | apply Kd.S_alloc | apply Kd.S_drewN | apply Kd.S_drew)); exact HO386.out) (Kd.R_base ho0) hb); have n1_ := Aside0.mk (Kd.R_elder' (by (with_reducible repeat (first | apply Kd.R_alloc | apply Kd.R_drewN | apply Kd.R_drew)); exact HO389.out) (Kd.R_base ho0) hb); have n2_ := Aside0.mk (Kd.R_elder' (by (with_reducible repeat (first | apply Kd.R_alloc | apply Kd.R_drewN | apply Kd.R_drew)); exact HO392.out) (Kd.R_base ho0) hb); have n3_ := Aside0.mk (Kd.S_elder' (by (with_reducible repeat (first | apply Kd.S_alloc | apply Kd.S_drewN | apply Kd.S_drew)); exact HO395.out) (Kd.R_base ho0) hb); have n4_ := Aside0.mk (Kd.R_elder' (by (with_reducible repeat (first | apply Kd.R_alloc | apply Kd.R_drewN | apply Kd.R_drew)); exact HO398.out) (Kd.R_base ho0) hb); have n5_ := Aside0.mk (Kd.R_elder' (by (with_reducible repeat (first | apply Kd.R_alloc | apply Kd.R_drewN | apply Kd.R_drew)); exact HO401.out) (Kd.R_base ho0) hb); have n6_ := Aside0.mk (Kd.S_elder' (by (with_reducible repeat (first | apply Kd.S_alloc | apply Kd.S_drewN | apply Kd.S_drew)); exact HO405.out) (Kd.R_base ho0) hb); have n7_ := Aside0.mk (Kd.R_lower (Kd.R_new' (Kd.R_new' (Kd.R_new' (Kd.R_new' ho0 (Kd.R_lt (by (with_reducible repeat (first | apply Kd.R_alloc | apply Kd.R_drewN | apply Kd.R_drew)); exact HO389.out))) (Kd.R_lt (by (with_reducible repeat (first | apply Kd.R_alloc | apply Kd.R_drewN | apply Kd.R_drew)); exact HO392.out))) (Kd.R_lt (by (with_reducible repeat (first | apply Kd.R_alloc | apply Kd.R_drewN | apply Kd.R_drew)); exact HO398.out))) (Kd.R_lt (by (with_reducible repeat (first | apply Kd.R_alloc | apply Kd.R_drewN | apply Kd.R_drew)); exact HO401.out))) (below_size (by repeat (first | (with_reducible first | exact HB.out | apply below_alloc | apply pw_below_drewN | apply below_drew1) | exact HB.out)))); have n8_ := Aside0.mk (below_step (by repeat (first | (with_reducible first | exact HB.out | apply below_alloc | apply pw_below_drewN | apply below_drew1) | exact HB.out)) hb); clear HO386 HO389 HO392 HO395 HO398 HO401 HO405 HB; have HO386 := n0_; have HO389 := n1_; have HO392 := n2_; have HO395 := n3_; have HO398 := n4_; have HO401 := n5_; have HO405 := n6_; have HO409 := n7_; have HB := n8_; clear n0_ n1_ n2_ n3_ n4_ n5_ n6_ n7_ n8_; (try clear hb); (try clear hb2); (try clear hk); (try clear hi); (try clear ho0); obtain ⟨Ao41, co41, eo41⟩ := Kd.R_slice HO409.out; subst eo41) | ((with_reducible refine gate_callee (f := 26) rfl ?_); refine goesL_ (some 46) rfl rfl Try.func26 (by kernel_rfl) rfl #[.slice Ao33 t396.length co33, .slice Ao41 t407.length co41] rfl (by (try simp only [List.map_toArray, List.map_cons, List.map_nil]); first | done | rfl | (simp only [List.length_drop, List.length_take]; rfl)) ?_; (with_reducible refine (laws_eqIntS.calls k _ _ t396 _ _ t407 true _ ?side1 ?side2 ?side3 ?side4 A19.out).mono ?_); (case side1 => repeat (first | exact (Kd.R_reads' HO398.out).2.2 | (with_reducible refine Kd.C_alloc ?_ _) | (with_reducible refine Kd.C_drewN ?_ _) | (with_reducible refine Kd.C_drew ?_))); (case side2 => exact (Kd.R_reads' HO398.out).2.1); (case side3 => repeat (first | exact (Kd.R_reads' HO409.out).2.2 | (with_reducible refine Kd.C_alloc ?_ _) | (with_reducible refine Kd.C_drewN ?_ _) | (with_reducible refine Kd.C_drew ?_))); (case side4 => exact (Kd.R_reads' HO409.out).2.1); rintro e w' ⟨rfl, ⟨nd, rfl⟩⟩; refine ⟨_, rfl, ?_⟩) | ((with_reducible refine gate_callee (f := 30) rfl ?_); refine goesL_ (some 50) rfl rfl Try.func30 (by kernel_rfl) rfl #[.slice Ao32 t393.length co32, .int .i64 1] rfl (by (try simp only [List.map_toArray, List.map_cons, List.map_nil]); first | done | rfl | (simp only [List.length_drop, List.length_take]; rfl)) ?_; (with_reducible refine (laws_markSkillS.calls k ?ownP (.slice Ao32 t393.length co32) t393 1 t411 w _ ?side1 ?side2 A21.out).mono ?_); (case side1 => repeat (first | (with_reducible first | exact HB.out | apply below_alloc | apply pw_below_drewN | apply below_drew1) | exact HB.out)); (case side2 => exact Kd.S_bound HO395.out); rintro e w42 ⟨rfl, hb, hkp⟩; refine ⟨_, rfl, ?_⟩; have n0_ := Aside0.mk (Kd.R_mono (ok' := fun k_ => some k_ ≠ (.slice Ao36 t390.length co36 : Value).ownBlock ∧ some k_ ≠ (.slice Ao33 t396.length co33 : Value).ownBlock ∧ some k_ ≠ (.slice Ao35 t399.length co35 : Value).ownBlock ∧ some k_ ≠ (.slice Ao41 t407.length co41 : Value).ownBlock) (Kd.R_keptB ((Kd.R_tight2 rfl HO389.out)) hkp (fun k_ hk_ hs_ => (fun e_ => (e_.1.1.1.1.1.1.2) hk_.1) hs_)) (fun k_ hk_ => ⟨hk_.1.2.1.1.1.2, hk_.1.2.1.1.2, hk_.1.2.1.2, hk_.1.2.2⟩)); have n1_ := Aside0.mk (Kd.R_mono (ok' := fun k_ => some k_ ≠ (.slice Ao28 t387.length co28 : Value).ownBlock ∧ some k_ ≠ (.slice Ao33 t396.length co33 : Value).ownBlock ∧ some k_ ≠ (.slice Ao35 t399.length co35 : Value).ownBlock ∧ some k_ ≠ (.slice Ao41 t407.length co41 : Value).ownBlock) (Kd.R_keptB ((Kd.R_tight2 rfl HO392.out)) hkp (fun k_ hk_ hs_ => (fun e_ => (e_.1.1.1.1.1.2) hk_.1) hs_)) (fun k_ hk_ => ⟨hk_.1.2.1.1.1.2, hk_.1.2.1.1.2, hk_.1.2.1.2, hk_.1.2.2⟩)); have n2_ := Aside0.mk (Kd.R_mono (ok' := fun k_ => some k_ ≠ (.slice Ao28 t387.length co28 : Value).ownBlock ∧ some k_ ≠ (.slice Ao36 t390.length co36 : Value).ownBlock ∧ some k_ ≠ (.slice Ao35 t399.length co35 : Value).ownBlock ∧ some k_ ≠ (.slice Ao41 t407.length co41 : Value).ownBlock) (Kd.R_keptB ((Kd.R_tight2 rfl HO398.out)) hkp (fun k_ hk_ hs_ => (fun e_ => (e_.1.1.1.1.2) hk_.1) hs_)) (fun k_ hk_ => ⟨hk_.1.2.1.1.1.2, hk_.1.2.1.1.2, hk_.1.2.1.2, hk_.1.2.2⟩)); have n3_ := Aside0.mk (Kd.R_mono (ok' := fun k_ => some k_ ≠ (.slice Ao28 t387.length co28 : Value).ownBlock ∧ some k_ ≠ (.slice Ao36 t390.length co36 : Value).ownBlock ∧ some k_ ≠ (.slice Ao33 t396.length co33 : Value).ownBlock ∧ some k_ ≠ (.slice Ao41 t407.length co41 : Value).ownBlock) (Kd.R_keptB ((Kd.R_tight2 rfl HO401.out)) hkp (fun k_ hk_ hs_ => (fun e_ => (e_.1.1.1.2) hk_.1) hs_)) (fun k_ hk_ => ⟨hk_.1.2.1.1.1.2, hk_.1.2.1.1.2, hk_.1.2.1.2, hk_.1.2.2⟩)); have n4_ := Aside0.mk (Kd.R_mono (ok' := fun k_ => some k_ ≠ (.slice Ao28 t387.length co28 : Value).ownBlock ∧ some k_ ≠ (.slice Ao36 t390.length co36 : Value).ownBlock ∧ some k_ ≠ (.slice Ao33 t396.length co33 : Value).ownBlock ∧ some k_ ≠ (.slice Ao35 t399.length co35 : Value).ownBlock) (Kd.R_keptB ((Kd.R_tight2 rfl HO409.out)) hkp (fun k_ hk_ hs_ => (fun e_ => (e_.1.2) hk_.1) hs_)) (fun k_ hk_ => ⟨hk_.1.2.1.1.1.2, hk_.1.2.1.1.2, hk_.1.2.1.2, hk_.1.2.2⟩)); have n5_ := Aside0.mk (hb); clear HO389 HO392 HO398 HO401 HO409 HB HO386 HO395 HO405; have HO389 := n0_; have HO392 := n1_; have HO398 := n2_; have HO401 := n3_; have HO409 := n4_; have HB := n5_; clear n0_ n1_ n2_ n3_ n4_ n5_; (try clear hb); (try clear hkp)) | ((with_reducible refine gate_callee (f := 31) rfl ?_); refine goesL_ (some 53) rfl rfl Try.func31 (by kernel_rfl) rfl #[.slice Ao33 t396.length co33, .int .i64 t411] rfl (by (try simp only [List.map_toArray, List.map_cons, List.map_nil]); first | done | rfl | (simp only [List.length_drop, List.length_take]; rfl)) ?_; (with_reducible refine (laws_markIntS.calls k (fun k_ => some k_ = (.slice Ao33 t396.length co33 : Value).ownBlock) (.slice Ao33 t396.length co33) t396 t411 t412 t413 w _ ?side1 ?side2 A22.out).mono ?_); (case side1 => repeat (first | (with_reducible first | exact HB.out | apply below_alloc | apply pw_below_drewN | apply below_drew1) | exact HB.out)); (case side2 => exact Kd.R_tight rfl HO398.out); rintro e w43 ⟨rfl, hy0, hb, hkp⟩; refine ⟨_, rfl, ?_⟩; have n0_ := Aside0.mk (Kd.R_mono (ok' := fun k_ => some k_ ≠ (.slice Ao36 t390.length co36 : Value).ownBlock ∧ some k_ ≠ (.slice Ao33 t396.length co33 : Value).ownBlock ∧ some k_ ≠ (.slice Ao35 t399.length co35 : Value).ownBlock ∧ some k_ ≠ (.slice Ao41 t407.length co41 : Value).ownBlock) (Kd.R_keptB (HO389.out) hkp (fun k_ hk_ hs_ => (hk_.2.1) hs_)) (fun k_ hk_ => ⟨hk_.1.1, hk_.1.2.1, hk_.1.2.2.1, hk_.1.2.2.2⟩)); have n1_ := Aside0.mk (Kd.R_mono (ok' := fun k_ => some k_ ≠ (.slice Ao28 t387.length co28 : Value).ownBlock ∧ some k_ ≠ (.slice Ao33 t396.length co33 : Value).ownBlock ∧ some k_ ≠ (.slice Ao35 t399.length co35 : Value).ownBlock ∧ some k_ ≠ (.slice Ao41 t407.length co41 : Value).ownBlock) (Kd.R_keptB (HO392.out) hkp (fun k_ hk_ hs_ => (hk_.2.1) hs_)) (fun k_ hk_ => ⟨hk_.1.1, hk_.1.2.1, hk_.1.2.2.1, hk_.1.2.2.2⟩)); have n2_ := Aside0.mk (Kd.R_reok rfl hy0 (fun k_ e_ => HO398.out.1 k_ e_)); have n3_ := Aside0.mk (Kd.R_mono (ok' := fun k_ => some k_ ≠ (.slice Ao28 t387.length co28 : Value).ownBlock ∧ some k_ ≠ (.slice Ao36 t390.length co36 : Value).ownBlock ∧ some k_ ≠ (.slice Ao33 t396.length co33 : Value).ownBlock ∧ some k_ ≠ (.slice Ao41 t407.length co41 : Value).ownBlock) (Kd.R_keptB (HO401.out) hkp (fun k_ hk_ hs_ => (hk_.2.2.1) hs_)) (fun k_ hk_ => ⟨hk_.1.1, hk_.1.2.1, hk_.1.2.2.1, hk_.1.2.2.2⟩)); have n4_ := Aside0.mk (Kd.R_mono (ok' := fun k_ => some k_ ≠ (.slice Ao28 t387.length co28 : Value).ownBlock ∧ some k_ ≠ (.slice Ao36 t390.length co36 : Value).ownBlock ∧ some k_ ≠ (.slice Ao33 t396.length co33 : Value).ownBlock ∧ some k_ ≠ (.slice Ao35 t399.length co35 : Value).ownBlock) (Kd.R_keptB (HO409.out) hkp (fun k_ hk_ hs_ => (hk_.2.2.1) hs_)) (fun k_ hk_ => ⟨hk_.1.1, hk_.1.2.1, hk_.1.2.2.1, hk_.1.2.2.2⟩)); have n5_ := Aside0.mk (hb); clear HO389 HO392 HO398 HO401 HO409 HB; have HO389 := n0_; have HO392 := n1_; have HO398 := n2_; have HO401 := n3_; have HO409 := n4_; have HB := n5_; clear n0_ n1_ n2_ n3_ n4_ n5_; (try clear hb); (try clear hkp); (try clear hy0)))
      (try simp only [Act.put, List.setIfInBounds_toArray, List.set_cons_zero, List.set_cons_succ])
      go_cut [61] (fun v61 wc => ∃ (kq : Nat) (x61_22 : Bool), v61 = .bool x61_22 ∧ Aside0 (laws_FnExactCanLearn.j0 kq l0 l1 t390 t399 x61_22 = some r) ∧ Aside0 (kq ≤ k) ∧ Aside0 (Kd.R (Kd.int .i64) 3 wc w.heap.size (fun k_ => some k_ ≠ ((.slice Ao35 t399.length co35) : Value).ownBlock) (.slice Ao36 t390.length co36) t390) ∧ Aside0 (Kd.R (Kd.int .i64) 3 wc w.heap.size (fun k_ => some k_ ≠ ((.slice Ao36 t390.length co36) : Value).ownBlock) (.slice Ao35 t399.length co35) t399) ∧ Aside0 (Below w.heap.size w wc))
      case first =>
       have H := HC23.out
       clear HC23
       by_cases c44 : t412 < 0
       ·rw [if_pos c44] at H
        have c44b0 : decide (t412 < 0) = true := decide_eq_true c44
        clear c44
        (first | rw [c44b0] | (simp only [i64_w, i32_w]; rw [c44b0]) | skip)
        exact (laws_FnExactCanLearn.j0_no HRT.out H).elim
       ·rw [if_neg c44] at H
        have c44b0 : decide (t412 < 0) = false := decide_eq_false c44
        clear c44
        (first | rw [c44b0] | (simp only [i64_w, i32_w]; rw [c44b0]) | skip)
        replace H := Option.bind_eq_some_iff.mp H
        obtain ⟨t414, A450, H⟩ := H
        replace H : (laws_FnExactCanLearn.j0 k l0 l1 t390 t399 (!t414)) = some r := H
        have A45 := Aside0.mk A450
        clear A450
        have H' := Aside0.mk H
        clear H
        go_wp2_with (first | (go_at_call 26; (with_reducible refine (laws_eqIntS.calls k _ _ t399 _ _ t390 t414 _ ?side1 ?side2 ?side3 ?side4 A45.out).mono ?_); (case side1 => repeat (first | exact (Kd.R_reads' HO401.out).2.2 | (with_reducible refine Kd.C_alloc ?_ _) | (with_reducible refine Kd.C_drewN ?_ _) | (with_reducible refine Kd.C_drew ?_))); (case side2 => exact (Kd.R_reads' HO401.out).2.1); (case side3 => repeat (first | exact (Kd.R_reads' HO392.out).2.2 | (with_reducible refine Kd.C_alloc ?_ _) | (with_reducible refine Kd.C_drewN ?_ _) | (with_reducible refine Kd.C_drew ?_))); (case side4 => exact (Kd.R_reads' HO392.out).2.1); rintro e w' ⟨rfl, ⟨nd, rfl⟩⟩))
        go_meet
        case rel => exact ⟨_, (!t414), (by first | rfl | (simp; done) | (simp [*]; done)), H', ⟨by first | omega | exact Nat.le_refl _⟩, ⟨by (with_reducible repeat (first | apply Kd.R_alloc | apply Kd.R_drewN | apply Kd.R_drew)); exact Kd.R_mono HO392.out (fun _ hk => hk.2.2.1)⟩, ⟨by (with_reducible repeat (first | apply Kd.R_alloc | apply Kd.R_drewN | apply Kd.R_drew)); exact Kd.R_mono HO401.out (fun _ hk => hk.2.1)⟩, ⟨by repeat (first | (with_reducible first | exact HB.out | apply below_alloc | apply pw_below_drewN | apply below_drew1) | exact HB.out)⟩⟩
      case rest =>
       clear HC23
       try clear c1
       try clear c2
       try clear p2
       try clear c3
       try clear c3b0
       try clear c3b1
       try clear c4
       try clear c5
       try clear c5b0
       try clear c9
       try clear c13
       try clear c14
       try clear c17
       try clear c20
       try clear c22
       try clear c23
       try clear c25
       try clear c26
       try clear c30
       try clear c31
       try clear c33
       try clear c44
       try clear c44b0
       obtain ⟨kq, x61_22, rfl, HA, HJ22, HO_6, HO_9, HB⟩ := hcut
       cases kq with
       | zero => exact absurd HA.out (by simp [laws_FnExactCanLearn.j0])
       | succ kj22 =>
        have H := HA.out
        clear HA
        simp only [laws_FnExactCanLearn.j0] at H
        by_cases c46 : x61_22 = true
        ·subst c46
         have H1 : (some false) = some r := by rw [if_pos rfl] at H; exact H
         clear H
         have H := H1
         clear H1
         exact absurd (H.trans (congrArg some HRT.out)) (by simp)
        ·replace c46 := Bool.eq_false_iff.mpr c46
         subst c46
         have H1 : ((laws_markIntS.f kj22 t399 1).bind fun bt415 => ((laws_heldIntS.f kj22 bt415.2 1).bind fun t417 => (if t417 < 0 then (some false) else (if t417 = bt415.1 then ((laws_toSkillS.f kj22 l0).bind fun t418 => ((laws_toIntS.f kj22 l1).bind fun t421 => ((impl_CanLearn.f kj22 t418 t421).bind fun t424 => ((laws_eqIntS.f kj22 t424 t390).bind fun t427 => (if t427 = true then ((laws_heldIntS.f kj22 bt415.2 1).bind fun t428 => (if t428 < 0 then (some false) else (if t428 = bt415.1 then (some true) else (some false)))) else (some false)))))) else (some false))))) = some r := by rw [if_neg (show ¬ (false = true) by decide)] at H; exact H
         clear H
         have H := H1
         clear H1
         replace H := Option.bind_eq_some_iff.mp H
         obtain ⟨⟨t415, t416⟩, A470, H⟩ := H
         replace H : ((laws_heldIntS.f kj22 t416 1).bind fun t417 => (if t417 < 0 then (some false) else (if t417 = t415 then ((laws_toSkillS.f kj22 l0).bind fun t418 => ((laws_toIntS.f kj22 l1).bind fun t421 => ((impl_CanLearn.f kj22 t418 t421).bind fun t424 => ((laws_eqIntS.f kj22 t424 t390).bind fun t427 => (if t427 = true then ((laws_heldIntS.f kj22 t416 1).bind fun t428 => (if t428 < 0 then (some false) else (if t428 = t415 then (some true) else (some false)))) else (some false)))))) else (some false)))) = some r := H
         have A47 := Aside0.mk A470
         clear A470
         replace H := Option.bind_eq_some_iff.mp H
         obtain ⟨t417, A480, H⟩ := H
         replace H : (if t417 < 0 then (some false) else (if t417 = t415 then ((laws_toSkillS.f kj22 l0).bind fun t418 => ((laws_toIntS.f kj22 l1).bind fun t421 => ((impl_CanLearn.f kj22 t418 t421).bind fun t424 => ((laws_eqIntS.f kj22 t424 t390).bind fun t427 => (if t427 = true then ((laws_heldIntS.f kj22 t416 1).bind fun t428 => (if t428 < 0 then (some false) else (if t428 = t415 then (some true) else (some false)))) else (some false)))))) else (some false))) = some r := H
         have A48 := Aside0.mk A480
         clear A480
         by_cases c49 : t417 < 0
         ·rw [if_pos c49] at H
          have c49b0 : decide (t417 < 0) = true := decide_eq_true c49
          clear c49
          exact absurd (H.trans (congrArg some HRT.out)) (by simp)
         ·rw [if_neg c49] at H
          have c49b0 : decide (t417 < 0) = false := decide_eq_false c49
          clear c49
          by_cases c50 : t417 = t415
          ·rw [if_pos c50] at H
           have c50b0 : (t417 == t415) = true := beq_iff_eq.mpr c50
           have c50b1 : (t417 != t415) = false := bne_eq_false_iff_eq.mpr c50
           clear c50
           replace H := Option.bind_eq_some_iff.mp H
           obtain ⟨t418, A510, H⟩ := H
           replace H : ((laws_toIntS.f kj22 l1).bind fun t421 => ((impl_CanLearn.f kj22 t418 t421).bind fun t424 => ((laws_eqIntS.f kj22 t424 t390).bind fun t427 => (if t427 = true then ((laws_heldIntS.f kj22 t416 1).bind fun t428 => (if t428 < 0 then (some false) else (if t428 = t415 then (some true) else (some false)))) else (some false))))) = some r := H
           have A51 := Aside0.mk A510
           clear A510
           replace H := Option.bind_eq_some_iff.mp H
           obtain ⟨t421, A520, H⟩ := H
           replace H : ((impl_CanLearn.f kj22 t418 t421).bind fun t424 => ((laws_eqIntS.f kj22 t424 t390).bind fun t427 => (if t427 = true then ((laws_heldIntS.f kj22 t416 1).bind fun t428 => (if t428 < 0 then (some false) else (if t428 = t415 then (some true) else (some false)))) else (some false)))) = some r := H
           have A52 := Aside0.mk A520
           clear A520
           replace H := Option.bind_eq_some_iff.mp H
           obtain ⟨t424, A530, H⟩ := H
           replace H : ((laws_eqIntS.f kj22 t424 t390).bind fun t427 => (if t427 = true then ((laws_heldIntS.f kj22 t416 1).bind fun t428 => (if t428 < 0 then (some false) else (if t428 = t415 then (some true) else (some false)))) else (some false))) = some r := H
           have A53 := Aside0.mk A530
           clear A530
           replace H := Option.bind_eq_some_iff.mp H
           obtain ⟨t427, A540, H⟩ := H
           replace H : (if t427 = true then ((laws_heldIntS.f kj22 t416 1).bind fun t428 => (if t428 < 0 then (some false) else (if t428 = t415 then (some true) else (some false)))) else (some false)) = some r := H
           have A54 := Aside0.mk A540
           clear A540
           by_cases c55 : t427 = true
           ·subst c55
            have H1 : ((laws_heldIntS.f kj22 t416 1).bind fun t428 => (if t428 < 0 then (some false) else (if t428 = t415 then (some true) else (some false)))) = some r := by rw [if_pos rfl] at H; exact H
            clear H
            have H := H1
            clear H1
            replace H := Option.bind_eq_some_iff.mp H
            obtain ⟨t428, A560, H⟩ := H
            replace H : (if t428 < 0 then (some false) else (if t428 = t415 then (some true) else (some false))) = some r := H
            have A56 := Aside0.mk A560
            clear A560
            by_cases c57 : t428 < 0
            ·rw [if_pos c57] at H
             have c57b0 : decide (t428 < 0) = true := decide_eq_true c57
             clear c57
             exact absurd (H.trans (congrArg some HRT.out)) (by simp)
            ·rw [if_neg c57] at H
             have c57b0 : decide (t428 < 0) = false := decide_eq_false c57
             clear c57
             by_cases c58 : t428 = t415
             ·rw [if_pos c58] at H
              have c58b0 : (t428 == t415) = true := beq_iff_eq.mpr c58
              have c58b1 : (t428 != t415) = false := bne_eq_false_iff_eq.mpr c58
              clear c58
              obtain rfl := Option.some.inj H
              go_wp2_with (first | ((with_reducible refine gate_callee (f := 31) rfl ?_); refine goesL_ (some 64) rfl rfl Try.func31 (by kernel_rfl) rfl #[.slice Ao35 t399.length co35, .int .i64 1] rfl (by (try simp only [List.map_toArray, List.map_cons, List.map_nil]); first | done | rfl | (simp only [List.length_drop, List.length_take]; rfl)) ?_; (with_reducible refine (laws_markIntS.calls kj22 (fun k_ => some k_ = (.slice Ao35 t399.length co35 : Value).ownBlock) (.slice Ao35 t399.length co35) t399 1 t415 t416 w _ ?side1 ?side2 A47.out).mono ?_); (case side1 => repeat (first | (with_reducible first | exact HB.out | apply below_alloc | apply pw_below_drewN | apply below_drew1) | exact HB.out)); (case side2 => exact Kd.R_tight rfl HO_9.out); rintro e w59 ⟨rfl, hy0, hb, hkp⟩; refine ⟨_, rfl, ?_⟩; have n0_ := Aside0.mk (Kd.R_mono (ok' := fun k_ => some k_ ≠ (.slice Ao35 t399.length co35 : Value).ownBlock) (Kd.R_keptB (HO_6.out) hkp (fun k_ hk_ hs_ => (hk_) hs_)) (fun k_ hk_ => hk_.1)); have n1_ := Aside0.mk (Kd.R_reok rfl hy0 (fun k_ e_ => HO_9.out.1 k_ e_)); have n2_ := Aside0.mk (hb); clear HO_6 HO_9 HB; have HO_6 := n0_; have HO_9 := n1_; have HB := n2_; clear n0_ n1_ n2_; (try clear hb); (try clear hkp); (try clear hy0)) | ((with_reducible refine gate_callee (f := 32) rfl ?_); refine goesL_ (some 67) rfl rfl Try.func32 (by kernel_rfl) rfl #[.slice Ao35 t416.length co35, .int .i64 1] rfl (by (try simp only [List.map_toArray, List.map_cons, List.map_nil]); first | done | (rw [show t416.length = t399.length from (Kd.R_reads' HO_9.out).1.symm] <;> rfl) | rfl | (simp only [List.length_drop, List.length_take]; rfl)) ?_; (with_reducible refine (laws_heldIntS.calls kj22 _ _ t416 1 t417 _ ?side1 ?side2 A48.out).mono ?_); (case side1 => repeat (first | exact (Kd.R_reads' HO_9.out).2.2 | (with_reducible refine Kd.C_alloc ?_ _) | (with_reducible refine Kd.C_drewN ?_ _) | (with_reducible refine Kd.C_drew ?_))); (case side2 => rw [show t416.length = t399.length from (Kd.R_reads' HO_9.out).1.symm]; exact (Kd.R_reads' HO_9.out).2.1); rintro e w' ⟨rfl, ⟨nd, rfl⟩⟩; refine ⟨_, rfl, ?_⟩) | ((with_reducible refine gate_callee (f := 22) rfl ?_); refine goesL_ (some 74) rfl rfl Try.func22 (by kernel_rfl) rfl #[.slice A0 l0.length c0] rfl (by (try simp only [List.map_toArray, List.map_cons, List.map_nil]); first | done | rfl | (simp only [List.length_drop, List.length_take]; rfl)) ?_; (with_reducible refine (laws_toSkillS.calls kj22 _ _ l0 t418 _ ?side1 ?side2 A51.out).mono ?_); (case side1 => repeat (first | exact (Kd.C_below HR0.out (by repeat (first | (with_reducible first | exact HB.out | apply below_alloc | apply pw_below_drewN | apply below_drew1) | exact HB.out))) | (with_reducible refine Kd.C_alloc ?_ _) | (with_reducible refine Kd.C_drewN ?_ _) | (with_reducible refine Kd.C_drew ?_))); (case side2 => exact HC0.out); rintro e w60 ⟨v419, rfl, ho0, hb⟩; refine ⟨_, rfl, ?_⟩; have n0_ := Aside0.mk (Kd.R_below (by (with_reducible repeat (first | apply Kd.R_alloc | apply Kd.R_drewN | apply Kd.R_drew)); exact HO_6.out) hb); have n1_ := Aside0.mk (Kd.R_below (by (with_reducible repeat (first | apply Kd.R_alloc | apply Kd.R_drewN | apply Kd.R_drew)); exact HO_9.out) hb); have n2_ := Aside0.mk (Kd.S_lower (Kd.S_new' (Kd.S_new' ho0 (Kd.R_lt (by (with_reducible repeat (first | apply Kd.R_alloc | apply Kd.R_drewN | apply Kd.R_drew)); exact HO_6.out))) (Kd.R_lt (by (with_reducible repeat (first | apply Kd.R_alloc | apply Kd.R_drewN | apply Kd.R_drew)); exact HO_9.out))) (below_size (by repeat (first | (with_reducible first | exact HB.out | apply below_alloc | apply pw_below_drewN | apply below_drew1) | exact HB.out)))); have n3_ := Aside0.mk (below_step (by repeat (first | (with_reducible first | exact HB.out | apply below_alloc | apply pw_below_drewN | apply below_drew1) | exact HB.out)) hb); clear HO_6 HO_9 HB; have HO_6 := n0_; have HO_9 := n1_; have HO420 := n2_; have HB := n3_; clear n0_ n1_ n2_ n3_; (try clear hb); (try clear hb2); (try clear hk); (try clear hi); (try clear ho0)) | ((with_reducible refine gate_callee (f := 25) rfl ?_); refine goesL_ (some 76) rfl rfl Try.func25 (by kernel_rfl) rfl #[.slice A1 l1.length c1] rfl (by (try simp only [List.map_toArray, List.map_cons, List.map_nil]); first | done | rfl | (simp only [List.length_drop, List.length_take]; rfl)) ?_; (with_reducible refine (laws_toIntS.calls kj22 _ _ l1 t421 _ ?side1 ?side2 A52.out).mono ?_); (case side1 => repeat (first | exact (Kd.C_below HR1.out HB.out) | (with_reducible refine Kd.C_alloc ?_ _) | (with_reducible refine Kd.C_drewN ?_ _) | (with_reducible refine Kd.C_drew ?_))); (case side2 => exact HC1.out); rintro e w61 ⟨v422, rfl, ho0, hb⟩; refine ⟨_, rfl, ?_⟩; have n0_ := Aside0.mk (Kd.R_elder' (by (with_reducible repeat (first | apply Kd.R_alloc | apply Kd.R_drewN | apply Kd.R_drew)); exact HO_6.out) (Kd.R_base ho0) hb); have n1_ := Aside0.mk (Kd.R_elder' (by (with_reducible repeat (first | apply Kd.R_alloc | apply Kd.R_drewN | apply Kd.R_drew)); exact HO_9.out) (Kd.R_base ho0) hb); have n2_ := Aside0.mk (Kd.S_elder' (by (with_reducible repeat (first | apply Kd.S_alloc | apply Kd.S_drewN | apply Kd.S_drew)); exact HO420.out) (Kd.R_base ho0) hb); have n3_ := Aside0.mk (Kd.R_lower (Kd.R_new' (Kd.R_new' ho0 (Kd.R_lt (by (with_reducible repeat (first | apply Kd.R_alloc | apply Kd.R_drewN | apply Kd.R_drew)); exact HO_6.out))) (Kd.R_lt (by (with_reducible repeat (first | apply Kd.R_alloc | apply Kd.R_drewN | apply Kd.R_drew)); exact HO_9.out))) (below_size (by repeat (first | (with_reducible first | exact HB.out | apply below_alloc | apply pw_below_drewN | apply below_drew1) | exact HB.out)))); have n4_ := Aside0.mk (below_step (by repeat (first | (with_reducible first | exact HB.out | apply below_alloc | apply pw_below_drewN | apply below_drew1) | exact HB.out)) hb); clear HO_6 HO_9 HO420 HB; have HO_6 := n0_; have HO_9 := n1_; have HO420 := n2_; have HO423 := n3_; have HB := n4_; clear n0_ n1_ n2_ n3_ n4_; (try clear hb); (try clear hb2); (try clear hk); (try clear hi); (try clear ho0); obtain ⟨Ao62, co62, eo62⟩ := Kd.S_slice HO420.out; subst eo62; obtain ⟨Ao63, co63, eo63⟩ := Kd.R_slice HO423.out; subst eo63) | ((with_reducible refine gate_callee (f := 13) rfl ?_); refine goesL_ (some 77) rfl rfl Try.func13 (by kernel_rfl) rfl #[.slice Ao62 t418.length co62, .slice Ao63 t421.length co63] rfl (by (try simp only [List.map_toArray, List.map_cons, List.map_nil]); first | done | rfl | (simp only [List.length_drop, List.length_take]; rfl)) ?_; (with_reducible refine (impl_CanLearn.calls kj22 _ _ t418 _ _ t421 t424 _ ?side1 ?side2 ?side3 ?side4 A53.out).mono ?_); (case side1 => repeat (first | exact (Kd.S_reads' HO420.out).2.2 | (with_reducible refine Kd.C_alloc ?_ _) | (with_reducible refine Kd.C_drewN ?_ _) | (with_reducible refine Kd.C_drew ?_))); (case side2 => exact (Kd.S_reads' HO420.out).2.1); (case side3 => repeat (first | exact (Kd.R_reads' HO423.out).2.2 | (with_reducible refine Kd.C_alloc ?_ _) | (with_reducible refine Kd.C_drewN ?_ _) | (with_reducible refine Kd.C_drew ?_))); (case side4 => exact (Kd.R_reads' HO423.out).2.1); rintro e w64 ⟨v425, rfl, ho0, hb⟩; refine ⟨_, rfl, ?_⟩; have n0_ := Aside0.mk (Kd.R_elder' (by (with_reducible repeat (first | apply Kd.R_alloc | apply Kd.R_drewN | apply Kd.R_drew)); exact HO_6.out) (Kd.R_base ho0) hb); have n1_ := Aside0.mk (Kd.R_elder' (by (with_reducible repeat (first | apply Kd.R_alloc | apply Kd.R_drewN | apply Kd.R_drew)); exact HO_9.out) (Kd.R_base ho0) hb); have n2_ := Aside0.mk (Kd.S_elder' (by (with_reducible repeat (first | apply Kd.S_alloc | apply Kd.S_drewN | apply Kd.S_drew)); exact HO420.out) (Kd.R_base ho0) hb); have n3_ := Aside0.mk (Kd.R_elder' (by (with_reducible repeat (first | apply Kd.R_alloc | apply Kd.R_drewN | apply Kd.R_drew)); exact HO423.out) (Kd.R_base ho0) hb); have n4_ := Aside0.mk (Kd.R_lower (Kd.R_new' (Kd.R_new' (Kd.R_new' ho0 (Kd.R_lt (by (with_reducible repeat (first | apply Kd.R_alloc | apply Kd.R_drewN | apply Kd.R_drew)); exact HO_6.out))) (Kd.R_lt (by (with_reducible repeat (first | apply Kd.R_alloc | apply Kd.R_drewN | apply Kd.R_drew)); exact HO_9.out))) (Kd.R_lt (by (with_reducible repeat (first | apply Kd.R_alloc | apply Kd.R_drewN | apply Kd.R_drew)); exact HO423.out))) (below_size (by repeat (first | (with_reducible first | exact HB.out | apply below_alloc | apply pw_below_drewN | apply below_drew1) | exact HB.out)))); have n5_ := Aside0.mk (below_step (by repeat (first | (with_reducible first | exact HB.out | apply below_alloc | apply pw_below_drewN | apply below_drew1) | exact HB.out)) hb); clear HO_6 HO_9 HO420 HO423 HB; have HO_6 := n0_; have HO_9 := n1_; have HO420 := n2_; have HO423 := n3_; have HO426 := n4_; have HB := n5_; clear n0_ n1_ n2_ n3_ n4_ n5_; (try clear hb); (try clear hb2); (try clear hk); (try clear hi); (try clear ho0); obtain ⟨Ao65, co65, eo65⟩ := Kd.R_slice HO426.out; subst eo65) | ((with_reducible refine gate_callee (f := 26) rfl ?_); refine goesL_ (some 80) rfl rfl Try.func26 (by kernel_rfl) rfl #[.slice Ao65 t424.length co65, .slice Ao36 t390.length co36] rfl (by (try simp only [List.map_toArray, List.map_cons, List.map_nil]); first | done | rfl | (simp only [List.length_drop, List.length_take]; rfl)) ?_; (with_reducible refine (laws_eqIntS.calls kj22 _ _ t424 _ _ t390 true _ ?side1 ?side2 ?side3 ?side4 A54.out).mono ?_); (case side1 => repeat (first | exact (Kd.R_reads' HO426.out).2.2 | (with_reducible refine Kd.C_alloc ?_ _) | (with_reducible refine Kd.C_drewN ?_ _) | (with_reducible refine Kd.C_drew ?_))); (case side2 => exact (Kd.R_reads' HO426.out).2.1); (case side3 => repeat (first | exact (Kd.R_reads' HO_6.out).2.2 | (with_reducible refine Kd.C_alloc ?_ _) | (with_reducible refine Kd.C_drewN ?_ _) | (with_reducible refine Kd.C_drew ?_))); (case side4 => exact (Kd.R_reads' HO_6.out).2.1); rintro e w' ⟨rfl, ⟨nd, rfl⟩⟩; refine ⟨_, rfl, ?_⟩) | ((with_reducible refine gate_callee (f := 32) rfl ?_); refine goesL_ (some 84) rfl rfl Try.func32 (by kernel_rfl) rfl #[.slice Ao35 t416.length co35, .int .i64 1] rfl (by (try simp only [List.map_toArray, List.map_cons, List.map_nil]); first | done | (rw [show t416.length = t399.length from (Kd.R_reads' HO_9.out).1.symm] <;> rfl) | rfl | (simp only [List.length_drop, List.length_take]; rfl)) ?_; (with_reducible refine (laws_heldIntS.calls kj22 _ _ t416 1 t428 _ ?side1 ?side2 A56.out).mono ?_); (case side1 => repeat (first | exact (Kd.R_reads' HO_9.out).2.2 | (with_reducible refine Kd.C_alloc ?_ _) | (with_reducible refine Kd.C_drewN ?_ _) | (with_reducible refine Kd.C_drew ?_))); (case side2 => rw [show t416.length = t399.length from (Kd.R_reads' HO_9.out).1.symm]; exact (Kd.R_reads' HO_9.out).2.1); rintro e w' ⟨rfl, ⟨nd, rfl⟩⟩; refine ⟨_, rfl, ?_⟩))
              go_ret
              exact ⟨by first | rfl | (simp [errW_none, errW_some] <;> rfl) | (simp [*, errW_none, errW_some] <;> rfl), by repeat (first | (with_reducible first | exact HB.out | apply below_alloc | apply pw_below_drewN | apply below_drew1) | exact HB.out)⟩
             ·rw [if_neg c58] at H
              have c58b0 : (t428 == t415) = false := beq_eq_false_iff_ne.mpr c58
              have c58b1 : (t428 != t415) = true := bne_iff_ne.mpr c58
              exact absurd (H.trans (congrArg some HRT.out)) (by simp)
           ·replace c55 := Bool.eq_false_iff.mpr c55
            subst c55
            have H1 : (some false) = some r := by rw [if_neg (show ¬ (false = true) by decide)] at H; exact H
            clear H
            have H := H1
            clear H1
            exact absurd (H.trans (congrArg some HRT.out)) (by simp)
          ·rw [if_neg c50] at H
           have c50b0 : (t417 == t415) = false := beq_eq_false_iff_ne.mpr c50
           have c50b1 : (t417 != t415) = true := bne_iff_ne.mpr c50
           exact absurd (H.trans (congrArg some HRT.out)) (by simp)
     ·replace c20 := Bool.eq_false_iff.mpr c20
      subst c20
      have H1 : (some false) = some r := by rw [if_neg (show ¬ (false = true) by decide)] at H; exact H
      clear H
      have H := H1
      clear H1
      exact absurd (H.trans (congrArg some HRT.out)) (by simp)
    ·replace c17 := Bool.eq_false_iff.mpr c17
     subst c17
     have H1 : (some false) = some r := by rw [if_neg (show ¬ (false = true) by decide)] at H; exact H
     clear H
     have H := H1
     clear H1
     exact absurd (H.trans (congrArg some HRT.out)) (by simp)
   ·replace c14 := Bool.eq_false_iff.mpr c14
    subst c14
    have H1 : (some false) = some r := by rw [if_neg (show ¬ (false = true) by decide)] at H; exact H
    clear H
    have H := H1
    clear H1
    exact absurd (H.trans (congrArg some HRT.out)) (by simp)
/-- THE ONE PURE STATEMENT of laws_FnExactCanLearn. -/
def laws_FnExactCanLearn.Pure : Prop := ∀ (l0 : List (S54)) (l1 : List Int), l0.length ≤ maxLen → l0.length * 32 ≤ 140737488351232 → (∀ x ∈ l0, wfS54 x) → l1.length ≤ maxLen → l1.length * 8 ≤ 140737488351232 → (∀ x ∈ l1, (Lit.int .i64 x).wf = true) → ∃ k, laws_FnExactCanLearn.f k l0 l1 = some true
theorem laws_FnExactCanLearn.walk (P : laws_FnExactCanLearn.Pure) (A0 : Option Addr) (c0 : Nat) (l0 : List (S54)) (A1 : Option Addr) (c1 : Nat) (l1 : List Int) (w : World) (hr0 : Kd.C k54 w A0 l0.length l0) (hc0 : l0.length ≤ c0) (y0 : l0.length ≤ maxLen) (y1 : l0.length * 32 ≤ 140737488351232) (y2 : (∀ x ∈ l0, wfS54 x)) (hr1 : Kd.C (Kd.int .i64) w A1 l1.length l1) (hc1 : l1.length ≤ c1) (y3 : l1.length ≤ maxLen) (y4 : l1.length * 8 ≤ 140737488351232) (y5 : (∀ x ∈ l1, (Lit.int .i64 x).wf = true)) :
  Calls Try.prog 9 #[.slice A0 l0.length c0, .slice A1 l1.length c1] w fun e w' => e = .returned (.bool true) ∧ Below w.heap.size w w' := by
 obtain ⟨k, h⟩ := P l0 l1 y0 y1 y2 y3 y4 y5
 refine (laws_FnExactCanLearn.calls k A0 c0 l0 A1 c1 l1 true w hr0 hc0 hr1 hc1 rfl h).mono ?_
 rintro e w' ⟨rfl, hd⟩
 exact ⟨rfl, hd⟩

end Go.Proofs.Ytjfehhdgfpodhaa.PFL
