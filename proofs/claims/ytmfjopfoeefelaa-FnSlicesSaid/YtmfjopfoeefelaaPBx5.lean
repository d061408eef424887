-- Written by a program of this session (wip/hprint.py, over the kit's print).
import Derived.Test.YtmfjopfoeefelaaPBx0
import Derived.Test.YtmfjopfoeefelaaPBx1
import Derived.Test.YtmfjopfoeefelaaPBx2
import Derived.Test.YtmfjopfoeefelaaPBx3
import Derived.Test.YtmfjopfoeefelaaPBx4
namespace Go.Proofs.Ytmfjopfoeefelaa.PB
open Go.RowKit Go.Proofs.YtmfjopfoeefelaaW.PrintWords Go.Proofs.YtmfjopfoeefelaaW.PrintLast Go.Proofs.YtmfjopfoeefelaaW.PrintMore
attribute [local go_sem] max2_int min2_int max_two min_two max_three min_three max_four min_four   -- for this text's walks alone
set_option linter.unusedVariables false
set_option linter.unusedSimpArgs false

/-! ### laws_FnSlices: function 9 -/
mutual
def laws_FnSlices.j0 : Nat → List Int → Int → Int → Int → List Int → Bool → Option (Bool)
 | 0, _, _, _, _, _, _ => none
 | k + 1, x0, x3, x4, x7, x8, x65 => if x65 = true then (some false) else (laws_FnSlices.l0 k x0 x3 x4 x7 x8 0 0)
def laws_FnSlices.l0 : Nat → List Int → Int → Int → Int → List Int → Int → Int → Option (Bool)
 | 0, _, _, _, _, _, _, _ => none
 | k + 1, x0, x3, x4, x7, x8, x9, x10 => if x10 < x7 then (if x10 < (wrap64 (x7 - 1)) then (if 0 ≤ x10 then (if x10 < (x8.length : Int) then (if x7 = 0 then (none) else (if (wrap64 ((rd x8 x10) - x9)) < (wrap64 (Int.tdiv x3 x7)) then (some false) else (if (wrap64 ((rd x8 x10) - x9)) > (wrap64 (Int.tdiv (wrap64 ((wrap64 (x3 + x7)) - 1)) x7)) then (some false) else (laws_FnSlices.l0 k x0 x3 x4 x7 x8 (rd x8 x10) (wrap64 (x10 + 1)))))) else (none)) else (none)) else (if x7 = 0 then (none) else (if (wrap64 (x3 - x9)) < (wrap64 (Int.tdiv x3 x7)) then (some false) else (if (wrap64 (x3 - x9)) > (wrap64 (Int.tdiv (wrap64 ((wrap64 (x3 + x7)) - 1)) x7)) then (some false) else (laws_FnSlices.l0 k x0 x3 x4 x7 x8 x3 (wrap64 (x10 + 1))))))) else ((impl_ThickestFor.f k x3 x7).bind fun t233 => ((spec_DrawLengths.f k x0).bind fun t234 => ((impl_CutsNeeded.f k t234 x4).bind fun t237 => (laws_FnSlices.l1 k x3 x4 x7 t233 t234 t237 0 0 0))))
def laws_FnSlices.l1 : Nat → Int → Int → Int → Int → List Int → Int → Int → Int → Int → Option (Bool)
 | 0, _, _, _, _, _, _, _, _, _ => none
 | k + 1, x3, x4, x7, x12, x13, x14, x15, x16, x17 => if x17 < (x13.length : Int) then (if 0 ≤ x17 then ((impl_SlicesOf.f (rd x13 x17) x4).bind fun t239 => (if t239 > 0 then ((laws_btoi.f ((wrap64 (t239 * x4)) == (rd x13 x17))).bind fun t241 => (laws_FnSlices.l1 k x3 x4 x7 x12 x13 x14 (wrap64 (x15 + t239)) (wrap64 (x16 + t241)) (wrap64 (x17 + 1)))) else ((laws_btoi.f false).bind fun t242 => (laws_FnSlices.l1 k x3 x4 x7 x12 x13 x14 (wrap64 (x15 + t239)) (wrap64 (x16 + t242)) (wrap64 (x17 + 1)))))) else (none)) else (if x12 ≥ 1 then (if x12 = 0 then (none) else (if (wrap64 (Int.tdiv x3 x12)) ≥ x7 then (if x12 = 100 then (if x14 = (wrap64 (x15 - x16)) then ((impl_CrustParts.f k 3 4 5).bind fun t243 => (if t243 = 54 then ((impl_CrustParts.f k 1 1 9).bind fun t244 => (some (t244 == 9))) else (some false))) else (some false)) else (if (wrap64 (x12 + 1)) = 0 then (none) else (if (wrap64 (Int.tdiv x3 (wrap64 (x12 + 1)))) < x7 then (if x14 = (wrap64 (x15 - x16)) then ((impl_CrustParts.f k 3 4 5).bind fun t245 => (if t245 = 54 then ((impl_CrustParts.f k 1 1 9).bind fun t246 => (some (t246 == 9))) else (some false))) else (some false)) else (some false)))) else (some false))) else (some false))
end
def laws_FnSlices.f (k : Nat) (l0 : List Int) : Option (Bool) := (laws_big.f l0).bind fun t223 => (if t223 = true then (some true) else ((laws_at.f l0 0).bind fun t224 => ((laws_at.f l0 1).bind fun t225 => ((impl_SlicesOf.f (wrap64 (1 + (wrap64 (t224 * 3)))) (wrap64 (1 + (Int.tmod t225 40)))).bind fun t226 => ((impl_LastSlice.f (wrap64 (1 + (wrap64 (t224 * 3)))) (wrap64 (1 + (Int.tmod t225 40)))).bind fun t227 => ((laws_at.f l0 2).bind fun t228 => (if (wrap64 (1 + (wrap64 (t224 * 3)))) = 0 then (none) else ((impl_EvenSlices.f k (wrap64 (1 + (wrap64 (t224 * 3)))) (wrap64 (1 + (Int.tmod t228 (wrap64 (1 + (wrap64 (t224 * 3)))))))).bind fun t229 => (if (wrap64 ((wrap64 (t226 * (wrap64 (1 + (Int.tmod t225 40))))) + t227)) = (wrap64 (1 + (wrap64 (t224 * 3)))) then (if t227 < 0 then (laws_FnSlices.j0 k l0 (wrap64 (1 + (wrap64 (t224 * 3)))) (wrap64 (1 + (Int.tmod t225 40))) (wrap64 (1 + (Int.tmod t228 (wrap64 (1 + (wrap64 (t224 * 3))))))) t229 true) else (if t227 ≥ (wrap64 (1 + (Int.tmod t225 40))) then (laws_FnSlices.j0 k l0 (wrap64 (1 + (wrap64 (t224 * 3)))) (wrap64 (1 + (Int.tmod t225 40))) (wrap64 (1 + (Int.tmod t228 (wrap64 (1 + (wrap64 (t224 * 3))))))) t229 true) else (laws_FnSlices.j0 k l0 (wrap64 (1 + (wrap64 (t224 * 3)))) (wrap64 (1 + (Int.tmod t225 40))) (wrap64 (1 + (Int.tmod t228 (wrap64 (1 + (wrap64 (t224 * 3))))))) t229 ((t229.length : Int) != (wrap64 ((wrap64 (1 + (Int.tmod t228 (wrap64 (1 + (wrap64 (t224 * 3))))))) - 1)))))) else (laws_FnSlices.j0 k l0 (wrap64 (1 + (wrap64 (t224 * 3)))) (wrap64 (1 + (Int.tmod t225 40))) (wrap64 (1 + (Int.tmod t228 (wrap64 (1 + (wrap64 (t224 * 3))))))) t229 true))))))))))
theorem laws_FnSlices.mono_l : ∀ k, (∀ y0 y1 y2 y3 y4 y5, LeO (laws_FnSlices.j0 k y0 y1 y2 y3 y4 y5) (laws_FnSlices.j0 (k + 1) y0 y1 y2 y3 y4 y5)) ∧ (∀ y0 y1 y2 y3 y4 y5 y6, LeO (laws_FnSlices.l0 k y0 y1 y2 y3 y4 y5 y6) (laws_FnSlices.l0 (k + 1) y0 y1 y2 y3 y4 y5 y6)) ∧ (∀ y0 y1 y2 y3 y4 y5 y6 y7 y8, LeO (laws_FnSlices.l1 k y0 y1 y2 y3 y4 y5 y6 y7 y8) (laws_FnSlices.l1 (k + 1) y0 y1 y2 y3 y4 y5 y6 y7 y8))
 | 0 => ⟨fun _ _ _ _ _ _ r h => by simp [laws_FnSlices.j0] at h, fun _ _ _ _ _ _ _ r h => by simp [laws_FnSlices.l0] at h, fun _ _ _ _ _ _ _ _ _ r h => by simp [laws_FnSlices.l1] at h⟩
 | k + 1 => by
  obtain ⟨ih0, ih1, ih2⟩ := laws_FnSlices.mono_l k
  refine ⟨?_, ?_, ?_⟩
  ·intro y0 y1 y2 y3 y4 y5
   unfold laws_FnSlices.j0
   repeat' first
   | (with_reducible exact ih0 _ _ _ _ _ _)
   | (with_reducible exact ih1 _ _ _ _ _ _ _)
   | (with_reducible exact ih2 _ _ _ _ _ _ _ _ _)
   | (with_reducible exact impl_CrustParts.mono _ _ _ _)
   | (with_reducible exact impl_CutsNeeded.mono _ _ _)
   | (with_reducible exact impl_EvenSlices.mono _ _ _)
   | (with_reducible exact impl_ThickestFor.mono _ _ _)
   | (with_reducible exact spec_DrawLengths.mono _ _)
   | (with_reducible exact LeO.refl _)
   | (with_reducible exact LeO.none _)
   | (with_reducible refine LeO.ite ?_ ?_)
   | (with_reducible refine LeO.bind ?_ (fun _ => ?_))
   | exact ih0 _ _ _ _ _ _
   | exact ih1 _ _ _ _ _ _ _
   | exact ih2 _ _ _ _ _ _ _ _ _
   | exact impl_CrustParts.mono _ _ _ _
   | exact impl_CutsNeeded.mono _ _ _
   | exact impl_EvenSlices.mono _ _ _
   | exact impl_ThickestFor.mono _ _ _
   | exact spec_DrawLengths.mono _ _
   | exact LeO.none _
   | refine LeO.ite ?_ ?_
   | refine LeO.bind ?_ (fun _ => ?_)
  ·intro y0 y1 y2 y3 y4 y5 y6
   unfold laws_FnSlices.l0
   repeat' first
   | (with_reducible exact ih0 _ _ _ _ _ _)
   | (with_reducible exact ih1 _ _ _ _ _ _ _)
   | (with_reducible exact ih2 _ _ _ _ _ _ _ _ _)
   | (with_reducible exact impl_CrustParts.mono _ _ _ _)
   | (with_reducible exact impl_CutsNeeded.mono _ _ _)
   | (with_reducible exact impl_EvenSlices.mono _ _ _)
   | (with_reducible exact impl_ThickestFor.mono _ _ _)
   | (with_reducible exact spec_DrawLengths.mono _ _)
   | (with_reducible exact LeO.refl _)
   | (with_reducible exact LeO.none _)
   | (with_reducible refine LeO.ite ?_ ?_)
   | (with_reducible refine LeO.bind ?_ (fun _ => ?_))
   | exact ih0 _ _ _ _ _ _
   | exact ih1 _ _ _ _ _ _ _
   | exact ih2 _ _ _ _ _ _ _ _ _
   | exact impl_CrustParts.mono _ _ _ _
   | exact impl_CutsNeeded.mono _ _ _
   | exact impl_EvenSlices.mono _ _ _
   | exact impl_ThickestFor.mono _ _ _
   | exact spec_DrawLengths.mono _ _
   | exact LeO.none _
   | refine LeO.ite ?_ ?_
   | refine LeO.bind ?_ (fun _ => ?_)
  ·intro y0 y1 y2 y3 y4 y5 y6 y7 y8
   unfold laws_FnSlices.l1
   repeat' first
   | (with_reducible exact ih0 _ _ _ _ _ _)
   | (with_reducible exact ih1 _ _ _ _ _ _ _)
   | (with_reducible exact ih2 _ _ _ _ _ _ _ _ _)
   | (with_reducible exact impl_CrustParts.mono _ _ _ _)
   | (with_reducible exact impl_CutsNeeded.mono _ _ _)
   | (with_reducible exact impl_EvenSlices.mono _ _ _)
   | (with_reducible exact impl_ThickestFor.mono _ _ _)
   | (with_reducible exact spec_DrawLengths.mono _ _)
   | (with_reducible exact LeO.refl _)
   | (with_reducible exact LeO.none _)
   | (with_reducible refine LeO.ite ?_ ?_)
   | (with_reducible refine LeO.bind ?_ (fun _ => ?_))
   | exact ih0 _ _ _ _ _ _
   | exact ih1 _ _ _ _ _ _ _
   | exact ih2 _ _ _ _ _ _ _ _ _
   | exact impl_CrustParts.mono _ _ _ _
   | exact impl_CutsNeeded.mono _ _ _
   | exact impl_EvenSlices.mono _ _ _
   | exact impl_ThickestFor.mono _ _ _
   | exact spec_DrawLengths.mono _ _
   | exact LeO.none _
   | refine LeO.ite ?_ ?_
   | refine LeO.bind ?_ (fun _ => ?_)
theorem laws_FnSlices.mono : ∀ a0 k, LeO (laws_FnSlices.f k a0) (laws_FnSlices.f (k + 1) a0) := by
 intro a0 k
 obtain ⟨ih0, ih1, ih2⟩ := laws_FnSlices.mono_l k
 unfold laws_FnSlices.f
 repeat' first
   | (with_reducible exact ih0 _ _ _ _ _ _)
   | (with_reducible exact ih1 _ _ _ _ _ _ _)
   | (with_reducible exact ih2 _ _ _ _ _ _ _ _ _)
   | (with_reducible exact impl_CrustParts.mono _ _ _ _)
   | (with_reducible exact impl_CutsNeeded.mono _ _ _)
   | (with_reducible exact impl_EvenSlices.mono _ _ _)
   | (with_reducible exact impl_ThickestFor.mono _ _ _)
   | (with_reducible exact spec_DrawLengths.mono _ _)
   | (with_reducible exact LeO.refl _)
   | (with_reducible exact LeO.none _)
   | (with_reducible refine LeO.ite ?_ ?_)
   | (with_reducible refine LeO.bind ?_ (fun _ => ?_))
   | exact ih0 _ _ _ _ _ _
   | exact ih1 _ _ _ _ _ _ _
   | exact ih2 _ _ _ _ _ _ _ _ _
   | exact impl_CrustParts.mono _ _ _ _
   | exact impl_CutsNeeded.mono _ _ _
   | exact impl_EvenSlices.mono _ _ _
   | exact impl_ThickestFor.mono _ _ _
   | exact spec_DrawLengths.mono _ _
   | exact LeO.none _
   | refine LeO.ite ?_ ?_
   | refine LeO.bind ?_ (fun _ => ?_)
theorem laws_FnSlices.j0_no {k : Nat} {x0 : List Int} {x3 : Int} {x4 : Int} {x7 : Int} {x8 : List Int} {r : Bool} (hr : r = true) (h : laws_FnSlices.j0 k x0 x3 x4 x7 x8 true = some r) : False := by
 subst hr
 cases k <;> simp [laws_FnSlices.j0] at h
set_option maxHeartbeats 8000000 in
set_option maxRecDepth 100000 in
theorem laws_FnSlices.calls (k : Nat) (A0 : Option Addr) (c0 : Nat) (l0 : List Int) (r : Bool) (w : World) (hr0 : Kd.C (Kd.int .u8) w A0 l0.length l0) (hc0 : l0.length ≤ c0) (hrt_ : r = true) (h : laws_FnSlices.f k l0 = some r) :
  Calls Try.prog 9 #[.slice A0 l0.length c0] w fun e w' => e = .returned (.bool r) ∧ Below w.heap.size w w' := by
 have HRT := Aside0.mk hrt_
 clear hrt_
 have HR0 := Aside0.mk hr0
 have HC0 := Aside0.mk hc0
 clear hr0 hc0
 have HB := Aside0.mk (Below.refl w.heap.size w)
 have H : ((laws_big.f l0).bind fun t223 => (if t223 = true then (some true) else ((laws_at.f l0 0).bind fun t224 => ((laws_at.f l0 1).bind fun t225 => ((impl_SlicesOf.f (wrap64 (1 + (wrap64 (t224 * 3)))) (wrap64 (1 + (Int.tmod t225 40)))).bind fun t226 => ((impl_LastSlice.f (wrap64 (1 + (wrap64 (t224 * 3)))) (wrap64 (1 + (Int.tmod t225 40)))).bind fun t227 => ((laws_at.f l0 2).bind fun t228 => (if (wrap64 (1 + (wrap64 (t224 * 3)))) = 0 then (none) else ((impl_EvenSlices.f k (wrap64 (1 + (wrap64 (t224 * 3)))) (wrap64 (1 + (Int.tmod t228 (wrap64 (1 + (wrap64 (t224 * 3)))))))).bind fun t229 => (if (wrap64 ((wrap64 (t226 * (wrap64 (1 + (Int.tmod t225 40))))) + t227)) = (wrap64 (1 + (wrap64 (t224 * 3)))) then (if t227 < 0 then (laws_FnSlices.j0 k l0 (wrap64 (1 + (wrap64 (t224 * 3)))) (wrap64 (1 + (Int.tmod t225 40))) (wrap64 (1 + (Int.tmod t228 (wrap64 (1 + (wrap64 (t224 * 3))))))) t229 true) else (if t227 ≥ (wrap64 (1 + (Int.tmod t225 40))) then (laws_FnSlices.j0 k l0 (wrap64 (1 + (wrap64 (t224 * 3)))) (wrap64 (1 + (Int.tmod t225 40))) (wrap64 (1 + (Int.tmod t228 (wrap64 (1 + (wrap64 (t224 * 3))))))) t229 true) else (laws_FnSlices.j0 k l0 (wrap64 (1 + (wrap64 (t224 * 3)))) (wrap64 (1 + (Int.tmod t225 40))) (wrap64 (1 + (Int.tmod t228 (wrap64 (1 + (wrap64 (t224 * 3))))))) t229 ((t229.length : Int) != (wrap64 ((wrap64 (1 + (Int.tmod t228 (wrap64 (1 + (wrap64 (t224 * 3))))))) - 1)))))) else (laws_FnSlices.j0 k l0 (wrap64 (1 + (wrap64 (t224 * 3)))) (wrap64 (1 + (Int.tmod t225 40))) (wrap64 (1 + (Int.tmod t228 (wrap64 (1 + (wrap64 (t224 * 3))))))) t229 true))))))))))) = some r := h
 clear h
 replace H := Option.bind_eq_some_iff.mp H
 obtain ⟨t223, A20, H⟩ := H
 replace H : (if t223 = true then (some true) else ((laws_at.f l0 0).bind fun t224 => ((laws_at.f l0 1).bind fun t225 => ((impl_SlicesOf.f (wrap64 (1 + (wrap64 (t224 * 3)))) (wrap64 (1 + (Int.tmod t225 40)))).bind fun t226 => ((impl_LastSlice.f (wrap64 (1 + (wrap64 (t224 * 3)))) (wrap64 (1 + (Int.tmod t225 40)))).bind fun t227 => ((laws_at.f l0 2).bind fun t228 => (if (wrap64 (1 + (wrap64 (t224 * 3)))) = 0 then (none) else ((impl_EvenSlices.f k (wrap64 (1 + (wrap64 (t224 * 3)))) (wrap64 (1 + (Int.tmod t228 (wrap64 (1 + (wrap64 (t224 * 3)))))))).bind fun t229 => (if (wrap64 ((wrap64 (t226 * (wrap64 (1 + (Int.tmod t225 40))))) + t227)) = (wrap64 (1 + (wrap64 (t224 * 3)))) then (if t227 < 0 then (laws_FnSlices.j0 k l0 (wrap64 (1 + (wrap64 (t224 * 3)))) (wrap64 (1 + (Int.tmod t225 40))) (wrap64 (1 + (Int.tmod t228 (wrap64 (1 + (wrap64 (t224 * 3))))))) t229 true) else (if t227 ≥ (wrap64 (1 + (Int.tmod t225 40))) then (laws_FnSlices.j0 k l0 (wrap64 (1 + (wrap64 (t224 * 3)))) (wrap64 (1 + (Int.tmod t225 40))) (wrap64 (1 + (Int.tmod t228 (wrap64 (1 + (wrap64 (t224 * 3))))))) t229 true) else (laws_FnSlices.j0 k l0 (wrap64 (1 + (wrap64 (t224 * 3)))) (wrap64 (1 + (Int.tmod t225 40))) (wrap64 (1 + (Int.tmod t228 (wrap64 (1 + (wrap64 (t224 * 3))))))) t229 ((t229.length : Int) != (wrap64 ((wrap64 (1 + (Int.tmod t228 (wrap64 (1 + (wrap64 (t224 * 3))))))) - 1)))))) else (laws_FnSlices.j0 k l0 (wrap64 (1 + (wrap64 (t224 * 3)))) (wrap64 (1 + (Int.tmod t225 40))) (wrap64 (1 + (Int.tmod t228 (wrap64 (1 + (wrap64 (t224 * 3))))))) t229 true)))))))))) = some r := H
 have A2 := Aside0.mk A20
 clear A20
 by_cases c3 : t223 = true
 ·subst c3
  have H1 : (some true) = some r := by rw [if_pos rfl] at H; exact H
  clear H
  have H := H1
  clear H1
  obtain rfl := Option.some.inj H
  go_enter Try.func9, Try.ntmps9
  go_wp2_with (first | ((with_reducible refine gate_callee (f := 26) rfl ?_); refine goesL_ (some 20) rfl rfl Try.func26 (by kernel_rfl) rfl #[.slice A0 l0.length c0] rfl (by (try simp only [List.map_toArray, List.map_cons, List.map_nil]); first | done | rfl | (simp only [List.length_drop, List.length_take]; rfl)) ?_; (with_reducible refine (laws_big.calls _ _ l0 true _ ?side1 ?side2 A2.out).mono ?_); (case side1 => repeat (first | exact HR0.out | (with_reducible refine Kd.C_alloc ?_ _) | (with_reducible refine Kd.C_drewN ?_ _) | (with_reducible refine Kd.C_drew ?_))); (case side2 => exact HC0.out); rintro e w' ⟨rfl, ⟨nd, rfl⟩⟩; refine ⟨_, rfl, ?_⟩))
  go_ret
  exact ⟨by first | rfl | (simp [errW_none, errW_some] <;> rfl) | (simp [*, errW_none, errW_some] <;> rfl), by repeat (first | (with_reducible first | exact HB.out | apply below_alloc | apply pw_below_drewN | apply below_drew1) | exact HB.out)⟩
 ·replace c3 := Bool.eq_false_iff.mpr c3
  subst c3
  have H1 : ((laws_at.f l0 0).bind fun t224 => ((laws_at.f l0 1).bind fun t225 => ((impl_SlicesOf.f (wrap64 (1 + (wrap64 (t224 * 3)))) (wrap64 (1 + (Int.tmod t225 40)))).bind fun t226 => ((impl_LastSlice.f (wrap64 (1 + (wrap64 (t224 * 3)))) (wrap64 (1 + (Int.tmod t225 40)))).bind fun t227 => ((laws_at.f l0 2).bind fun t228 => (if (wrap64 (1 + (wrap64 (t224 * 3)))) = 0 then (none) else ((impl_EvenSlices.f k (wrap64 (1 + (wrap64 (t224 * 3)))) (wrap64 (1 + (Int.tmod t228 (wrap64 (1 + (wrap64 (t224 * 3)))))))).bind fun t229 => (if (wrap64 ((wrap64 (t226 * (wrap64 (1 + (Int.tmod t225 40))))) + t227)) = (wrap64 (1 + (wrap64 (t224 * 3)))) then (if t227 < 0 then (laws_FnSlices.j0 k l0 (wrap64 (1 + (wrap64 (t224 * 3)))) (wrap64 (1 + (Int.tmod t225 40))) (wrap64 (1 + (Int.tmod t228 (wrap64 (1 + (wrap64 (t224 * 3))))))) t229 true) else (if t227 ≥ (wrap64 (1 + (Int.tmod t225 40))) then (laws_FnSlices.j0 k l0 (wrap64 (1 + (wrap64 (t224 * 3)))) (wrap64 (1 + (Int.tmod t225 40))) (wrap64 (1 + (Int.tmod t228 (wrap64 (1 + (wrap64 (t224 * 3))))))) t229 true) else (laws_FnSlices.j0 k l0 (wrap64 (1 + (wrap64 (t224 * 3)))) (wrap64 (1 + (Int.tmod t225 40))) (wrap64 (1 + (Int.tmod t228 (wrap64 (1 + (wrap64 (t224 * 3))))))) t229 ((t229.length : Int) != (wrap64 ((wrap64 (1 + (Int.tmod t228 (wrap64 (1 + (wrap64 (t224 * 3))))))) - 1)))))) else (laws_FnSlices.j0 k l0 (wrap64 (1 + (wrap64 (t224 * 3)))) (wrap64 (1 + (Int.tmod t225 40))) (wrap64 (1 + (Int.tmod t228 (wrap64 (1 + (wrap64 (t224 * 3))))))) t229 true))))))))) = some r := by rw [if_neg (show ¬ (false = true) by decide)] at H; exact H
  clear H
  have H := H1
  clear H1
  replace H := Option.bind_eq_some_iff.mp H
  obtain ⟨t224, A40, H⟩ := H
  replace H : ((laws_at.f l0 1).bind fun t225 => ((impl_SlicesOf.f (wrap64 (1 + (wrap64 (t224 * 3)))) (wrap64 (1 + (Int.tmod t225 40)))).bind fun t226 => ((impl_LastSlice.f (wrap64 (1 + (wrap64 (t224 * 3)))) (wrap64 (1 + (Int.tmod t225 40)))).bind fun t227 => ((laws_at.f l0 2).bind fun t228 => (if (wrap64 (1 + (wrap64 (t224 * 3)))) = 0 then (none) else ((impl_EvenSlices.f k (wrap64 (1 + (wrap64 (t224 * 3)))) (wrap64 (1 + (Int.tmod t228 (wrap64 (1 + (wrap64 (t224 * 3)))))))).bind fun t229 => (if (wrap64 ((wrap64 (t226 * (wrap64 (1 + (Int.tmod t225 40))))) + t227)) = (wrap64 (1 + (wrap64 (t224 * 3)))) then (if t227 < 0 then (laws_FnSlices.j0 k l0 (wrap64 (1 + (wrap64 (t224 * 3)))) (wrap64 (1 + (Int.tmod t225 40))) (wrap64 (1 + (Int.tmod t228 (wrap64 (1 + (wrap64 (t224 * 3))))))) t229 true) else (if t227 ≥ (wrap64 (1 + (Int.tmod t225 40))) then (laws_FnSlices.j0 k l0 (wrap64 (1 + (wrap64 (t224 * 3)))) (wrap64 (1 + (Int.tmod t225 40))) (wrap64 (1 + (Int.tmod t228 (wrap64 (1 + (wrap64 (t224 * 3))))))) t229 true) else (laws_FnSlices.j0 k l0 (wrap64 (1 + (wrap64 (t224 * 3)))) (wrap64 (1 + (Int.tmod t225 40))) (wrap64 (1 + (Int.tmod t228 (wrap64 (1 + (wrap64 (t224 * 3))))))) t229 ((t229.length : Int) != (wrap64 ((wrap64 (1 + (Int.tmod t228 (wrap64 (1 + (wrap64 (t224 * 3))))))) - 1)))))) else (laws_FnSlices.j0 k l0 (wrap64 (1 + (wrap64 (t224 * 3)))) (wrap64 (1 + (Int.tmod t225 40))) (wrap64 (1 + (Int.tmod t228 (wrap64 (1 + (wrap64 (t224 * 3))))))) t229 true)))))))) = some r := H
  have A4 := Aside0.mk A40
  clear A40
  replace H := Option.bind_eq_some_iff.mp H
  obtain ⟨t225, A50, H⟩ := H
  replace H : ((impl_SlicesOf.f (wrap64 (1 + (wrap64 (t224 * 3)))) (wrap64 (1 + (Int.tmod t225 40)))).bind fun t226 => ((impl_LastSlice.f (wrap64 (1 + (wrap64 (t224 * 3)))) (wrap64 (1 + (Int.tmod t225 40)))).bind fun t227 => ((laws_at.f l0 2).bind fun t228 => (if (wrap64 (1 + (wrap64 (t224 * 3)))) = 0 then (none) else ((impl_EvenSlices.f k (wrap64 (1 + (wrap64 (t224 * 3)))) (wrap64 (1 + (Int.tmod t228 (wrap64 (1 + (wrap64 (t224 * 3)))))))).bind fun t229 => (if (wrap64 ((wrap64 (t226 * (wrap64 (1 + (Int.tmod t225 40))))) + t227)) = (wrap64 (1 + (wrap64 (t224 * 3)))) then (if t227 < 0 then (laws_FnSlices.j0 k l0 (wrap64 (1 + (wrap64 (t224 * 3)))) (wrap64 (1 + (Int.tmod t225 40))) (wrap64 (1 + (Int.tmod t228 (wrap64 (1 + (wrap64 (t224 * 3))))))) t229 true) else (if t227 ≥ (wrap64 (1 + (Int.tmod t225 40))) then (laws_FnSlices.j0 k l0 (wrap64 (1 + (wrap64 (t224 * 3)))) (wrap64 (1 + (Int.tmod t225 40))) (wrap64 (1 + (Int.tmod t228 (wrap64 (1 + (wrap64 (t224 * 3))))))) t229 true) else (laws_FnSlices.j0 k l0 (wrap64 (1 + (wrap64 (t224 * 3)))) (wrap64 (1 + (Int.tmod t225 40))) (wrap64 (1 + (Int.tmod t228 (wrap64 (1 + (wrap64 (t224 * 3))))))) t229 ((t229.length : Int) != (wrap64 ((wrap64 (1 + (Int.tmod t228 (wrap64 (1 + (wrap64 (t224 * 3))))))) - 1)))))) else (laws_FnSlices.j0 k l0 (wrap64 (1 + (wrap64 (t224 * 3)))) (wrap64 (1 + (Int.tmod t225 40))) (wrap64 (1 + (Int.tmod t228 (wrap64 (1 + (wrap64 (t224 * 3))))))) t229 true))))))) = some r := H
  have A5 := Aside0.mk A50
  clear A50
  replace H := Option.bind_eq_some_iff.mp H
  obtain ⟨t226, A60, H⟩ := H
  replace H : ((impl_LastSlice.f (wrap64 (1 + (wrap64 (t224 * 3)))) (wrap64 (1 + (Int.tmod t225 40)))).bind fun t227 => ((laws_at.f l0 2).bind fun t228 => (if (wrap64 (1 + (wrap64 (t224 * 3)))) = 0 then (none) else ((impl_EvenSlices.f k (wrap64 (1 + (wrap64 (t224 * 3)))) (wrap64 (1 + (Int.tmod t228 (wrap64 (1 + (wrap64 (t224 * 3)))))))).bind fun t229 => (if (wrap64 ((wrap64 (t226 * (wrap64 (1 + (Int.tmod t225 40))))) + t227)) = (wrap64 (1 + (wrap64 (t224 * 3)))) then (if t227 < 0 then (laws_FnSlices.j0 k l0 (wrap64 (1 + (wrap64 (t224 * 3)))) (wrap64 (1 + (Int.tmod t225 40))) (wrap64 (1 + (Int.tmod t228 (wrap64 (1 + (wrap64 (t224 * 3))))))) t229 true) else (if t227 ≥ (wrap64 (1 + (Int.tmod t225 40))) then (laws_FnSlices.j0 k l0 (wrap64 (1 + (wrap64 (t224 * 3)))) (wrap64 (1 + (Int.tmod t225 40))) (wrap64 (1 + (Int.tmod t228 (wrap64 (1 + (wrap64 (t224 * 3))))))) t229 true) else (laws_FnSlices.j0 k l0 (wrap64 (1 + (wrap64 (t224 * 3)))) (wrap64 (1 + (Int.tmod t225 40))) (wrap64 (1 + (Int.tmod t228 (wrap64 (1 + (wrap64 (t224 * 3))))))) t229 ((t229.length : Int) != (wrap64 ((wrap64 (1 + (Int.tmod t228 (wrap64 (1 + (wrap64 (t224 * 3))))))) - 1)))))) else (laws_FnSlices.j0 k l0 (wrap64 (1 + (wrap64 (t224 * 3)))) (wrap64 (1 + (Int.tmod t225 40))) (wrap64 (1 + (Int.tmod t228 (wrap64 (1 + (wrap64 (t224 * 3))))))) t229 true)))))) = some r := H
  have A6 := Aside0.mk A60
  clear A60
  replace H := Option.bind_eq_some_iff.mp H
  obtain ⟨t227, A70, H⟩ := H
  replace H : ((laws_at.f l0 2).bind fun t228 => (if (wrap64 (1 + (wrap64 (t224 * 3)))) = 0 then (none) else ((impl_EvenSlices.f k (wrap64 (1 + (wrap64 (t224 * 3)))) (wrap64 (1 + (Int.tmod t228 (wrap64 (1 + (wrap64 (t224 * 3)))))))).bind fun t229 => (if (wrap64 ((wrap64 (t226 * (wrap64 (1 + (Int.tmod t225 40))))) + t227)) = (wrap64 (1 + (wrap64 (t224 * 3)))) then (if t227 < 0 then (laws_FnSlices.j0 k l0 (wrap64 (1 + (wrap64 (t224 * 3)))) (wrap64 (1 + (Int.tmod t225 40))) (wrap64 (1 + (Int.tmod t228 (wrap64 (1 + (wrap64 (t224 * 3))))))) t229 true) else (if t227 ≥ (wrap64 (1 + (Int.tmod t225 40))) then (laws_FnSlices.j0 k l0 (wrap64 (1 + (wrap64 (t224 * 3)))) (wrap64 (1 + (Int.tmod t225 40))) (wrap64 (1 + (Int.tmod t228 (wrap64 (1 + (wrap64 (t224 * 3))))))) t229 true) else (laws_FnSlices.j0 k l0 (wrap64 (1 + (wrap64 (t224 * 3)))) (wrap64 (1 + (Int.tmod t225 40))) (wrap64 (1 + (Int.tmod t228 (wrap64 (1 + (wrap64 (t224 * 3))))))) t229 ((t229.length : Int) != (wrap64 ((wrap64 (1 + (Int.tmod t228 (wrap64 (1 + (wrap64 (t224 * 3))))))) - 1)))))) else (laws_FnSlices.j0 k l0 (wrap64 (1 + (wrap64 (t224 * 3)))) (wrap64 (1 + (Int.tmod t225 40))) (wrap64 (1 + (Int.tmod t228 (wrap64 (1 + (wrap64 (t224 * 3))))))) t229 true))))) = some r := H
  have A7 := Aside0.mk A70
  clear A70
  replace H := Option.bind_eq_some_iff.mp H
  obtain ⟨t228, A80, H⟩ := H
  replace H : (if (wrap64 (1 + (wrap64 (t224 * 3)))) = 0 then (none) else ((impl_EvenSlices.f k (wrap64 (1 + (wrap64 (t224 * 3)))) (wrap64 (1 + (Int.tmod t228 (wrap64 (1 + (wrap64 (t224 * 3)))))))).bind fun t229 => (if (wrap64 ((wrap64 (t226 * (wrap64 (1 + (Int.tmod t225 40))))) + t227)) = (wrap64 (1 + (wrap64 (t224 * 3)))) then (if t227 < 0 then (laws_FnSlices.j0 k l0 (wrap64 (1 + (wrap64 (t224 * 3)))) (wrap64 (1 + (Int.tmod t225 40))) (wrap64 (1 + (Int.tmod t228 (wrap64 (1 + (wrap64 (t224 * 3))))))) t229 true) else (if t227 ≥ (wrap64 (1 + (Int.tmod t225 40))) then (laws_FnSlices.j0 k l0 (wrap64 (1 + (wrap64 (t224 * 3)))) (wrap64 (1 + (Int.tmod t225 40))) (wrap64 (1 + (Int.tmod t228 (wrap64 (1 + (wrap64 (t224 * 3))))))) t229 true) else (laws_FnSlices.j0 k l0 (wrap64 (1 + (wrap64 (t224 * 3)))) (wrap64 (1 + (Int.tmod t225 40))) (wrap64 (1 + (Int.tmod t228 (wrap64 (1 + (wrap64 (t224 * 3))))))) t229 ((t229.length : Int) != (wrap64 ((wrap64 (1 + (Int.tmod t228 (wrap64 (1 + (wrap64 (t224 * 3))))))) - 1)))))) else (laws_FnSlices.j0 k l0 (wrap64 (1 + (wrap64 (t224 * 3)))) (wrap64 (1 + (Int.tmod t225 40))) (wrap64 (1 + (Int.tmod t228 (wrap64 (1 + (wrap64 (t224 * 3))))))) t229 true)))) = some r := H
  have A8 := Aside0.mk A80
  clear A80
  by_cases c9 : (wrap64 (1 + (wrap64 (t224 * 3)))) = 0
  ·rw [if_pos c9] at H
   exact absurd H (by simp)
  ·rw [if_neg c9] at H
   have c9b0 : ((wrap64 (1 + (wrap64 (t224 * 3)))) == 0) = false := beq_eq_false_iff_ne.mpr c9
   have c9b1 : ((wrap64 (1 + (wrap64 (t224 * 3)))) != 0) = true := bne_iff_ne.mpr c9
   replace H := Option.bind_eq_some_iff.mp H
   obtain ⟨t229, A100, H⟩ := H
   replace H : (if (wrap64 ((wrap64 (t226 * (wrap64 (1 + (Int.tmod t225 40))))) + t227)) = (wrap64 (1 + (wrap64 (t224 * 3)))) then (if t227 < 0 then (laws_FnSlices.j0 k l0 (wrap64 (1 + (wrap64 (t224 * 3)))) (wrap64 (1 + (Int.tmod t225 40))) (wrap64 (1 + (Int.tmod t228 (wrap64 (1 + (wrap64 (t224 * 3))))))) t229 true) else (if t227 ≥ (wrap64 (1 + (Int.tmod t225 40))) then (laws_FnSlices.j0 k l0 (wrap64 (1 + (wrap64 (t224 * 3)))) (wrap64 (1 + (Int.tmod t225 40))) (wrap64 (1 + (Int.tmod t228 (wrap64 (1 + (wrap64 (t224 * 3))))))) t229 true) else (laws_FnSlices.j0 k l0 (wrap64 (1 + (wrap64 (t224 * 3)))) (wrap64 (1 + (Int.tmod t225 40))) (wrap64 (1 + (Int.tmod t228 (wrap64 (1 + (wrap64 (t224 * 3))))))) t229 ((t229.length : Int) != (wrap64 ((wrap64 (1 + (Int.tmod t228 (wrap64 (1 + (wrap64 (t224 * 3))))))) - 1)))))) else (laws_FnSlices.j0 k l0 (wrap64 (1 + (wrap64 (t224 * 3)))) (wrap64 (1 + (Int.tmod t225 40))) (wrap64 (1 + (Int.tmod t228 (wrap64 (1 + (wrap64 (t224 * 3))))))) t229 true)) = some r := H
   have A10 := Aside0.mk A100
   clear A100
   have HC11 := Aside0.mk H
   clear H
   go_enter Try.func9, Try.ntmps9
   go_upto_region 9 with (first | ((with_reducible refine gate_callee (f := 26) rfl ?_); refine goesL_ (some 20) rfl rfl Try.func26 (by kernel_rfl) rfl #[.slice A0 l0.length c0] rfl (by (try simp only [List.map_toArray, List.map_cons, List.map_nil]); first | done | rfl | (simp only [List.length_drop, List.length_take]; rfl)) ?_; (with_reducible refine (laws_big.calls _ _ l0 false _ ?side1 ?side2 A2.out).mono ?_); (case side1 => repeat (first | exact HR0.out | (with_reducible refine Kd.C_alloc ?_ _) | (with_reducible refine Kd.C_drewN ?_ _) | (with_reducible refine Kd.C_drew ?_))); (case side2 => exact HC0.out); rintro e w' ⟨rfl, ⟨nd, rfl⟩⟩; refine ⟨_, rfl, ?_⟩) | ((with_reducible refine gate_callee (f := 27) rfl ?_); refine goesL_ (some 22) rfl rfl Try.func27 (by kernel_rfl) rfl #[.slice A0 l0.length c0, .int .i64 0] rfl (by (try simp only [List.map_toArray, List.map_cons, List.map_nil]); first | done | rfl | (simp only [List.length_drop, List.length_take]; rfl)) ?_; (with_reducible refine (laws_at.calls _ _ l0 0 t224 _ ?side1 ?side2 A4.out).mono ?_); (case side1 => repeat (first | exact HR0.out | (with_reducible refine Kd.C_alloc ?_ _) | (with_reducible refine Kd.C_drewN ?_ _) | (with_reducible refine Kd.C_drew ?_))); (case side2 => exact HC0.out); rintro e w' ⟨rfl, ⟨nd, rfl⟩⟩; refine ⟨_, rfl, ?_⟩) | ((with_reducible refine gate_callee (f := 27) rfl ?_); refine goesL_ (some 26) rfl rfl Try.func27 (by kernel_rfl) rfl #[.slice A0 l0.length c0, .int .i64 1] rfl (by (try simp only [List.map_toArray, List.map_cons, List.map_nil]); first | done | rfl | (simp only [List.length_drop, List.length_take]; rfl)) ?_; (with_reducible refine (laws_at.calls _ _ l0 1 t225 _ ?side1 ?side2 A5.out).mono ?_); (case side1 => repeat (first | exact HR0.out | (with_reducible refine Kd.C_alloc ?_ _) | (with_reducible refine Kd.C_drewN ?_ _) | (with_reducible refine Kd.C_drew ?_))); (case side2 => exact HC0.out); rintro e w' ⟨rfl, ⟨nd, rfl⟩⟩; refine ⟨_, rfl, ?_⟩) | ((with_reducible refine gate_callee (f := 11) rfl ?_); refine goesL_ (some 31) rfl rfl Try.func11 (by kernel_rfl) rfl #[.int .i64 (wrap64 (1 + (wrap64 (t224 * 3)))), .int .i64 (wrap64 (1 + (Int.tmod t225 40)))] rfl (by (try simp only [List.map_toArray, List.map_cons, List.map_nil]); first | done | rfl | (simp only [List.length_drop, List.length_take]; rfl)) ?_; (with_reducible refine (impl_SlicesOf.calls (wrap64 (1 + (wrap64 (t224 * 3)))) (wrap64 (1 + (Int.tmod t225 40))) t226 _ A6.out).mono ?_); rintro e w' ⟨rfl, ⟨nd, rfl⟩⟩; refine ⟨_, rfl, ?_⟩) | ((with_reducible refine gate_callee (f := 13) rfl ?_); refine goesL_ (some 34) rfl rfl Try.func13 (by kernel_rfl) rfl #[.int .i64 (wrap64 (1 + (wrap64 (t224 * 3)))), .int .i64 (wrap64 (1 + (Int.tmod t225 40)))] rfl (by (try simp only [List.map_toArray, List.map_cons, List.map_nil]); first | done | rfl | (simp only [List.length_drop, List.length_take]; rfl)) ?_; (with_reducible refine (impl_LastSlice.calls (wrap64 (1 + (wrap64 (t224 * 3)))) (wrap64 (1 + (Int.tmod t225 40))) t227 _ A7.out).mono ?_); rintro e w' ⟨rfl, ⟨nd, rfl⟩⟩; refine ⟨_, rfl, ?_⟩) | ((with_reducible refine gate_callee (f := 27) rfl ?_); refine goesL_ (some 36) rfl rfl Try.func27 (by kernel_rfl) rfl #[.slice A0 l0.length c0, .int .i64 2] rfl (by (try simp only [List.map_toArray, List.map_cons, List.map_nil]); first | done | rfl | (simp only [List.length_drop, List.length_take]; rfl)) ?_; (with_reducible refine (laws_at.calls _ _ l0 2 t228 _ ?side1 ?side2 A8.out).mono ?_); (case side1 => repeat (first | exact HR0.out | (with_reducible refine Kd.C_alloc ?_ _) | (with_reducible refine Kd.C_drewN ?_ _) | (with_reducible refine Kd.C_drew ?_))); (case side2 => exact HC0.out); rintro e w' ⟨rfl, ⟨nd, rfl⟩⟩; refine ⟨_, rfl, ?_⟩) | ((with_reducible refine gate_callee (f := 19) rfl ?_); refine goesL_ (some 42) rfl rfl Try.func19 (by kernel_rfl) rfl #[.int .i64 (wrap64 (1 + (wrap64 (t224 * 3)))), .int .i64 (wrap64 (1 + (Int.tmod t228 (wrap64 (1 + (wrap64 (t224 * 3)))))))] rfl (by (try simp only [List.map_toArray, List.map_cons, List.map_nil]); first | done | rfl | (simp only [List.length_drop, List.length_take]; rfl)) ?_; (with_reducible refine (impl_EvenSlices.calls k (wrap64 (1 + (wrap64 (t224 * 3)))) (wrap64 (1 + (Int.tmod t228 (wrap64 (1 + (wrap64 (t224 * 3))))))) t229 _ A10.out).mono ?_); rintro e w12 ⟨v230, rfl, ho0, hb⟩; refine ⟨_, rfl, ?_⟩; have n0_ := Aside0.mk (Kd.R_lower ho0 (below_size (by repeat (first | (with_reducible first | exact HB.out | apply below_alloc | apply pw_below_drewN | apply below_drew1) | exact HB.out)))); have n1_ := Aside0.mk (below_step (by repeat (first | (with_reducible first | exact HB.out | apply below_alloc | apply pw_below_drewN | apply below_drew1) | exact HB.out)) hb); clear HB; have HO231 := n0_; have HB := n1_; clear n0_ n1_; (try clear hb); (try clear hb2); (try clear hk); (try clear hi); (try clear ho0)))
   (try simp only [Act.put, List.setIfInBounds_toArray, List.set_cons_zero, List.set_cons_succ])
   go_cut [65] (fun v65 wc => ∃ (kq : Nat) (x65_10 : Bool), v65 = .bool x65_10 ∧ Aside0 (laws_FnSlices.j0 kq l0 (wrap64 (1 + (wrap64 (t224 * 3)))) (wrap64 (1 + (Int.tmod t225 40))) (wrap64 (1 + (Int.tmod t228 (wrap64 (1 + (wrap64 (t224 * 3))))))) t229 x65_10 = some r) ∧ Aside0 (kq ≤ k) ∧ Aside0 (Kd.R (Kd.int .i64) 3 wc w.heap.size (fun _ => True) v230 t229) ∧ Aside0 (Below w.heap.size w wc))
   case first =>
    have H := HC11.out
    clear HC11
    by_cases c13 : (wrap64 ((wrap64 (t226 * (wrap64 (1 + (Int.tmod t225 40))))) + t227)) = (wrap64 (1 + (wrap64 (t224 * 3))))
    ·rw [if_pos c13] at H
     have c13b0 : ((wrap64 ((wrap64 (t226 * (wrap64 (1 + (Int.tmod t225 40))))) + t227)) == (wrap64 (1 + (wrap64 (t224 * 3))))) = true := beq_iff_eq.mpr c13
     have c13b1 : ((wrap64 ((wrap64 (t226 * (wrap64 (1 + (Int.tmod t225 40))))) + t227)) != (wrap64 (1 + (wrap64 (t224 * 3))))) = false := bne_eq_false_iff_eq.mpr c13
     clear c13
     (first | rw [c13b0] | (simp only [i64_w, i32_w]; rw [c13b0]) | skip)
     by_cases c14 : t227 < 0
     ·rw [if_pos c14] at H
      have c14b0 : decide (t227 < 0) = true := decide_eq_true c14
      clear c14
      exact (laws_FnSlices.j0_no HRT.out H).elim
     ·rw [if_neg c14] at H
      have c14b0 : decide (t227 < 0) = false := decide_eq_false c14
      clear c14
      by_cases c15 : t227 ≥ (wrap64 (1 + (Int.tmod t225 40)))
      ·rw [if_pos c15] at H
       have c15b0 : decide ((wrap64 (1 + (Int.tmod t225 40))) ≤ t227) = true := decide_eq_true c15
       clear c15
       exact (laws_FnSlices.j0_no HRT.out H).elim
      ·rw [if_neg c15] at H
       have c15b0 : decide ((wrap64 (1 + (Int.tmod t225 40))) ≤ t227) = false := decide_eq_false c15
       clear c15
       have H' := Aside0.mk H
       clear H
       obtain ⟨Ao16, co16, eo16⟩ := Kd.R_slice HO231.out
       subst eo16
       go_wp2
       go_meet
       case rel => exact ⟨_, (((t229.length : Int) != (wrap64 ((wrap64 (1 + (Int.tmod t228 (wrap64 (1 + (wrap64 (t224 * 3))))))) - 1)))), (by first | rfl | (simp; done) | (simp [*]; done)), H', ⟨by first | omega | exact Nat.le_refl _⟩, ⟨by (with_reducible repeat (first | apply Kd.R_alloc | apply Kd.R_drewN | apply Kd.R_drew)); exact HO231.out⟩, ⟨by repeat (first | (with_reducible first | exact HB.out | apply below_alloc | apply pw_below_drewN | apply below_drew1) | exact HB.out)⟩⟩
    ·rw [if_neg c13] at H
     have c13b0 : ((wrap64 ((wrap64 (t226 * (wrap64 (1 + (Int.tmod t225 40))))) + t227)) == (wrap64 (1 + (wrap64 (t224 * 3))))) = false := beq_eq_false_iff_ne.mpr c13
     have c13b1 : ((wrap64 ((wrap64 (t226 * (wrap64 (1 + (Int.tmod t225 40))))) + t227)) != (wrap64 (1 + (wrap64 (t224 * 3))))) = true := bne_iff_ne.mpr c13
     (first | rw [c13b0] | (simp only [i64_w, i32_w]; rw [c13b0]) | skip)
     exact (laws_FnSlices.j0_no HRT.out H).elim
   case rest =>
    clear HC11
    try clear c1
    try clear c2
    try clear p2
    try clear c3
    try clear p6
    try clear c9
    try clear c9b0
    try clear c9b1
    try clear c11
    try clear c13
    try clear c13b0
    try clear c13b1
    try clear c14
    try clear c14b0
    try clear c15
    try clear c15b0
    obtain ⟨kq, x65_10, rfl, HA, HJ10, HO_8, HB⟩ := hcut
    cases kq with
    | zero => exact absurd HA.out (by simp [laws_FnSlices.j0])
    | succ kj10 =>
     have H := HA.out
     clear HA
     simp only [laws_FnSlices.j0] at H
     by_cases c17 : x65_10 = true
     ·subst c17
      have H1 : (some false) = some r := by rw [if_pos rfl] at H; exact H
      clear H
      have H := H1
      clear H1
      exact absurd (H.trans (congrArg some HRT.out)) (by simp)
     ·replace c17 := Bool.eq_false_iff.mpr c17
      subst c17
      have H1 : (laws_FnSlices.l0 kj10 l0 (wrap64 (1 + (wrap64 (t224 * 3)))) (wrap64 (1 + (Int.tmod t225 40))) (wrap64 (1 + (Int.tmod t228 (wrap64 (1 + (wrap64 (t224 * 3))))))) t229 0 0) = some r := by rw [if_neg (show ¬ (false = true) by decide)] at H; exact H
      clear H
      have H := H1
      clear H1
      have H' := Aside0.mk H
      clear H
      go_wp2
      go_loopg [9, 10] kj10 (fun kq v9 v10 w' => ∃ (x9_2 : Int) (x10_2 : Int), v9 = .int .i64 x9_2 ∧ v10 = .int .i64 x10_2 ∧ Aside0 (laws_FnSlices.l0 kq l0 (wrap64 (1 + (wrap64 (t224 * 3)))) (wrap64 (1 + (Int.tmod t225 40))) (wrap64 (1 + (Int.tmod t228 (wrap64 (1 + (wrap64 (t224 * 3))))))) t229 x9_2 x10_2 = some r) ∧ Aside0 (kq ≤ kj10) ∧ Aside0 (Kd.R (Kd.int .i64) 3 w' w.heap.size (fun _ => True) v230 t229) ∧ Aside0 (Below w.heap.size w w'))
      case atStart => exact ⟨(0), (0), (by first | rfl | (simp; done) | (simp [*]; done)), (by first | rfl | (simp; done) | (simp [*]; done)), H', ⟨Nat.le_refl _⟩, ⟨by (with_reducible repeat (first | apply Kd.R_alloc | apply Kd.R_drewN | apply Kd.R_drew)); exact HO_8.out⟩, ⟨by repeat (first | (with_reducible first | exact HB.out | apply below_alloc | apply pw_below_drewN | apply below_drew1) | exact HB.out)⟩⟩
      case round =>
       clear H'
       try clear c1
       try clear c2
       try clear p2
       try clear c3
       try clear p6
       try clear c9
       try clear c9b0
       try clear c9b1
       try clear c11
       try clear c13
       try clear c13b0
       try clear c13b1
       try clear c14
       try clear c14b0
       try clear c15
       try clear c15b0
       try clear c17
       try clear p2
       try clear p6
       obtain ⟨x9_2, x10_2, rfl, rfl, HA, HK2, HO_8, HB⟩ := hrel
       cases gk with
       | zero => exact absurd HA.out (by simp [laws_FnSlices.l0])
       | succ k2 =>
        have H := HA.out
        clear HA
        simp only [laws_FnSlices.l0] at H
        by_cases c18 : x10_2 < (wrap64 (1 + (Int.tmod t228 (wrap64 (1 + (wrap64 (t224 * 3)))))))
        ·rw [if_pos c18] at H
         have c18b0 : decide (x10_2 < (wrap64 (1 + (Int.tmod t228 (wrap64 (1 + (wrap64 (t224 * 3)))))))) = true := decide_eq_true c18
         clear c18
         by_cases c19 : x10_2 < (wrap64 ((wrap64 (1 + (Int.tmod t228 (wrap64 (1 + (wrap64 (t224 * 3))))))) - 1))
         ·rw [if_pos c19] at H
          have c19b0 : decide (x10_2 < (wrap64 ((wrap64 (1 + (Int.tmod t228 (wrap64 (1 + (wrap64 (t224 * 3))))))) - 1))) = true := decide_eq_true c19
          clear c19
          by_cases c20 : 0 ≤ x10_2
          ·rw [if_pos c20] at H
           have c20b0 : decide (0 ≤ x10_2) = true := decide_eq_true c20
           clear c20
           by_cases c21 : x10_2 < (t229.length : Int)
           ·rw [if_pos c21] at H
            have c21b0 : decide (x10_2 < (t229.length : Int)) = true := decide_eq_true c21
            clear c21
            by_cases c22 : (wrap64 (1 + (Int.tmod t228 (wrap64 (1 + (wrap64 (t224 * 3))))))) = 0
            ·rw [if_pos c22] at H
             exact absurd H (by simp)
            ·rw [if_neg c22] at H
             have c22b0 : ((wrap64 (1 + (Int.tmod t228 (wrap64 (1 + (wrap64 (t224 * 3))))))) == 0) = false := beq_eq_false_iff_ne.mpr c22
             have c22b1 : ((wrap64 (1 + (Int.tmod t228 (wrap64 (1 + (wrap64 (t224 * 3))))))) != 0) = true := bne_iff_ne.mpr c22
             by_cases c23 : (wrap64 ((rd t229 x10_2) - x9_2)) < (wrap64 (Int.tdiv (wrap64 (1 + (wrap64 (t224 * 3)))) (wrap64 (1 + (Int.tmod t228 (wrap64 (1 + (wrap64 (t224 * 3)))))))))
             ·rw [if_pos c23] at H
              have c23b0 : decide ((wrap64 ((rd t229 x10_2) - x9_2)) < (wrap64 (Int.tdiv (wrap64 (1 + (wrap64 (t224 * 3)))) (wrap64 (1 + (Int.tmod t228 (wrap64 (1 + (wrap64 (t224 * 3)))))))))) = true := decide_eq_true c23
              clear c23
              exact absurd (H.trans (congrArg some HRT.out)) (by simp)
             ·rw [if_neg c23] at H
              have c23b0 : decide ((wrap64 ((rd t229 x10_2) - x9_2)) < (wrap64 (Int.tdiv (wrap64 (1 + (wrap64 (t224 * 3)))) (wrap64 (1 + (Int.tmod t228 (wrap64 (1 + (wrap64 (t224 * 3)))))))))) = false := decide_eq_false c23
              clear c23
              by_cases c24 : (wrap64 ((rd t229 x10_2) - x9_2)) > (wrap64 (Int.tdiv (wrap64 ((wrap64 ((wrap64 (1 + (wrap64 (t224 * 3)))) + (wrap64 (1 + (Int.tmod t228 (wrap64 (1 + (wrap64 (t224 * 3))))))))) - 1)) (wrap64 (1 + (Int.tmod t228 (wrap64 (1 + (wrap64 (t224 * 3)))))))))
              ·rw [if_pos c24] at H
               have c24b0 : decide ((wrap64 (Int.tdiv (wrap64 ((wrap64 ((wrap64 (1 + (wrap64 (t224 * 3)))) + (wrap64 (1 + (Int.tmod t228 (wrap64 (1 + (wrap64 (t224 * 3))))))))) - 1)) (wrap64 (1 + (Int.tmod t228 (wrap64 (1 + (wrap64 (t224 * 3))))))))) < (wrap64 ((rd t229 x10_2) - x9_2))) = true := decide_eq_true c24
               clear c24
               exact absurd (H.trans (congrArg some HRT.out)) (by simp)
              ·rw [if_neg c24] at H
               have c24b0 : decide ((wrap64 (Int.tdiv (wrap64 ((wrap64 ((wrap64 (1 + (wrap64 (t224 * 3)))) + (wrap64 (1 + (Int.tmod t228 (wrap64 (1 + (wrap64 (t224 * 3))))))))) - 1)) (wrap64 (1 + (Int.tmod t228 (wrap64 (1 + (wrap64 (t224 * 3))))))))) < (wrap64 ((rd t229 x10_2) - x9_2))) = false := decide_eq_false c24
               clear c24
               have H' := Aside0.mk H
               clear H
               obtain ⟨Ao25, co25, eo25⟩ := Kd.R_slice HO_8.out
               subst eo25
               have p232 : 0 ≤ (x10_2 : Int) := of_decide_eq_true (by first | (with_reducible assumption) | assumption)
               have q232 : x10_2 < (t229.length : Int) := of_decide_eq_true (by first | (with_reducible assumption) | assumption)
               obtain ⟨ad232, e232, hx232_0⟩ := Kd.at_int (Kd.R_reads' HO_8.out).2.2 x10_2 p232 q232
               cases e232
               replace p232 := eq_true p232
               replace q232 := eq_true q232
               go_wp2
               go_roundg k2
               case measure => have := HJ10.out; have := HK2.out; omega
               case rel => exact ⟨(rd t229 x10_2), (wrap64 (x10_2 + 1)), (by first | rfl | (simp; done) | (simp [*]; done)), (by first | rfl | (simp; done) | (simp [*]; done)), H', ⟨by have := HJ10.out; have := HK2.out; omega⟩, ⟨by (with_reducible repeat (first | apply Kd.R_alloc | apply Kd.R_drewN | apply Kd.R_drew)); exact HO_8.out⟩, ⟨by repeat (first | (with_reducible first | exact HB.out | apply below_alloc | apply pw_below_drewN | apply below_drew1) | exact HB.out)⟩⟩
           ·rw [if_neg c21] at H
            exact absurd H (by simp)
          ·rw [if_neg c20] at H
           exact absurd H (by simp)
         ·rw [if_neg c19] at H
          have c19b0 : decide (x10_2 < (wrap64 ((wrap64 (1 + (Int.tmod t228 (wrap64 (1 + (wrap64 (t224 * 3))))))) - 1))) = false := decide_eq_false c19
          clear c19
          by_cases c26 : (wrap64 (1 + (Int.tmod t228 (wrap64 (1 + (wrap64 (t224 * 3))))))) = 0
          ·rw [if_pos c26] at H
           exact absurd H (by simp)
          ·rw [if_neg c26] at H
           have c26b0 : ((wrap64 (1 + (Int.tmod t228 (wrap64 (1 + (wrap64 (t224 * 3))))))) == 0) = false := beq_eq_false_iff_ne.mpr c26
           have c26b1 : ((wrap64 (1 + (Int.tmod t228 (wrap64 (1 + (wrap64 (t224 * 3))))))) != 0) = true := bne_iff_ne.mpr c26
           by_cases c27 : (wrap64 ((wrap64 (1 + (wrap64 (t224 * 3)))) - x9_2)) < (wrap64 (Int.tdiv (wrap64 (1 + (wrap64 (t224 * 3)))) (wrap64 (1 + (Int.tmod t228 (wrap64 (1 + (wrap64 (t224 * 3)))))))))
           ·rw [if_pos c27] at H
            have c27b0 : decide ((wrap64 ((wrap64 (1 + (wrap64 (t224 * 3)))) - x9_2)) < (wrap64 (Int.tdiv (wrap64 (1 + (wrap64 (t224 * 3)))) (wrap64 (1 + (Int.tmod t228 (wrap64 (1 + (wrap64 (t224 * 3)))))))))) = true := decide_eq_true c27
            clear c27
            exact absurd (H.trans (congrArg some HRT.out)) (by simp)
           ·rw [if_neg c27] at H
            have c27b0 : decide ((wrap64 ((wrap64 (1 + (wrap64 (t224 * 3)))) - x9_2)) < (wrap64 (Int.tdiv (wrap64 (1 + (wrap64 (t224 * 3)))) (wrap64 (1 + (Int.tmod t228 (wrap64 (1 + (wrap64 (t224 * 3)))))))))) = false := decide_eq_false c27
            clear c27
            by_cases c28 : (wrap64 ((wrap64 (1 + (wrap64 (t224 * 3)))) - x9_2)) > (wrap64 (Int.tdiv (wrap64 ((wrap64 ((wrap64 (1 + (wrap64 (t224 * 3)))) + (wrap64 (1 + (Int.tmod t228 (wrap64 (1 + (wrap64 (t224 * 3))))))))) - 1)) (wrap64 (1 + (Int.tmod t228 (wrap64 (1 + (wrap64 (t224 * 3)))))))))
            ·rw [if_pos c28] at H
             have c28b0 : decide ((wrap64 (Int.tdiv (wrap64 ((wrap64 ((wrap64 (1 + (wrap64 (t224 * 3)))) + (wrap64 (1 + (Int.tmod t228 (wrap64 (1 + (wrap64 (t224 * 3))))))))) - 1)) (wrap64 (1 + (Int.tmod t228 (wrap64 (1 + (wrap64 (t224 * 3))))))))) < (wrap64 ((wrap64 (1 + (wrap64 (t224 * 3)))) - x9_2))) = true := decide_eq_true c28
             clear c28
             exact absurd (H.trans (congrArg some HRT.out)) (by simp)
            ·rw [if_neg c28] at H
             have c28b0 : decide ((wrap64 (Int.tdiv (wrap64 ((wrap64 ((wrap64 (1 + (wrap64 (t224 * 3)))) + (wrap64 (1 + (Int.tmod t228 (wrap64 (1 + (wrap64 (t224 * 3))))))))) - 1)) (wrap64 (1 + (Int.tmod t228 (wrap64 (1 + (wrap64 (t224 * 3))))))))) < (wrap64 ((wrap64 (1 + (wrap64 (t224 * 3)))) - x9_2))) = false := decide_eq_false c28
             clear c28
             have H' := Aside0.mk H
             clear H
             go_wp2
             go_roundg k2
             case measure => have := HJ10.out; have := HK2.out; omega
             case rel => exact ⟨((wrap64 (1 + (wrap64 (t224 * 3))))), (wrap64 (x10_2 + 1)), (by first | rfl | (simp; done) | (simp [*]; done)), (by first | rfl | (simp; done) | (simp [*]; done)), H', ⟨by have := HJ10.out; have := HK2.out; omega⟩, ⟨by (with_reducible repeat (first | apply Kd.R_alloc | apply Kd.R_drewN | apply Kd.R_drew)); exact HO_8.out⟩, ⟨by repeat (first | (with_reducible first | exact HB.out | apply below_alloc | apply pw_below_drewN | apply below_drew1) | exact HB.out)⟩⟩
        ·rw [if_neg c18] at H
         have c18b0 : decide (x10_2 < (wrap64 (1 + (Int.tmod t228 (wrap64 (1 + (wrap64 (t224 * 3)))))))) = false := decide_eq_false c18
         clear c18
         replace H := Option.bind_eq_some_iff.mp H
         obtain ⟨t233, A290, H⟩ := H
         replace H : ((spec_DrawLengths.f k2 l0).bind fun t234 => ((impl_CutsNeeded.f k2 t234 (wrap64 (1 + (Int.tmod t225 40)))).bind fun t237 => (laws_FnSlices.l1 k2 (wrap64 (1 + (wrap64 (t224 * 3)))) (wrap64 (1 + (Int.tmod t225 40))) (wrap64 (1 + (Int.tmod t228 (wrap64 (1 + (wrap64 (t224 * 3))))))) t233 t234 t237 0 0 0))) = some r := H
         have A29 := Aside0.mk A290
         clear A290
         replace H := Option.bind_eq_some_iff.mp H
         obtain ⟨t234, A300, H⟩ := H
         replace H : ((impl_CutsNeeded.f k2 t234 (wrap64 (1 + (Int.tmod t225 40)))).bind fun t237 => (laws_FnSlices.l1 k2 (wrap64 (1 + (wrap64 (t224 * 3)))) (wrap64 (1 + (Int.tmod t225 40))) (wrap64 (1 + (Int.tmod t228 (wrap64 (1 + (wrap64 (t224 * 3))))))) t233 t234 t237 0 0 0)) = some r := H
         have A30 := Aside0.mk A300
         clear A300
         replace H := Option.bind_eq_some_iff.mp H
         obtain ⟨t237, A310, H⟩ := H
         replace H : (laws_FnSlices.l1 k2 (wrap64 (1 + (wrap64 (t224 * 3)))) (wrap64 (1 + (Int.tmod t225 40))) (wrap64 (1 + (Int.tmod t228 (wrap64 (1 + (wrap64 (t224 * 3))))))) t233 t234 t237 0 0 0) = some r := H
         have A31 := Aside0.mk A310
         clear A310
         have H' := Aside0.mk H
         clear H
         go_wp2_with (first | ((with_reducible refine gate_callee (f := 15) rfl ?_); refine goesL_ (some 102) rfl rfl Try.func15 (by kernel_rfl) rfl #[.int .i64 (wrap64 (1 + (wrap64 (t224 * 3)))), .int .i64 (wrap64 (1 + (Int.tmod t228 (wrap64 (1 + (wrap64 (t224 * 3)))))))] rfl (by (try simp only [List.map_toArray, List.map_cons, List.map_nil]); first | done | rfl | (simp only [List.length_drop, List.length_take]; rfl)) ?_; (with_reducible refine (impl_ThickestFor.calls k2 (wrap64 (1 + (wrap64 (t224 * 3)))) (wrap64 (1 + (Int.tmod t228 (wrap64 (1 + (wrap64 (t224 * 3))))))) t233 _ A29.out).mono ?_); rintro e w' ⟨rfl, ⟨nd, rfl⟩⟩; refine ⟨_, rfl, ?_⟩) | ((with_reducible refine gate_callee (f := 28) rfl ?_); refine goesL_ (some 104) rfl rfl Try.func28 (by kernel_rfl) rfl #[.slice A0 l0.length c0] rfl (by (try simp only [List.map_toArray, List.map_cons, List.map_nil]); first | done | rfl | (simp only [List.length_drop, List.length_take]; rfl)) ?_; (with_reducible refine (spec_DrawLengths.calls k2 _ _ l0 t234 _ ?side1 ?side2 A30.out).mono ?_); (case side1 => repeat (first | exact (Kd.C_below HR0.out (by repeat (first | (with_reducible first | exact HB.out | apply below_alloc | apply pw_below_drewN | apply below_drew1) | exact HB.out))) | (with_reducible refine Kd.C_alloc ?_ _) | (with_reducible refine Kd.C_drewN ?_ _) | (with_reducible refine Kd.C_drew ?_))); (case side2 => exact HC0.out); rintro e w32 ⟨v235, rfl, ho0, hb⟩; refine ⟨_, rfl, ?_⟩; have n0_ := Aside0.mk (Kd.R_elder' (by (with_reducible repeat (first | apply Kd.R_alloc | apply Kd.R_drewN | apply Kd.R_drew)); exact HO_8.out) (Kd.R_base ho0) hb); have n1_ := Aside0.mk (Kd.R_lower (Kd.R_new' ho0 (Kd.R_lt (by (with_reducible repeat (first | apply Kd.R_alloc | apply Kd.R_drewN | apply Kd.R_drew)); exact HO_8.out))) (below_size (by repeat (first | (with_reducible first | exact HB.out | apply below_alloc | apply pw_below_drewN | apply below_drew1) | exact HB.out)))); have n2_ := Aside0.mk (below_step (by repeat (first | (with_reducible first | exact HB.out | apply below_alloc | apply pw_below_drewN | apply below_drew1) | exact HB.out)) hb); clear HO_8 HB; have HO_8 := n0_; have HO236 := n1_; have HB := n2_; clear n0_ n1_ n2_; (try clear hb); (try clear hb2); (try clear hk); (try clear hi); (try clear ho0); obtain ⟨Ao33, co33, eo33⟩ := Kd.R_slice HO236.out; subst eo33) | ((with_reducible refine gate_callee (f := 25) rfl ?_); refine goesL_ (some 107) rfl rfl Try.func25 (by kernel_rfl) rfl #[.slice Ao33 t234.length co33, .int .i64 (wrap64 (1 + (Int.tmod t225 40)))] rfl (by (try simp only [List.map_toArray, List.map_cons, List.map_nil]); first | done | rfl | (simp only [List.length_drop, List.length_take]; rfl)) ?_; (with_reducible refine (impl_CutsNeeded.calls k2 _ _ t234 (wrap64 (1 + (Int.tmod t225 40))) t237 _ ?side1 ?side2 A31.out).mono ?_); (case side1 => repeat (first | exact (Kd.R_reads' HO236.out).2.2 | (with_reducible refine Kd.C_alloc ?_ _) | (with_reducible refine Kd.C_drewN ?_ _) | (with_reducible refine Kd.C_drew ?_))); (case side2 => exact (Kd.R_reads' HO236.out).2.1); rintro e w' ⟨rfl, ⟨nd, rfl⟩⟩; refine ⟨_, rfl, ?_⟩))
         go_loopg [15, 16, 17] k2 (fun kq v15 v16 v17 w' => ∃ (x15_3 : Int) (x16_3 : Int) (x17_3 : Int), v15 = .int .i64 x15_3 ∧ v16 = .int .i64 x16_3 ∧ v17 = .int .i64 x17_3 ∧ Aside0 (laws_FnSlices.l1 kq (wrap64 (1 + (wrap64 (t224 * 3)))) (wrap64 (1 + (Int.tmod t225 40))) (wrap64 (1 + (Int.tmod t228 (wrap64 (1 + (wrap64 (t224 * 3))))))) t233 t234 t237 x15_3 x16_3 x17_3 = some r) ∧ Aside0 (kq ≤ k2) ∧ Aside0 (Kd.R (Kd.int .i64) 3 w' w.heap.size (fun _ => True) (.slice Ao33 t234.length co33) t234) ∧ Aside0 (Below w.heap.size w w'))
         case atStart => exact ⟨(0), (0), (0), (by first | rfl | (simp; done) | (simp [*]; done)), (by first | rfl | (simp; done) | (simp [*]; done)), (by first | rfl | (simp; done) | (simp [*]; done)), H', ⟨Nat.le_refl _⟩, ⟨by (with_reducible repeat (first | apply Kd.R_alloc | apply Kd.R_drewN | apply Kd.R_drew)); exact Kd.R_mono HO236.out (fun _ hk => trivial)⟩, ⟨by repeat (first | (with_reducible first | exact HB.out | apply below_alloc | apply pw_below_drewN | apply below_drew1) | exact HB.out)⟩⟩
         case round =>
          clear H'
          try clear c1
          try clear c2
          try clear p2
          try clear q2
          try clear hx2
          try clear c3
          try clear p6
          try clear c9
          try clear c9b0
          try clear c9b1
          try clear c11
          try clear c13
          try clear c13b0
          try clear c13b1
          try clear c14
          try clear c14b0
          try clear c15
          try clear c15b0
          try clear c17
          try clear c18
          try clear c18b0
          try clear c19
          try clear c19b0
          try clear c20
          try clear c20b0
          try clear c21
          try clear c21b0
          try clear c22
          try clear c22b0
          try clear c22b1
          try clear c23
          try clear c23b0
          try clear p23
          try clear q23
          try clear hx23
          try clear c24
          try clear c24b0
          try clear c25
          try clear c26
          try clear c26b0
          try clear c26b1
          try clear c27
          try clear c27b0
          try clear c28
          try clear c28b0
          try clear hx232_0
          try clear p2
          try clear p232
          try clear p6
          try clear q232
          obtain ⟨x15_3, x16_3, x17_3, rfl, rfl, rfl, HA, HK3, HO_13, HB⟩ := hrel
          cases gk with
          | zero => exact absurd HA.out (by simp [laws_FnSlices.l1])
          | succ k3 =>
           have H := HA.out
           clear HA
           simp only [laws_FnSlices.l1] at H
           by_cases c34 : x17_3 < (t234.length : Int)
           ·rw [if_pos c34] at H
            have c34b0 : decide (x17_3 < (t234.length : Int)) = true := decide_eq_true c34
            clear c34
            by_cases c35 : 0 ≤ x17_3
            ·rw [if_pos c35] at H
             have c35b0 : decide (0 ≤ x17_3) = true := decide_eq_true c35
             clear c35
             replace H := Option.bind_eq_some_iff.mp H
             obtain ⟨t239, A360, H⟩ := H
             replace H : (if t239 > 0 then ((laws_btoi.f ((wrap64 (t239 * (wrap64 (1 + (Int.tmod t225 40))))) == (rd t234 x17_3))).bind fun t241 => (laws_FnSlices.l1 k3 (wrap64 (1 + (wrap64 (t224 * 3)))) (wrap64 (1 + (Int.tmod t225 40))) (wrap64 (1 + (Int.tmod t228 (wrap64 (1 + (wrap64 (t224 * 3))))))) t233 t234 t237 (wrap64 (x15_3 + t239)) (wrap64 (x16_3 + t241)) (wrap64 (x17_3 + 1)))) else ((laws_btoi.f false).bind fun t242 => (laws_FnSlices.l1 k3 (wrap64 (1 + (wrap64 (t224 * 3)))) (wrap64 (1 + (Int.tmod t225 40))) (wrap64 (1 + (Int.tmod t228 (wrap64 (1 + (wrap64 (t224 * 3))))))) t233 t234 t237 (wrap64 (x15_3 + t239)) (wrap64 (x16_3 + t242)) (wrap64 (x17_3 + 1))))) = some r := H
             have A36 := Aside0.mk A360
             clear A360
             by_cases c37 : t239 > 0
             ·rw [if_pos c37] at H
              have c37b0 : decide (0 < t239) = true := decide_eq_true c37
              clear c37
              replace H := Option.bind_eq_some_iff.mp H
              obtain ⟨t241, A380, H⟩ := H
              replace H : (laws_FnSlices.l1 k3 (wrap64 (1 + (wrap64 (t224 * 3)))) (wrap64 (1 + (Int.tmod t225 40))) (wrap64 (1 + (Int.tmod t228 (wrap64 (1 + (wrap64 (t224 * 3))))))) t233 t234 t237 (wrap64 (x15_3 + t239)) (wrap64 (x16_3 + t241)) (wrap64 (x17_3 + 1))) = some r := H
              have A38 := Aside0.mk A380
              clear A380
              have H' := Aside0.mk H
              clear H
              have p238 : 0 ≤ (x17_3 : Int) := of_decide_eq_true (by first | (with_reducible assumption) | assumption)
              have q238 : x17_3 < (t234.length : Int) := of_decide_eq_true (by first | (with_reducible assumption) | assumption)
              obtain ⟨ad238, e238, hx238_0⟩ := Kd.at_int (Kd.R_reads' HO_13.out).2.2 x17_3 p238 q238
              cases e238
              replace p238 := eq_true p238
              replace q238 := eq_true q238
              go_wp2_with (first | ((with_reducible refine gate_callee (f := 11) rfl ?_); refine goesL_ (some 119) rfl rfl Try.func11 (by kernel_rfl) rfl #[.int .i64 (rd t234 x17_3), .int .i64 (wrap64 (1 + (Int.tmod t225 40)))] rfl (by (try simp only [List.map_toArray, List.map_cons, List.map_nil]); first | done | rfl | (simp only [List.length_drop, List.length_take]; rfl)) ?_; (with_reducible refine (impl_SlicesOf.calls (rd t234 x17_3) (wrap64 (1 + (Int.tmod t225 40))) t239 _ A36.out).mono ?_); rintro e w' ⟨rfl, ⟨nd, rfl⟩⟩; refine ⟨_, rfl, ?_⟩; have p240 : 0 ≤ (x17_3 : Int) := of_decide_eq_true (by first | (with_reducible assumption) | assumption); have q240 : x17_3 < (t234.length : Int) := of_decide_eq_true (by first | (with_reducible assumption) | assumption); obtain ⟨ad240, e240, hx240_0⟩ := Kd.at_int (Kd.R_reads' HO_13.out).2.2 x17_3 p240 q240; obtain rfl : ad238 = ad240 := (by injection e240); replace p240 := eq_true p240; replace q240 := eq_true q240) | ((with_reducible refine gate_callee (f := 29) rfl ?_); refine goesL_ (some 136) rfl rfl Try.func29 (by kernel_rfl) rfl #[.bool ((wrap64 (t239 * (wrap64 (1 + (Int.tmod t225 40))))) == (rd t234 x17_3))] rfl (by (try simp only [List.map_toArray, List.map_cons, List.map_nil]); first | done | rfl | (simp only [List.length_drop, List.length_take]; rfl)) ?_; (with_reducible refine (laws_btoi.calls ((wrap64 (t239 * (wrap64 (1 + (Int.tmod t225 40))))) == (rd t234 x17_3)) t241 _ A38.out).mono ?_); rintro e w' ⟨rfl, ⟨nd, rfl⟩⟩; refine ⟨_, rfl, ?_⟩))
              go_roundg k3
              case measure => have := HJ10.out; have := HK2.out; have := HK3.out; omega
              case rel => exact ⟨(wrap64 (x15_3 + t239)), (wrap64 (x16_3 + t241)), (wrap64 (x17_3 + 1)), (by first | rfl | (simp; done) | (simp [*]; done)), (by first | rfl | (simp; done) | (simp [*]; done)), (by first | rfl | (simp; done) | (simp [*]; done)), H', ⟨by have := HJ10.out; have := HK2.out; have := HK3.out; omega⟩, ⟨by (with_reducible repeat (first | apply Kd.R_alloc | apply Kd.R_drewN | apply Kd.R_drew)); exact HO_13.out⟩, ⟨by repeat (first | (with_reducible first | exact HB.out | apply below_alloc | apply pw_below_drewN | apply below_drew1) | exact HB.out)⟩⟩
             ·rw [if_neg c37] at H
              have c37b0 : decide (0 < t239) = false := decide_eq_false c37
              clear c37
              replace H := Option.bind_eq_some_iff.mp H
              obtain ⟨t242, A390, H⟩ := H
              replace H : (laws_FnSlices.l1 k3 (wrap64 (1 + (wrap64 (t224 * 3)))) (wrap64 (1 + (Int.tmod t225 40))) (wrap64 (1 + (Int.tmod t228 (wrap64 (1 + (wrap64 (t224 * 3))))))) t233 t234 t237 (wrap64 (x15_3 + t239)) (wrap64 (x16_3 + t242)) (wrap64 (x17_3 + 1))) = some r := H
              have A39 := Aside0.mk A390
              clear A390
              have H' := Aside0.mk H
              clear H
              have p238 : 0 ≤ (x17_3 : Int) := of_decide_eq_true (by first | (with_reducible assumption) | assumption)
              have q238 : x17_3 < (t234.length : Int) := of_decide_eq_true (by first | (with_reducible assumption) | assumption)
              obtain ⟨ad238, e238, hx238_0⟩ := Kd.at_int (Kd.R_reads' HO_13.out).2.2 x17_3 p238 q238
              cases e238
              replace p238 := eq_true p238
              replace q238 := eq_true q238
              go_wp2_with (first | ((with_reducible refine gate_callee (f := 11) rfl ?_); refine goesL_ (some 119) rfl rfl Try.func11 (by kernel_rfl) rfl #[.int .i64 (rd t234 x17_3), .int .i64 (wrap64 (1 + (Int.tmod t225 40)))] rfl (by (try simp only [List.map_toArray, List.map_cons, List.map_nil]); first | done | rfl | (simp only [List.length_drop, List.length_take]; rfl)) ?_; (with_reducible refine (impl_SlicesOf.calls (rd t234 x17_3) (wrap64 (1 + (Int.tmod t225 40))) t239 _ A36.out).mono ?_); rintro e w' ⟨rfl, ⟨nd, rfl⟩⟩; refine ⟨_, rfl, ?_⟩) | ((with_reducible refine gate_callee (f := 29) rfl ?_); refine goesL_ (some 136) rfl rfl Try.func29 (by kernel_rfl) rfl #[.bool false] rfl (by (try simp only [List.map_toArray, List.map_cons, List.map_nil]); first | done | rfl | (simp only [List.length_drop, List.length_take]; rfl)) ?_; (with_reducible refine (laws_btoi.calls false t242 _ A39.out).mono ?_); rintro e w' ⟨rfl, ⟨nd, rfl⟩⟩; refine ⟨_, rfl, ?_⟩))
              go_roundg k3
              case measure => have := HJ10.out; have := HK2.out; have := HK3.out; omega
              case rel => exact ⟨(wrap64 (x15_3 + t239)), (wrap64 (x16_3 + t242)), (wrap64 (x17_3 + 1)), (by first | rfl | (simp; done) | (simp [*]; done)), (by first | rfl | (simp; done) | (simp [*]; done)), (by first | rfl | (simp; done) | (simp [*]; done)), H', ⟨by have := HJ10.out; have := HK2.out; have := HK3.out; omega⟩, ⟨by (with_reducible repeat (first | apply Kd.R_alloc | apply Kd.R_drewN | apply Kd.R_drew)); exact HO_13.out⟩, ⟨by repeat (first | (with_reducible first | exact HB.out | apply below_alloc | apply pw_below_drewN | apply below_drew1) | exact HB.out)⟩⟩
            ·rw [if_neg c35] at H
             exact absurd H (by simp)
           ·rw [if_neg c34] at H
            have c34b0 : decide (x17_3 < (t234.length : Int)) = false := decide_eq_false c34
            clear c34
            by_cases c40 : t233 ≥ 1
            ·rw [if_pos c40] at H
             have c40b0 : decide (1 ≤ t233) = true := decide_eq_true c40
             clear c40
             by_cases c41 : t233 = 0
             ·rw [if_pos c41] at H
              exact absurd H (by simp)
             ·rw [if_neg c41] at H
              have c41b0 : (t233 == 0) = false := beq_eq_false_iff_ne.mpr c41
              have c41b1 : (t233 != 0) = true := bne_iff_ne.mpr c41
              by_cases c42 : (wrap64 (Int.tdiv (wrap64 (1 + (wrap64 (t224 * 3)))) t233)) ≥ (wrap64 (1 + (Int.tmod t228 (wrap64 (1 + (wrap64 (t224 * 3)))))))
              ·rw [if_pos c42] at H
               have c42b0 : decide ((wrap64 (1 + (Int.tmod t228 (wrap64 (1 + (wrap64 (t224 * 3))))))) ≤ (wrap64 (Int.tdiv (wrap64 (1 + (wrap64 (t224 * 3)))) t233))) = true := decide_eq_true c42
               clear c42
               by_cases c43 : t233 = 100
               ·rw [if_pos c43] at H
                have c43b0 : (t233 == 100) = true := beq_iff_eq.mpr c43
                have c43b1 : (t233 != 100) = false := bne_eq_false_iff_eq.mpr c43
                clear c43
                by_cases c44 : t237 = (wrap64 (x15_3 - x16_3))
                ·rw [if_pos c44] at H
                 have c44b0 : (t237 == (wrap64 (x15_3 - x16_3))) = true := beq_iff_eq.mpr c44
                 have c44b1 : (t237 != (wrap64 (x15_3 - x16_3))) = false := bne_eq_false_iff_eq.mpr c44
                 clear c44
                 replace H := Option.bind_eq_some_iff.mp H
                 obtain ⟨t243, A450, H⟩ := H
                 replace H : (if t243 = 54 then ((impl_CrustParts.f k3 1 1 9).bind fun t244 => (some (t244 == 9))) else (some false)) = some r := H
                 have A45 := Aside0.mk A450
                 clear A450
                 by_cases c46 : t243 = 54
                 ·rw [if_pos c46] at H
                  have c46b0 : (t243 == 54) = true := beq_iff_eq.mpr c46
                  have c46b1 : (t243 != 54) = false := bne_eq_false_iff_eq.mpr c46
                  clear c46
                  replace H := Option.bind_eq_some_iff.mp H
                  obtain ⟨t244, A470, H⟩ := H
                  replace H : (some (t244 == 9)) = some r := H
                  have A47 := Aside0.mk A470
                  clear A470
                  obtain rfl := Option.some.inj H
                  go_wp2_with (first | (go_at_call 17; (with_reducible refine (impl_CrustParts.calls k3 3 4 5 t243 _ A45.out).mono ?_); rintro e w48 ⟨rfl, hb⟩; have n0_ := Aside0.mk (Kd.R_below (by (with_reducible repeat (first | apply Kd.R_alloc | apply Kd.R_drewN | apply Kd.R_drew)); exact HO_13.out) hb); have n1_ := Aside0.mk (below_step (by repeat (first | (with_reducible first | exact HB.out | apply below_alloc | apply pw_below_drewN | apply below_drew1) | exact HB.out)) hb); clear HO_13 HB; have HO_13 := n0_; have HB := n1_; clear n0_ n1_; (try clear hb); (try clear hb2); (try clear hk); (try clear hi)) | (go_at_call 17; (with_reducible refine (impl_CrustParts.calls k3 1 1 9 t244 _ A47.out).mono ?_); rintro e w49 ⟨rfl, hb⟩; have n0_ := Aside0.mk (Kd.R_below (by (with_reducible repeat (first | apply Kd.R_alloc | apply Kd.R_drewN | apply Kd.R_drew)); exact HO_13.out) hb); have n1_ := Aside0.mk (below_step (by repeat (first | (with_reducible first | exact HB.out | apply below_alloc | apply pw_below_drewN | apply below_drew1) | exact HB.out)) hb); clear HO_13 HB; have HO_13 := n0_; have HB := n1_; clear n0_ n1_; (try clear hb); (try clear hb2); (try clear hk); (try clear hi)))
                  go_ret
                  exact ⟨by first | rfl | (simp [errW_none, errW_some] <;> rfl) | (simp [*, errW_none, errW_some] <;> rfl), by repeat (first | (with_reducible first | exact HB.out | apply below_alloc | apply pw_below_drewN | apply below_drew1) | exact HB.out)⟩
                 ·rw [if_neg c46] at H
                  have c46b0 : (t243 == 54) = false := beq_eq_false_iff_ne.mpr c46
                  have c46b1 : (t243 != 54) = true := bne_iff_ne.mpr c46
                  exact absurd (H.trans (congrArg some HRT.out)) (by simp)
                ·rw [if_neg c44] at H
                 have c44b0 : (t237 == (wrap64 (x15_3 - x16_3))) = false := beq_eq_false_iff_ne.mpr c44
                 have c44b1 : (t237 != (wrap64 (x15_3 - x16_3))) = true := bne_iff_ne.mpr c44
                 exact absurd (H.trans (congrArg some HRT.out)) (by simp)
               ·rw [if_neg c43] at H
                have c43b0 : (t233 == 100) = false := beq_eq_false_iff_ne.mpr c43
                have c43b1 : (t233 != 100) = true := bne_iff_ne.mpr c43
                by_cases c50 : (wrap64 (t233 + 1)) = 0
                ·rw [if_pos c50] at H
                 exact absurd H (by simp)
                ·rw [if_neg c50] at H
                 have c50b0 : ((wrap64 (t233 + 1)) == 0) = false := beq_eq_false_iff_ne.mpr c50
                 have c50b1 : ((wrap64 (t233 + 1)) != 0) = true := bne_iff_ne.mpr c50
                 by_cases c51 : (wrap64 (Int.tdiv (wrap64 (1 + (wrap64 (t224 * 3)))) (wrap64 (t233 + 1)))) < (wrap64 (1 + (Int.tmod t228 (wrap64 (1 + (wrap64 (t224 * 3)))))))
                 ·rw [if_pos c51] at H
                  have c51b0 : decide ((wrap64 (Int.tdiv (wrap64 (1 + (wrap64 (t224 * 3)))) (wrap64 (t233 + 1)))) < (wrap64 (1 + (Int.tmod t228 (wrap64 (1 + (wrap64 (t224 * 3)))))))) = true := decide_eq_true c51
                  clear c51
                  by_cases c52 : t237 = (wrap64 (x15_3 - x16_3))
                  ·rw [if_pos c52] at H
                   have c52b0 : (t237 == (wrap64 (x15_3 - x16_3))) = true := beq_iff_eq.mpr c52
                   have c52b1 : (t237 != (wrap64 (x15_3 - x16_3))) = false := bne_eq_false_iff_eq.mpr c52
                   clear c52
                   replace H := Option.bind_eq_some_iff.mp H
                   obtain ⟨t245, A530, H⟩ := H
                   replace H : (if t245 = 54 then ((impl_CrustParts.f k3 1 1 9).bind fun t246 => (some (t246 == 9))) else (some false)) = some r := H
                   have A53 := Aside0.mk A530
                   clear A530
                   by_cases c54 : t245 = 54
                   ·rw [if_pos c54] at H
                    have c54b0 : (t245 == 54) = true := beq_iff_eq.mpr c54
                    have c54b1 : (t245 != 54) = false := bne_eq_false_iff_eq.mpr c54
                    clear c54
                    replace H := Option.bind_eq_some_iff.mp H
                    obtain ⟨t246, A550, H⟩ := H
                    replace H : (some (t246 == 9)) = some r := H
                    have A55 := Aside0.mk A550
                    clear A550
                    obtain rfl := Option.some.inj H
                    go_wp2_with (first | (go_at_call 17; (with_reducible refine (impl_CrustParts.calls k3 3 4 5 t245 _ A53.out).mono ?_); rintro e w56 ⟨rfl, hb⟩; have n0_ := Aside0.mk (Kd.R_below (by (with_reducible repeat (first | apply Kd.R_alloc | apply Kd.R_drewN | apply Kd.R_drew)); exact HO_13.out) hb); have n1_ := Aside0.mk (below_step (by repeat (first | (with_reducible first | exact HB.out | apply below_alloc | apply pw_below_drewN | apply below_drew1) | exact HB.out)) hb); clear HO_13 HB; have HO_13 := n0_; have HB := n1_; clear n0_ n1_; (try clear hb); (try clear hb2); (try clear hk); (try clear hi)) | (go_at_call 17; (with_reducible refine (impl_CrustParts.calls k3 1 1 9 t246 _ A55.out).mono ?_); rintro e w57 ⟨rfl, hb⟩; have n0_ := Aside0.mk (Kd.R_below (by (with_reducible repeat (first | apply Kd.R_alloc | apply Kd.R_drewN | apply Kd.R_drew)); exact HO_13.out) hb); have n1_ := Aside0.mk (below_step (by repeat (first | (with_reducible first | exact HB.out | apply below_alloc | apply pw_below_drewN | apply below_drew1) | exact HB.out)) hb); clear HO_13 HB; have HO_13 := n0_; have HB := n1_; clear n0_ n1_; (try clear hb); (try clear hb2); (try clear hk); (try clear hi)))
                    go_ret
                    exact ⟨by first | rfl | (simp [errW_none, errW_some] <;> rfl) | (simp [*, errW_none, errW_some] <;> rfl), by repeat (first | (with_reducible first | exact HB.out | apply below_alloc | apply pw_below_drewN | apply below_drew1) | exact HB.out)⟩
                   ·rw [if_neg c54] at H
                    have c54b0 : (t245 == 54) = false := beq_eq_false_iff_ne.mpr c54
                    have c54b1 : (t245 != 54) = true := bne_iff_ne.mpr c54
                    exact absurd (H.trans (congrArg some HRT.out)) (by simp)
                  ·rw [if_neg c52] at H
                   have c52b0 : (t237 == (wrap64 (x15_3 - x16_3))) = false := beq_eq_false_iff_ne.mpr c52
                   have c52b1 : (t237 != (wrap64 (x15_3 - x16_3))) = true := bne_iff_ne.mpr c52
                   exact absurd (H.trans (congrArg some HRT.out)) (by simp)
                 ·rw [if_neg c51] at H
                  have c51b0 : decide ((wrap64 (Int.tdiv (wrap64 (1 + (wrap64 (t224 * 3)))) (wrap64 (t233 + 1)))) < (wrap64 (1 + (Int.tmod t228 (wrap64 (1 + (wrap64 (t224 * 3)))))))) = false := decide_eq_false c51
                  clear c51
                  exact absurd (H.trans (congrArg some HRT.out)) (by simp)
              ·rw [if_neg c42] at H
               have c42b0 : decide ((wrap64 (1 + (Int.tmod t228 (wrap64 (1 + (wrap64 (t224 * 3))))))) ≤ (wrap64 (Int.tdiv (wrap64 (1 + (wrap64 (t224 * 3)))) t233))) = false := decide_eq_false c42
               clear c42
               exact absurd (H.trans (congrArg some HRT.out)) (by simp)
            ·rw [if_neg c40] at H
             have c40b0 : decide (1 ≤ t233) = false := decide_eq_false c40
             clear c40
             exact absurd (H.trans (congrArg some HRT.out)) (by simp)
/-- THE ONE PURE STATEMENT of laws_FnSlices. -/
def laws_FnSlices.Pure : Prop := ∀ (l0 : List Int), l0.length ≤ maxLen → l0.length * 1 ≤ 140737488351232 → (∀ x ∈ l0, (Lit.int .u8 x).wf = true) → ∃ k, laws_FnSlices.f k l0 = some true
theorem laws_FnSlices.walk (P : laws_FnSlices.Pure) (A0 : Option Addr) (c0 : Nat) (l0 : List Int) (w : World) (hr0 : Kd.C (Kd.int .u8) w A0 l0.length l0) (hc0 : l0.length ≤ c0) (y0 : l0.length ≤ maxLen) (y1 : l0.length * 1 ≤ 140737488351232) (y2 : (∀ x ∈ l0, (Lit.int .u8 x).wf = true)) :
  Calls Try.prog 9 #[.slice A0 l0.length c0] w fun e w' => e = .returned (.bool true) ∧ Below w.heap.size w w' := by
 obtain ⟨k, h⟩ := P l0 y0 y1 y2
 refine (laws_FnSlices.calls k A0 c0 l0 true w hr0 hc0 rfl h).mono ?_
 rintro e w' ⟨rfl, hd⟩
 exact ⟨rfl, hd⟩

end Go.Proofs.Ytmfjopfoeefelaa.PB
