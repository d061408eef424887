-- Written by a program of this session (wip/hprint.py, over the kit's print).
import Derived.Test.YtmfphmjaokeeaaaPAx0
import Derived.Test.YtmfphmjaokeeaaaPAx1
import Derived.Test.YtmfphmjaokeeaaaPAx2
namespace Go.Proofs.Ytmfphmjaokeeaaa.PA
open Go.RowKit Go.Proofs.YtmfphmjaokeeaaaW.PrintWords Go.Proofs.YtmfphmjaokeeaaaW.PrintLast Go.Proofs.YtmfphmjaokeeaaaW.PrintMore
attribute [local go_sem] max2_int min2_int max_two min_two max_three min_three max_four min_four   -- for this text's walks alone
set_option linter.unusedVariables false
set_option linter.unusedSimpArgs false

/-! ### laws_FnWarms: function 10 -/
def laws_FnWarms.j0 : Nat → Int → Int → Int → Int → Int → Int → Bool → Bool → Option (Bool)
 | 0, _, _, _, _, _, _, _, _ => none
 | k + 1, x3, x4, x5, x6, x7, x8, x9, x99 => if x99 = true then (some false) else ((impl_HottestFlour.f k x3 x5 x6).bind fun t172 => (if x8 = x3 then (if x7 = (wrap64 ((wrap64 ((wrap64 ((wrap64 (3 * x3)) - x4)) - x5)) - x6)) then (if x7 ≥ 1 then (if (x9 == (decide (x7 ≤ 60))) = true then (if x9 = true then (if t172 ≥ x4 then (if t172 = (-1000) then ((impl_DoughHeat.f k (-5) 0 0 0).bind fun t173 => (some (t173 == (-2)))) else ((impl_CanReach.f x3 t172 x5 x6).bind fun t174 => (if t174 = true then (if t172 = 60 then ((impl_DoughHeat.f k (-5) 0 0 0).bind fun t175 => (some (t175 == (-2)))) else ((impl_CanReach.f x3 (wrap64 (t172 + 1)) x5 x6).bind fun t176 => (if t176 = true then (some false) else ((impl_DoughHeat.f k (-5) 0 0 0).bind fun t177 => (some (t177 == (-2))))))) else (some false)))) else (some false)) else (if t172 = (-1000) then ((impl_DoughHeat.f k (-5) 0 0 0).bind fun t178 => (some (t178 == (-2)))) else ((impl_CanReach.f x3 t172 x5 x6).bind fun t179 => (if t179 = true then (if t172 = 60 then ((impl_DoughHeat.f k (-5) 0 0 0).bind fun t180 => (some (t180 == (-2)))) else ((impl_CanReach.f x3 (wrap64 (t172 + 1)) x5 x6).bind fun t181 => (if t181 = true then (some false) else ((impl_DoughHeat.f k (-5) 0 0 0).bind fun t182 => (some (t182 == (-2))))))) else (some false))))) else (some false)) else (if (x9 == false) = true then (if x9 = true then (if t172 ≥ x4 then (if t172 = (-1000) then ((impl_DoughHeat.f k (-5) 0 0 0).bind fun t183 => (some (t183 == (-2)))) else ((impl_CanReach.f x3 t172 x5 x6).bind fun t184 => (if t184 = true then (if t172 = 60 then ((impl_DoughHeat.f k (-5) 0 0 0).bind fun t185 => (some (t185 == (-2)))) else ((impl_CanReach.f x3 (wrap64 (t172 + 1)) x5 x6).bind fun t186 => (if t186 = true then (some false) else ((impl_DoughHeat.f k (-5) 0 0 0).bind fun t187 => (some (t187 == (-2))))))) else (some false)))) else (some false)) else (if t172 = (-1000) then ((impl_DoughHeat.f k (-5) 0 0 0).bind fun t188 => (some (t188 == (-2)))) else ((impl_CanReach.f x3 t172 x5 x6).bind fun t189 => (if t189 = true then (if t172 = 60 then ((impl_DoughHeat.f k (-5) 0 0 0).bind fun t190 => (some (t190 == (-2)))) else ((impl_CanReach.f x3 (wrap64 (t172 + 1)) x5 x6).bind fun t191 => (if t191 = true then (some false) else ((impl_DoughHeat.f k (-5) 0 0 0).bind fun t192 => (some (t192 == (-2))))))) else (some false))))) else (some false))) else (some false)) else (some false)))
def laws_FnWarms.f (k : Nat) (l0 : List Int) : Option (Bool) := (laws_big.f l0).bind fun t161 => (if t161 = true then (some true) else ((laws_at.f l0 0).bind fun t162 => ((laws_at.f l0 1).bind fun t163 => ((laws_at.f l0 2).bind fun t164 => ((laws_at.f l0 3).bind fun t165 => ((impl_WaterFor.f (wrap64 (15 + (Int.tmod t162 20))) (Int.tmod t163 30) (Int.tmod t164 30) (Int.tmod t165 10)).bind fun t166 => ((impl_DoughHeat.f k t166 (Int.tmod t163 30) (Int.tmod t164 30) (Int.tmod t165 10)).bind fun t167 => ((impl_CanReach.f (wrap64 (15 + (Int.tmod t162 20))) (Int.tmod t163 30) (Int.tmod t164 30) (Int.tmod t165 10)).bind fun t168 => ((laws_at.f l0 4).bind fun t169 => ((laws_at.f l0 5).bind fun t170 => ((impl_IceFor.f k (Int.tmod t169 25) (wrap64 (t170 * 20))).bind fun t171 => (if t171 < 0 then (laws_FnWarms.j0 k (wrap64 (15 + (Int.tmod t162 20))) (Int.tmod t163 30) (Int.tmod t164 30) (Int.tmod t165 10) t166 t167 t168 true) else (if (Int.tmod t169 25) < 20 then (if (wrap64 (80 * t171)) < (wrap64 ((wrap64 (20 - (Int.tmod t169 25))) * (wrap64 ((wrap64 (t170 * 20)) - t171)))) then (laws_FnWarms.j0 k (wrap64 (15 + (Int.tmod t162 20))) (Int.tmod t163 30) (Int.tmod t164 30) (Int.tmod t165 10) t166 t167 t168 true) else (if t171 > 0 then (if (wrap64 (80 * (wrap64 (t171 - 1)))) ≥ (wrap64 ((wrap64 (20 - (Int.tmod t169 25))) * (wrap64 ((wrap64 ((wrap64 (t170 * 20)) - t171)) + 1)))) then (laws_FnWarms.j0 k (wrap64 (15 + (Int.tmod t162 20))) (Int.tmod t163 30) (Int.tmod t164 30) (Int.tmod t165 10) t166 t167 t168 true) else (if (Int.tmod t169 25) ≥ 20 then (if t171 = 0 then (laws_FnWarms.j0 k (wrap64 (15 + (Int.tmod t162 20))) (Int.tmod t163 30) (Int.tmod t164 30) (Int.tmod t165 10) t166 t167 t168 (decide (t171 > (wrap64 (t170 * 20))))) else (laws_FnWarms.j0 k (wrap64 (15 + (Int.tmod t162 20))) (Int.tmod t163 30) (Int.tmod t164 30) (Int.tmod t165 10) t166 t167 t168 true)) else (laws_FnWarms.j0 k (wrap64 (15 + (Int.tmod t162 20))) (Int.tmod t163 30) (Int.tmod t164 30) (Int.tmod t165 10) t166 t167 t168 (decide (t171 > (wrap64 (t170 * 20))))))) else (if (Int.tmod t169 25) ≥ 20 then (if t171 = 0 then (laws_FnWarms.j0 k (wrap64 (15 + (Int.tmod t162 20))) (Int.tmod t163 30) (Int.tmod t164 30) (Int.tmod t165 10) t166 t167 t168 (decide (t171 > (wrap64 (t170 * 20))))) else (laws_FnWarms.j0 k (wrap64 (15 + (Int.tmod t162 20))) (Int.tmod t163 30) (Int.tmod t164 30) (Int.tmod t165 10) t166 t167 t168 true)) else (laws_FnWarms.j0 k (wrap64 (15 + (Int.tmod t162 20))) (Int.tmod t163 30) (Int.tmod t164 30) (Int.tmod t165 10) t166 t167 t168 (decide (t171 > (wrap64 (t170 * 20)))))))) else (if (Int.tmod t169 25) ≥ 20 then (if t171 = 0 then (laws_FnWarms.j0 k (wrap64 (15 + (Int.tmod t162 20))) (Int.tmod t163 30) (Int.tmod t164 30) (Int.tmod t165 10) t166 t167 t168 (decide (t171 > (wrap64 (t170 * 20))))) else (laws_FnWarms.j0 k (wrap64 (15 + (Int.tmod t162 20))) (Int.tmod t163 30) (Int.tmod t164 30) (Int.tmod t165 10) t166 t167 t168 true)) else (laws_FnWarms.j0 k (wrap64 (15 + (Int.tmod t162 20))) (Int.tmod t163 30) (Int.tmod t164 30) (Int.tmod t165 10) t166 t167 t168 (decide (t171 > (wrap64 (t170 * 20)))))))))))))))))))
theorem laws_FnWarms.mono_l : ∀ k, (∀ y0 y1 y2 y3 y4 y5 y6 y7, LeO (laws_FnWarms.j0 k y0 y1 y2 y3 y4 y5 y6 y7) (laws_FnWarms.j0 (k + 1) y0 y1 y2 y3 y4 y5 y6 y7))
 | 0 => fun _ _ _ _ _ _ _ _ r h => by simp [laws_FnWarms.j0] at h
 | k + 1 => by
  have ih0 := laws_FnWarms.mono_l k
  ·intro y0 y1 y2 y3 y4 y5 y6 y7
   unfold laws_FnWarms.j0
   repeat' first
   | (with_reducible exact ih0 _ _ _ _ _ _ _ _)
   | (with_reducible exact impl_DoughHeat.mono _ _ _ _ _)
   | (with_reducible exact impl_HottestFlour.mono _ _ _ _)
   | (with_reducible exact impl_IceFor.mono _ _ _)
   | (with_reducible exact LeO.refl _)
   | (with_reducible exact LeO.none _)
   | (with_reducible refine LeO.ite ?_ ?_)
   | (with_reducible refine LeO.bind ?_ (fun _ => ?_))
   | exact ih0 _ _ _ _ _ _ _ _
   | exact impl_DoughHeat.mono _ _ _ _ _
   | exact impl_HottestFlour.mono _ _ _ _
   | exact impl_IceFor.mono _ _ _
   | exact LeO.none _
   | refine LeO.ite ?_ ?_
   | refine LeO.bind ?_ (fun _ => ?_)
theorem laws_FnWarms.mono : ∀ a0 k, LeO (laws_FnWarms.f k a0) (laws_FnWarms.f (k + 1) a0) := by
 intro a0 k
 have ih0 := laws_FnWarms.mono_l k
 unfold laws_FnWarms.f
 repeat' first
   | (with_reducible exact ih0 _ _ _ _ _ _ _ _)
   | (with_reducible exact impl_DoughHeat.mono _ _ _ _ _)
   | (with_reducible exact impl_HottestFlour.mono _ _ _ _)
   | (with_reducible exact impl_IceFor.mono _ _ _)
   | (with_reducible exact LeO.refl _)
   | (with_reducible exact LeO.none _)
   | (with_reducible refine LeO.ite ?_ ?_)
   | (with_reducible refine LeO.bind ?_ (fun _ => ?_))
   | exact ih0 _ _ _ _ _ _ _ _
   | exact impl_DoughHeat.mono _ _ _ _ _
   | exact impl_HottestFlour.mono _ _ _ _
   | exact impl_IceFor.mono _ _ _
   | exact LeO.none _
   | refine LeO.ite ?_ ?_
   | refine LeO.bind ?_ (fun _ => ?_)
theorem laws_FnWarms.j0_no {k : Nat} {x3 : Int} {x4 : Int} {x5 : Int} {x6 : Int} {x7 : Int} {x8 : Int} {x9 : Bool} {r : Bool} (hr : r = true) (h : laws_FnWarms.j0 k x3 x4 x5 x6 x7 x8 x9 true = some r) : False := by
 subst hr
 cases k <;> simp [laws_FnWarms.j0] at h
set_option maxHeartbeats 8000000 in
set_option maxRecDepth 100000 in
theorem laws_FnWarms.calls (k : Nat) (A0 : Option Addr) (c0 : Nat) (l0 : List Int) (r : Bool) (w : World) (hr0 : Kd.C (Kd.int .u8) w A0 l0.length l0) (hc0 : l0.length ≤ c0) (hrt_ : r = true) (h : laws_FnWarms.f k l0 = some r) :
  Calls Try.prog 10 #[.slice A0 l0.length c0] w fun e w' => e = .returned (.bool r) ∧ Below w.heap.size w w' := by
 have HRT := Aside0.mk hrt_
 clear hrt_
 have HR0 := Aside0.mk hr0
 have HC0 := Aside0.mk hc0
 clear hr0 hc0
 have HB := Aside0.mk (Below.refl w.heap.size w)
 have H : ((laws_big.f l0).bind fun t161 => (if t161 = true then (some true) else ((laws_at.f l0 0).bind fun t162 => ((laws_at.f l0 1).bind fun t163 => ((laws_at.f l0 2).bind fun t164 => ((laws_at.f l0 3).bind fun t165 => ((impl_WaterFor.f (wrap64 (15 + (Int.tmod t162 20))) (Int.tmod t163 30) (Int.tmod t164 30) (Int.tmod t165 10)).bind fun t166 => ((impl_DoughHeat.f k t166 (Int.tmod t163 30) (Int.tmod t164 30) (Int.tmod t165 10)).bind fun t167 => ((impl_CanReach.f (wrap64 (15 + (Int.tmod t162 20))) (Int.tmod t163 30) (Int.tmod t164 30) (Int.tmod t165 10)).bind fun t168 => ((laws_at.f l0 4).bind fun t169 => ((laws_at.f l0 5).bind fun t170 => ((impl_IceFor.f k (Int.tmod t169 25) (wrap64 (t170 * 20))).bind fun t171 => (if t171 < 0 then (laws_FnWarms.j0 k (wrap64 (15 + (Int.tmod t162 20))) (Int.tmod t163 30) (Int.tmod t164 30) (Int.tmod t165 10) t166 t167 t168 true) else (if (Int.tmod t169 25) < 20 then (if (wrap64 (80 * t171)) < (wrap64 ((wrap64 (20 - (Int.tmod t169 25))) * (wrap64 ((wrap64 (t170 * 20)) - t171)))) then (laws_FnWarms.j0 k (wrap64 (15 + (Int.tmod t162 20))) (Int.tmod t163 30) (Int.tmod t164 30) (Int.tmod t165 10) t166 t167 t168 true) else (if t171 > 0 then (if (wrap64 (80 * (wrap64 (t171 - 1)))) ≥ (wrap64 ((wrap64 (20 - (Int.tmod t169 25))) * (wrap64 ((wrap64 ((wrap64 (t170 * 20)) - t171)) + 1)))) then (laws_FnWarms.j0 k (wrap64 (15 + (Int.tmod t162 20))) (Int.tmod t163 30) (Int.tmod t164 30) (Int.tmod t165 10) t166 t167 t168 true) else (if (Int.tmod t169 25) ≥ 20 then (if t171 = 0 then (laws_FnWarms.j0 k (wrap64 (15 + (Int.tmod t162 20))) (Int.tmod t163 30) (Int.tmod t164 30) (Int.tmod t165 10) t166 t167 t168 (decide (t171 > (wrap64 (t170 * 20))))) else (laws_FnWarms.j0 k (wrap64 (15 + (Int.tmod t162 20))) (Int.tmod t163 30) (Int.tmod t164 30) (Int.tmod t165 10) t166 t167 t168 true)) else (laws_FnWarms.j0 k (wrap64 (15 + (Int.tmod t162 20))) (Int.tmod t163 30) (Int.tmod t164 30) (Int.tmod t165 10) t166 t167 t168 (decide (t171 > (wrap64 (t170 * 20))))))) else (if (Int.tmod t169 25) ≥ 20 then (if t171 = 0 then (laws_FnWarms.j0 k (wrap64 (15 + (Int.tmod t162 20))) (Int.tmod t163 30) (Int.tmod t164 30) (Int.tmod t165 10) t166 t167 t168 (decide (t171 > (wrap64 (t170 * 20))))) else (laws_FnWarms.j0 k (wrap64 (15 + (Int.tmod t162 20))) (Int.tmod t163 30) (Int.tmod t164 30) (Int.tmod t165 10) t166 t167 t168 true)) else (laws_FnWarms.j0 k (wrap64 (15 + (Int.tmod t162 20))) (Int.tmod t163 30) (Int.tmod t164 30) (Int.tmod t165 10) t166 t167 t168 (decide (t171 > (wrap64 (t170 * 20)))))))) else (if (Int.tmod t169 25) ≥ 20 then (if t171 = 0 then (laws_FnWarms.j0 k (wrap64 (15 + (Int.tmod t162 20))) (Int.tmod t163 30) (Int.tmod t164 30) (Int.tmod t165 10) t166 t167 t168 (decide (t171 > (wrap64 (t170 * 20))))) else (laws_FnWarms.j0 k (wrap64 (15 + (Int.tmod t162 20))) (Int.tmod t163 30) (Int.tmod t164 30) (Int.tmod t165 10) t166 t167 t168 true)) else (laws_FnWarms.j0 k (wrap64 (15 + (Int.tmod t162 20))) (Int.tmod t163 30) (Int.tmod t164 30) (Int.tmod t165 10) t166 t167 t168 (decide (t171 > (wrap64 (t170 * 20)))))))))))))))))))) = some r := h
 clear h
 replace H := Option.bind_eq_some_iff.mp H
 obtain ⟨t161, A20, H⟩ := H
 replace H : (if t161 = true then (some true) else ((laws_at.f l0 0).bind fun t162 => ((laws_at.f l0 1).bind fun t163 => ((laws_at.f l0 2).bind fun t164 => ((laws_at.f l0 3).bind fun t165 => ((impl_WaterFor.f (wrap64 (15 + (Int.tmod t162 20))) (Int.tmod t163 30) (Int.tmod t164 30) (Int.tmod t165 10)).bind fun t166 => ((impl_DoughHeat.f k t166 (Int.tmod t163 30) (Int.tmod t164 30) (Int.tmod t165 10)).bind fun t167 => ((impl_CanReach.f (wrap64 (15 + (Int.tmod t162 20))) (Int.tmod t163 30) (Int.tmod t164 30) (Int.tmod t165 10)).bind fun t168 => ((laws_at.f l0 4).bind fun t169 => ((laws_at.f l0 5).bind fun t170 => ((impl_IceFor.f k (Int.tmod t169 25) (wrap64 (t170 * 20))).bind fun t171 => (if t171 < 0 then (laws_FnWarms.j0 k (wrap64 (15 + (Int.tmod t162 20))) (Int.tmod t163 30) (Int.tmod t164 30) (Int.tmod t165 10) t166 t167 t168 true) else (if (Int.tmod t169 25) < 20 then (if (wrap64 (80 * t171)) < (wrap64 ((wrap64 (20 - (Int.tmod t169 25))) * (wrap64 ((wrap64 (t170 * 20)) - t171)))) then (laws_FnWarms.j0 k (wrap64 (15 + (Int.tmod t162 20))) (Int.tmod t163 30) (Int.tmod t164 30) (Int.tmod t165 10) t166 t167 t168 true) else (if t171 > 0 then (if (wrap64 (80 * (wrap64 (t171 - 1)))) ≥ (wrap64 ((wrap64 (20 - (Int.tmod t169 25))) * (wrap64 ((wrap64 ((wrap64 (t170 * 20)) - t171)) + 1)))) then (laws_FnWarms.j0 k (wrap64 (15 + (Int.tmod t162 20))) (Int.tmod t163 30) (Int.tmod t164 30) (Int.tmod t165 10) t166 t167 t168 true) else (if (Int.tmod t169 25) ≥ 20 then (if t171 = 0 then (laws_FnWarms.j0 k (wrap64 (15 + (Int.tmod t162 20))) (Int.tmod t163 30) (Int.tmod t164 30) (Int.tmod t165 10) t166 t167 t168 (decide (t171 > (wrap64 (t170 * 20))))) else (laws_FnWarms.j0 k (wrap64 (15 + (Int.tmod t162 20))) (Int.tmod t163 30) (Int.tmod t164 30) (Int.tmod t165 10) t166 t167 t168 true)) else (laws_FnWarms.j0 k (wrap64 (15 + (Int.tmod t162 20))) (Int.tmod t163 30) (Int.tmod t164 30) (Int.tmod t165 10) t166 t167 t168 (decide (t171 > (wrap64 (t170 * 20))))))) else (if (Int.tmod t169 25) ≥ 20 then (if t171 = 0 then (laws_FnWarms.j0 k (wrap64 (15 + (Int.tmod t162 20))) (Int.tmod t163 30) (Int.tmod t164 30) (Int.tmod t165 10) t166 t167 t168 (decide (t171 > (wrap64 (t170 * 20))))) else (laws_FnWarms.j0 k (wrap64 (15 + (Int.tmod t162 20))) (Int.tmod t163 30) (Int.tmod t164 30) (Int.tmod t165 10) t166 t167 t168 true)) else (laws_FnWarms.j0 k (wrap64 (15 + (Int.tmod t162 20))) (Int.tmod t163 30) (Int.tmod t164 30) (Int.tmod t165 10) t166 t167 t168 (decide (t171 > (wrap64 (t170 * 20)))))))) else (if (Int.tmod t169 25) ≥ 20 then (if t171 = 0 then (laws_FnWarms.j0 k (wrap64 (15 + (Int.tmod t162 20))) (Int.tmod t163 30) (Int.tmod t164 30) (Int.tmod t165 10) t166 t167 t168 (decide (t171 > (wrap64 (t170 * 20))))) else (laws_FnWarms.j0 k (wrap64 (15 + (Int.tmod t162 20))) (Int.tmod t163 30) (Int.tmod t164 30) (Int.tmod t165 10) t166 t167 t168 true)) else (laws_FnWarms.j0 k (wrap64 (15 + (Int.tmod t162 20))) (Int.tmod t163 30) (Int.tmod t164 30) (Int.tmod t165 10) t166 t167 t168 (decide (t171 > (wrap64 (t170 * 20))))))))))))))))))) = some r := H
 have A2 := Aside0.mk A20
 clear A20
 by_cases c3 : t161 = true
 ·subst c3
  have H1 : (some true) = some r := by rw [if_pos rfl] at H; exact H
  clear H
  have H := H1
  clear H1
  obtain rfl := Option.some.inj H
  go_enter Try.func10, Try.ntmps10
  go_wp2_with (first | ((with_reducible refine gate_callee (f := 26) rfl ?_); refine goesL_ (some 15) rfl rfl Try.func26 (by kernel_rfl) rfl #[.slice A0 l0.length c0] rfl (by (try simp only [List.map_toArray, List.map_cons, List.map_nil]); first | done | rfl | (simp only [List.length_drop, List.length_take]; rfl)) ?_; (with_reducible refine (laws_big.calls _ _ l0 true _ ?side1 ?side2 A2.out).mono ?_); (case side1 => repeat (first | exact HR0.out | (with_reducible refine Kd.C_alloc ?_ _) | (with_reducible refine Kd.C_drewN ?_ _) | (with_reducible refine Kd.C_drew ?_))); (case side2 => exact HC0.out); rintro e w' ⟨rfl, ⟨nd, rfl⟩⟩; refine ⟨_, rfl, ?_⟩))
  go_ret
  exact ⟨by first | rfl | (simp [errW_none, errW_some] <;> rfl) | (simp [*, errW_none, errW_some] <;> rfl), by repeat (first | (with_reducible first | exact HB.out | apply below_alloc | apply pw_below_drewN | apply below_drew1) | exact HB.out)⟩
 ·replace c3 := Bool.eq_false_iff.mpr c3
  subst c3
  have H1 : ((laws_at.f l0 0).bind fun t162 => ((laws_at.f l0 1).bind fun t163 => ((laws_at.f l0 2).bind fun t164 => ((laws_at.f l0 3).bind fun t165 => ((impl_WaterFor.f (wrap64 (15 + (Int.tmod t162 20))) (Int.tmod t163 30) (Int.tmod t164 30) (Int.tmod t165 10)).bind fun t166 => ((impl_DoughHeat.f k t166 (Int.tmod t163 30) (Int.tmod t164 30) (Int.tmod t165 10)).bind fun t167 => ((impl_CanReach.f (wrap64 (15 + (Int.tmod t162 20))) (Int.tmod t163 30) (Int.tmod t164 30) (Int.tmod t165 10)).bind fun t168 => ((laws_at.f l0 4).bind fun t169 => ((laws_at.f l0 5).bind fun t170 => ((impl_IceFor.f k (Int.tmod t169 25) (wrap64 (t170 * 20))).bind fun t171 => (if t171 < 0 then (laws_FnWarms.j0 k (wrap64 (15 + (Int.tmod t162 20))) (Int.tmod t163 30) (Int.tmod t164 30) (Int.tmod t165 10) t166 t167 t168 true) else (if (Int.tmod t169 25) < 20 then (if (wrap64 (80 * t171)) < (wrap64 ((wrap64 (20 - (Int.tmod t169 25))) * (wrap64 ((wrap64 (t170 * 20)) - t171)))) then (laws_FnWarms.j0 k (wrap64 (15 + (Int.tmod t162 20))) (Int.tmod t163 30) (Int.tmod t164 30) (Int.tmod t165 10) t166 t167 t168 true) else (if t171 > 0 then (if (wrap64 (80 * (wrap64 (t171 - 1)))) ≥ (wrap64 ((wrap64 (20 - (Int.tmod t169 25))) * (wrap64 ((wrap64 ((wrap64 (t170 * 20)) - t171)) + 1)))) then (laws_FnWarms.j0 k (wrap64 (15 + (Int.tmod t162 20))) (Int.tmod t163 30) (Int.tmod t164 30) (Int.tmod t165 10) t166 t167 t168 true) else (if (Int.tmod t169 25) ≥ 20 then (if t171 = 0 then (laws_FnWarms.j0 k (wrap64 (15 + (Int.tmod t162 20))) (Int.tmod t163 30) (Int.tmod t164 30) (Int.tmod t165 10) t166 t167 t168 (decide (t171 > (wrap64 (t170 * 20))))) else (laws_FnWarms.j0 k (wrap64 (15 + (Int.tmod t162 20))) (Int.tmod t163 30) (Int.tmod t164 30) (Int.tmod t165 10) t166 t167 t168 true)) else (laws_FnWarms.j0 k (wrap64 (15 + (Int.tmod t162 20))) (Int.tmod t163 30) (Int.tmod t164 30) (Int.tmod t165 10) t166 t167 t168 (decide (t171 > (wrap64 (t170 * 20))))))) else (if (Int.tmod t169 25) ≥ 20 then (if t171 = 0 then (laws_FnWarms.j0 k (wrap64 (15 + (Int.tmod t162 20))) (Int.tmod t163 30) (Int.tmod t164 30) (Int.tmod t165 10) t166 t167 t168 (decide (t171 > (wrap64 (t170 * 20))))) else (laws_FnWarms.j0 k (wrap64 (15 + (Int.tmod t162 20))) (Int.tmod t163 30) (Int.tmod t164 30) (Int.tmod t165 10) t166 t167 t168 true)) else (laws_FnWarms.j0 k (wrap64 (15 + (Int.tmod t162 20))) (Int.tmod t163 30) (Int.tmod t164 30) (Int.tmod t165 10) t166 t167 t168 (decide (t171 > (wrap64 (t170 * 20)))))))) else (if (Int.tmod t169 25) ≥ 20 then (if t171 = 0 then (laws_FnWarms.j0 k (wrap64 (15 + (Int.tmod t162 20))) (Int.tmod t163 30) (Int.tmod t164 30) (Int.tmod t165 10) t166 t167 t168 (decide (t171 > (wrap64 (t170 * 20))))) else (laws_FnWarms.j0 k (wrap64 (15 + (Int.tmod t162 20))) (Int.tmod t163 30) (Int.tmod t164 30) (Int.tmod t165 10) t166 t167 t168 true)) else (laws_FnWarms.j0 k (wrap64 (15 + (Int.tmod t162 20))) (Int.tmod t163 30) (Int.tmod t164 30) (Int.tmod t165 10) t166 t167 t168 (decide (t171 > (wrap64 (t170 * 20)))))))))))))))))) = some r := by rw [if_neg (show ¬ (false = true) by decide)] at H; exact H
  clear H
  have H := H1
  clear H1
  replace H := Option.bind_eq_some_iff.mp H
  obtain ⟨t162, A40, H⟩ := H
  replace H : ((laws_at.f l0 1).bind fun t163 => ((laws_at.f l0 2).bind fun t164 => ((laws_at.f l0 3).bind fun t165 => ((impl_WaterFor.f (wrap64 (15 + (Int.tmod t162 20))) (Int.tmod t163 30) (Int.tmod t164 30) (Int.tmod t165 10)).bind fun t166 => ((impl_DoughHeat.f k t166 (Int.tmod t163 30) (Int.tmod t164 30) (Int.tmod t165 10)).bind fun t167 => ((impl_CanReach.f (wrap64 (15 + (Int.tmod t162 20))) (Int.tmod t163 30) (Int.tmod t164 30) (Int.tmod t165 10)).bind fun t168 => ((laws_at.f l0 4).bind fun t169 => ((laws_at.f l0 5).bind fun t170 => ((impl_IceFor.f k (Int.tmod t169 25) (wrap64 (t170 * 20))).bind fun t171 => (if t171 < 0 then (laws_FnWarms.j0 k (wrap64 (15 + (Int.tmod t162 20))) (Int.tmod t163 30) (Int.tmod t164 30) (Int.tmod t165 10) t166 t167 t168 true) else (if (Int.tmod t169 25) < 20 then (if (wrap64 (80 * t171)) < (wrap64 ((wrap64 (20 - (Int.tmod t169 25))) * (wrap64 ((wrap64 (t170 * 20)) - t171)))) then (laws_FnWarms.j0 k (wrap64 (15 + (Int.tmod t162 20))) (Int.tmod t163 30) (Int.tmod t164 30) (Int.tmod t165 10) t166 t167 t168 true) else (if t171 > 0 then (if (wrap64 (80 * (wrap64 (t171 - 1)))) ≥ (wrap64 ((wrap64 (20 - (Int.tmod t169 25))) * (wrap64 ((wrap64 ((wrap64 (t170 * 20)) - t171)) + 1)))) then (laws_FnWarms.j0 k (wrap64 (15 + (Int.tmod t162 20))) (Int.tmod t163 30) (Int.tmod t164 30) (Int.tmod t165 10) t166 t167 t168 true) else (if (Int.tmod t169 25) ≥ 20 then (if t171 = 0 then (laws_FnWarms.j0 k (wrap64 (15 + (Int.tmod t162 20))) (Int.tmod t163 30) (Int.tmod t164 30) (Int.tmod t165 10) t166 t167 t168 (decide (t171 > (wrap64 (t170 * 20))))) else (laws_FnWarms.j0 k (wrap64 (15 + (Int.tmod t162 20))) (Int.tmod t163 30) (Int.tmod t164 30) (Int.tmod t165 10) t166 t167 t168 true)) else (laws_FnWarms.j0 k (wrap64 (15 + (Int.tmod t162 20))) (Int.tmod t163 30) (Int.tmod t164 30) (Int.tmod t165 10) t166 t167 t168 (decide (t171 > (wrap64 (t170 * 20))))))) else (if (Int.tmod t169 25) ≥ 20 then (if t171 = 0 then (laws_FnWarms.j0 k (wrap64 (15 + (Int.tmod t162 20))) (Int.tmod t163 30) (Int.tmod t164 30) (Int.tmod t165 10) t166 t167 t168 (decide (t171 > (wrap64 (t170 * 20))))) else (laws_FnWarms.j0 k (wrap64 (15 + (Int.tmod t162 20))) (Int.tmod t163 30) (Int.tmod t164 30) (Int.tmod t165 10) t166 t167 t168 true)) else (laws_FnWarms.j0 k (wrap64 (15 + (Int.tmod t162 20))) (Int.tmod t163 30) (Int.tmod t164 30) (Int.tmod t165 10) t166 t167 t168 (decide (t171 > (wrap64 (t170 * 20)))))))) else (if (Int.tmod t169 25) ≥ 20 then (if t171 = 0 then (laws_FnWarms.j0 k (wrap64 (15 + (Int.tmod t162 20))) (Int.tmod t163 30) (Int.tmod t164 30) (Int.tmod t165 10) t166 t167 t168 (decide (t171 > (wrap64 (t170 * 20))))) else (laws_FnWarms.j0 k (wrap64 (15 + (Int.tmod t162 20))) (Int.tmod t163 30) (Int.tmod t164 30) (Int.tmod t165 10) t166 t167 t168 true)) else (laws_FnWarms.j0 k (wrap64 (15 + (Int.tmod t162 20))) (Int.tmod t163 30) (Int.tmod t164 30) (Int.tmod t165 10) t166 t167 t168 (decide (t171 > (wrap64 (t170 * 20))))))))))))))))) = some r := H
  have A4 := Aside0.mk A40
  clear A40
  replace H := Option.bind_eq_some_iff.mp H
  obtain ⟨t163, A50, H⟩ := H
  replace H : ((laws_at.f l0 2).bind fun t164 => ((laws_at.f l0 3).bind fun t165 => ((impl_WaterFor.f (wrap64 (15 + (Int.tmod t162 20))) (Int.tmod t163 30) (Int.tmod t164 30) (Int.tmod t165 10)).bind fun t166 => ((impl_DoughHeat.f k t166 (Int.tmod t163 30) (Int.tmod t164 30) (Int.tmod t165 10)).bind fun t167 => ((impl_CanReach.f (wrap64 (15 + (Int.tmod t162 20))) (Int.tmod t163 30) (Int.tmod t164 30) (Int.tmod t165 10)).bind fun t168 => ((laws_at.f l0 4).bind fun t169 => ((laws_at.f l0 5).bind fun t170 => ((impl_IceFor.f k (Int.tmod t169 25) (wrap64 (t170 * 20))).bind fun t171 => (if t171 < 0 then (laws_FnWarms.j0 k (wrap64 (15 + (Int.tmod t162 20))) (Int.tmod t163 30) (Int.tmod t164 30) (Int.tmod t165 10) t166 t167 t168 true) else (if (Int.tmod t169 25) < 20 then (if (wrap64 (80 * t171)) < (wrap64 ((wrap64 (20 - (Int.tmod t169 25))) * (wrap64 ((wrap64 (t170 * 20)) - t171)))) then (laws_FnWarms.j0 k (wrap64 (15 + (Int.tmod t162 20))) (Int.tmod t163 30) (Int.tmod t164 30) (Int.tmod t165 10) t166 t167 t168 true) else (if t171 > 0 then (if (wrap64 (80 * (wrap64 (t171 - 1)))) ≥ (wrap64 ((wrap64 (20 - (Int.tmod t169 25))) * (wrap64 ((wrap64 ((wrap64 (t170 * 20)) - t171)) + 1)))) then (laws_FnWarms.j0 k (wrap64 (15 + (Int.tmod t162 20))) (Int.tmod t163 30) (Int.tmod t164 30) (Int.tmod t165 10) t166 t167 t168 true) else (if (Int.tmod t169 25) ≥ 20 then (if t171 = 0 then (laws_FnWarms.j0 k (wrap64 (15 + (Int.tmod t162 20))) (Int.tmod t163 30) (Int.tmod t164 30) (Int.tmod t165 10) t166 t167 t168 (decide (t171 > (wrap64 (t170 * 20))))) else (laws_FnWarms.j0 k (wrap64 (15 + (Int.tmod t162 20))) (Int.tmod t163 30) (Int.tmod t164 30) (Int.tmod t165 10) t166 t167 t168 true)) else (laws_FnWarms.j0 k (wrap64 (15 + (Int.tmod t162 20))) (Int.tmod t163 30) (Int.tmod t164 30) (Int.tmod t165 10) t166 t167 t168 (decide (t171 > (wrap64 (t170 * 20))))))) else (if (Int.tmod t169 25) ≥ 20 then (if t171 = 0 then (laws_FnWarms.j0 k (wrap64 (15 + (Int.tmod t162 20))) (Int.tmod t163 30) (Int.tmod t164 30) (Int.tmod t165 10) t166 t167 t168 (decide (t171 > (wrap64 (t170 * 20))))) else (laws_FnWarms.j0 k (wrap64 (15 + (Int.tmod t162 20))) (Int.tmod t163 30) (Int.tmod t164 30) (Int.tmod t165 10) t166 t167 t168 true)) else (laws_FnWarms.j0 k (wrap64 (15 + (Int.tmod t162 20))) (Int.tmod t163 30) (Int.tmod t164 30) (Int.tmod t165 10) t166 t167 t168 (decide (t171 > (wrap64 (t170 * 20)))))))) else (if (Int.tmod t169 25) ≥ 20 then (if t171 = 0 then (laws_FnWarms.j0 k (wrap64 (15 + (Int.tmod t162 20))) (Int.tmod t163 30) (Int.tmod t164 30) (Int.tmod t165 10) t166 t167 t168 (decide (t171 > (wrap64 (t170 * 20))))) else (laws_FnWarms.j0 k (wrap64 (15 + (Int.tmod t162 20))) (Int.tmod t163 30) (Int.tmod t164 30) (Int.tmod t165 10) t166 t167 t168 true)) else (laws_FnWarms.j0 k (wrap64 (15 + (Int.tmod t162 20))) (Int.tmod t163 30) (Int.tmod t164 30) (Int.tmod t165 10) t166 t167 t168 (decide (t171 > (wrap64 (t170 * 20)))))))))))))))) = some r := H
  have A5 := Aside0.mk A50
  clear A50
  replace H := Option.bind_eq_some_iff.mp H
  obtain ⟨t164, A60, H⟩ := H
  replace H : ((laws_at.f l0 3).bind fun t165 => ((impl_WaterFor.f (wrap64 (15 + (Int.tmod t162 20))) (Int.tmod t163 30) (Int.tmod t164 30) (Int.tmod t165 10)).bind fun t166 => ((impl_DoughHeat.f k t166 (Int.tmod t163 30) (Int.tmod t164 30) (Int.tmod t165 10)).bind fun t167 => ((impl_CanReach.f (wrap64 (15 + (Int.tmod t162 20))) (Int.tmod t163 30) (Int.tmod t164 30) (Int.tmod t165 10)).bind fun t168 => ((laws_at.f l0 4).bind fun t169 => ((laws_at.f l0 5).bind fun t170 => ((impl_IceFor.f k (Int.tmod t169 25) (wrap64 (t170 * 20))).bind fun t171 => (if t171 < 0 then (laws_FnWarms.j0 k (wrap64 (15 + (Int.tmod t162 20))) (Int.tmod t163 30) (Int.tmod t164 30) (Int.tmod t165 10) t166 t167 t168 true) else (if (Int.tmod t169 25) < 20 then (if (wrap64 (80 * t171)) < (wrap64 ((wrap64 (20 - (Int.tmod t169 25))) * (wrap64 ((wrap64 (t170 * 20)) - t171)))) then (laws_FnWarms.j0 k (wrap64 (15 + (Int.tmod t162 20))) (Int.tmod t163 30) (Int.tmod t164 30) (Int.tmod t165 10) t166 t167 t168 true) else (if t171 > 0 then (if (wrap64 (80 * (wrap64 (t171 - 1)))) ≥ (wrap64 ((wrap64 (20 - (Int.tmod t169 25))) * (wrap64 ((wrap64 ((wrap64 (t170 * 20)) - t171)) + 1)))) then (laws_FnWarms.j0 k (wrap64 (15 + (Int.tmod t162 20))) (Int.tmod t163 30) (Int.tmod t164 30) (Int.tmod t165 10) t166 t167 t168 true) else (if (Int.tmod t169 25) ≥ 20 then (if t171 = 0 then (laws_FnWarms.j0 k (wrap64 (15 + (Int.tmod t162 20))) (Int.tmod t163 30) (Int.tmod t164 30) (Int.tmod t165 10) t166 t167 t168 (decide (t171 > (wrap64 (t170 * 20))))) else (laws_FnWarms.j0 k (wrap64 (15 + (Int.tmod t162 20))) (Int.tmod t163 30) (Int.tmod t164 30) (Int.tmod t165 10) t166 t167 t168 true)) else (laws_FnWarms.j0 k (wrap64 (15 + (Int.tmod t162 20))) (Int.tmod t163 30) (Int.tmod t164 30) (Int.tmod t165 10) t166 t167 t168 (decide (t171 > (wrap64 (t170 * 20))))))) else (if (Int.tmod t169 25) ≥ 20 then (if t171 = 0 then (laws_FnWarms.j0 k (wrap64 (15 + (Int.tmod t162 20))) (Int.tmod t163 30) (Int.tmod t164 30) (Int.tmod t165 10) t166 t167 t168 (decide (t171 > (wrap64 (t170 * 20))))) else (laws_FnWarms.j0 k (wrap64 (15 + (Int.tmod t162 20))) (Int.tmod t163 30) (Int.tmod t164 30) (Int.tmod t165 10) t166 t167 t168 true)) else (laws_FnWarms.j0 k (wrap64 (15 + (Int.tmod t162 20))) (Int.tmod t163 30) (Int.tmod t164 30) (Int.tmod t165 10) t166 t167 t168 (decide (t171 > (wrap64 (t170 * 20)))))))) else (if (Int.tmod t169 25) ≥ 20 then (if t171 = 0 then (laws_FnWarms.j0 k (wrap64 (15 + (Int.tmod t162 20))) (Int.tmod t163 30) (Int.tmod t164 30) (Int.tmod t165 10) t166 t167 t168 (decide (t171 > (wrap64 (t170 * 20))))) else (laws_FnWarms.j0 k (wrap64 (15 + (Int.tmod t162 20))) (Int.tmod t163 30) (Int.tmod t164 30) (Int.tmod t165 10) t166 t167 t168 true)) else (laws_FnWarms.j0 k (wrap64 (15 + (Int.tmod t162 20))) (Int.tmod t163 30) (Int.tmod t164 30) (Int.tmod t165 10) t166 t167 t168 (decide (t171 > (wrap64 (t170 * 20))))))))))))))) = some r := H
  have A6 := Aside0.mk A60
  clear A60
  replace H := Option.bind_eq_some_iff.mp H
  obtain ⟨t165, A70, H⟩ := H
  replace H : ((impl_WaterFor.f (wrap64 (15 + (Int.tmod t162 20))) (Int.tmod t163 30) (Int.tmod t164 30) (Int.tmod t165 10)).bind fun t166 => ((impl_DoughHeat.f k t166 (Int.tmod t163 30) (Int.tmod t164 30) (Int.tmod t165 10)).bind fun t167 => ((impl_CanReach.f (wrap64 (15 + (Int.tmod t162 20))) (Int.tmod t163 30) (Int.tmod t164 30) (Int.tmod t165 10)).bind fun t168 => ((laws_at.f l0 4).bind fun t169 => ((laws_at.f l0 5).bind fun t170 => ((impl_IceFor.f k (Int.tmod t169 25) (wrap64 (t170 * 20))).bind fun t171 => (if t171 < 0 then (laws_FnWarms.j0 k (wrap64 (15 + (Int.tmod t162 20))) (Int.tmod t163 30) (Int.tmod t164 30) (Int.tmod t165 10) t166 t167 t168 true) else (if (Int.tmod t169 25) < 20 then (if (wrap64 (80 * t171)) < (wrap64 ((wrap64 (20 - (Int.tmod t169 25))) * (wrap64 ((wrap64 (t170 * 20)) - t171)))) then (laws_FnWarms.j0 k (wrap64 (15 + (Int.tmod t162 20))) (Int.tmod t163 30) (Int.tmod t164 30) (Int.tmod t165 10) t166 t167 t168 true) else (if t171 > 0 then (if (wrap64 (80 * (wrap64 (t171 - 1)))) ≥ (wrap64 ((wrap64 (20 - (Int.tmod t169 25))) * (wrap64 ((wrap64 ((wrap64 (t170 * 20)) - t171)) + 1)))) then (laws_FnWarms.j0 k (wrap64 (15 + (Int.tmod t162 20))) (Int.tmod t163 30) (Int.tmod t164 30) (Int.tmod t165 10) t166 t167 t168 true) else (if (Int.tmod t169 25) ≥ 20 then (if t171 = 0 then (laws_FnWarms.j0 k (wrap64 (15 + (Int.tmod t162 20))) (Int.tmod t163 30) (Int.tmod t164 30) (Int.tmod t165 10) t166 t167 t168 (decide (t171 > (wrap64 (t170 * 20))))) else (laws_FnWarms.j0 k (wrap64 (15 + (Int.tmod t162 20))) (Int.tmod t163 30) (Int.tmod t164 30) (Int.tmod t165 10) t166 t167 t168 true)) else (laws_FnWarms.j0 k (wrap64 (15 + (Int.tmod t162 20))) (Int.tmod t163 30) (Int.tmod t164 30) (Int.tmod t165 10) t166 t167 t168 (decide (t171 > (wrap64 (t170 * 20))))))) else (if (Int.tmod t169 25) ≥ 20 then (if t171 = 0 then (laws_FnWarms.j0 k (wrap64 (15 + (Int.tmod t162 20))) (Int.tmod t163 30) (Int.tmod t164 30) (Int.tmod t165 10) t166 t167 t168 (decide (t171 > (wrap64 (t170 * 20))))) else (laws_FnWarms.j0 k (wrap64 (15 + (Int.tmod t162 20))) (Int.tmod t163 30) (Int.tmod t164 30) (Int.tmod t165 10) t166 t167 t168 true)) else (laws_FnWarms.j0 k (wrap64 (15 + (Int.tmod t162 20))) (Int.tmod t163 30) (Int.tmod t164 30) (Int.tmod t165 10) t166 t167 t168 (decide (t171 > (wrap64 (t170 * 20)))))))) else (if (Int.tmod t169 25) ≥ 20 then (if t171 = 0 then (laws_FnWarms.j0 k (wrap64 (15 + (Int.tmod t162 20))) (Int.tmod t163 30) (Int.tmod t164 30) (Int.tmod t165 10) t166 t167 t168 (decide (t171 > (wrap64 (t170 * 20))))) else (laws_FnWarms.j0 k (wrap64 (15 + (Int.tmod t162 20))) (Int.tmod t163 30) (Int.tmod t164 30) (Int.tmod t165 10) t166 t167 t168 true)) else (laws_FnWarms.j0 k (wrap64 (15 + (Int.tmod t162 20))) (Int.tmod t163 30) (Int.tmod t164 30) (Int.tmod t165 10) t166 t167 t168 (decide (t171 > (wrap64 (t170 * 20)))))))))))))) = some r := H
  have A7 := Aside0.mk A70
  clear A70
  replace H := Option.bind_eq_some_iff.mp H
  obtain ⟨t166, A80, H⟩ := H
  replace H : ((impl_DoughHeat.f k t166 (Int.tmod t163 30) (Int.tmod t164 30) (Int.tmod t165 10)).bind fun t167 => ((impl_CanReach.f (wrap64 (15 + (Int.tmod t162 20))) (Int.tmod t163 30) (Int.tmod t164 30) (Int.tmod t165 10)).bind fun t168 => ((laws_at.f l0 4).bind fun t169 => ((laws_at.f l0 5).bind fun t170 => ((impl_IceFor.f k (Int.tmod t169 25) (wrap64 (t170 * 20))).bind fun t171 => (if t171 < 0 then (laws_FnWarms.j0 k (wrap64 (15 + (Int.tmod t162 20))) (Int.tmod t163 30) (Int.tmod t164 30) (Int.tmod t165 10) t166 t167 t168 true) else (if (Int.tmod t169 25) < 20 then (if (wrap64 (80 * t171)) < (wrap64 ((wrap64 (20 - (Int.tmod t169 25))) * (wrap64 ((wrap64 (t170 * 20)) - t171)))) then (laws_FnWarms.j0 k (wrap64 (15 + (Int.tmod t162 20))) (Int.tmod t163 30) (Int.tmod t164 30) (Int.tmod t165 10) t166 t167 t168 true) else (if t171 > 0 then (if (wrap64 (80 * (wrap64 (t171 - 1)))) ≥ (wrap64 ((wrap64 (20 - (Int.tmod t169 25))) * (wrap64 ((wrap64 ((wrap64 (t170 * 20)) - t171)) + 1)))) then (laws_FnWarms.j0 k (wrap64 (15 + (Int.tmod t162 20))) (Int.tmod t163 30) (Int.tmod t164 30) (Int.tmod t165 10) t166 t167 t168 true) else (if (Int.tmod t169 25) ≥ 20 then (if t171 = 0 then (laws_FnWarms.j0 k (wrap64 (15 + (Int.tmod t162 20))) (Int.tmod t163 30) (Int.tmod t164 30) (Int.tmod t165 10) t166 t167 t168 (decide (t171 > (wrap64 (t170 * 20))))) else (laws_FnWarms.j0 k (wrap64 (15 + (Int.tmod t162 20))) (Int.tmod t163 30) (Int.tmod t164 30) (Int.tmod t165 10) t166 t167 t168 true)) else (laws_FnWarms.j0 k (wrap64 (15 + (Int.tmod t162 20))) (Int.tmod t163 30) (Int.tmod t164 30) (Int.tmod t165 10) t166 t167 t168 (decide (t171 > (wrap64 (t170 * 20))))))) else (if (Int.tmod t169 25) ≥ 20 then (if t171 = 0 then (laws_FnWarms.j0 k (wrap64 (15 + (Int.tmod t162 20))) (Int.tmod t163 30) (Int.tmod t164 30) (Int.tmod t165 10) t166 t167 t168 (decide (t171 > (wrap64 (t170 * 20))))) else (laws_FnWarms.j0 k (wrap64 (15 + (Int.tmod t162 20))) (Int.tmod t163 30) (Int.tmod t164 30) (Int.tmod t165 10) t166 t167 t168 true)) else (laws_FnWarms.j0 k (wrap64 (15 + (Int.tmod t162 20))) (Int.tmod t163 30) (Int.tmod t164 30) (Int.tmod t165 10) t166 t167 t168 (decide (t171 > (wrap64 (t170 * 20)))))))) else (if (Int.tmod t169 25) ≥ 20 then (if t171 = 0 then (laws_FnWarms.j0 k (wrap64 (15 + (Int.tmod t162 20))) (Int.tmod t163 30) (Int.tmod t164 30) (Int.tmod t165 10) t166 t167 t168 (decide (t171 > (wrap64 (t170 * 20))))) else (laws_FnWarms.j0 k (wrap64 (15 + (Int.tmod t162 20))) (Int.tmod t163 30) (Int.tmod t164 30) (Int.tmod t165 10) t166 t167 t168 true)) else (laws_FnWarms.j0 k (wrap64 (15 + (Int.tmod t162 20))) (Int.tmod t163 30) (Int.tmod t164 30) (Int.tmod t165 10) t166 t167 t168 (decide (t171 > (wrap64 (t170 * 20))))))))))))) = some r := H
  have A8 := Aside0.mk A80
  clear A80
  replace H := Option.bind_eq_some_iff.mp H
  obtain ⟨t167, A90, H⟩ := H
  replace H : ((impl_CanReach.f (wrap64 (15 + (Int.tmod t162 20))) (Int.tmod t163 30) (Int.tmod t164 30) (Int.tmod t165 10)).bind fun t168 => ((laws_at.f l0 4).bind fun t169 => ((laws_at.f l0 5).bind fun t170 => ((impl_IceFor.f k (Int.tmod t169 25) (wrap64 (t170 * 20))).bind fun t171 => (if t171 < 0 then (laws_FnWarms.j0 k (wrap64 (15 + (Int.tmod t162 20))) (Int.tmod t163 30) (Int.tmod t164 30) (Int.tmod t165 10) t166 t167 t168 true) else (if (Int.tmod t169 25) < 20 then (if (wrap64 (80 * t171)) < (wrap64 ((wrap64 (20 - (Int.tmod t169 25))) * (wrap64 ((wrap64 (t170 * 20)) - t171)))) then (laws_FnWarms.j0 k (wrap64 (15 + (Int.tmod t162 20))) (Int.tmod t163 30) (Int.tmod t164 30) (Int.tmod t165 10) t166 t167 t168 true) else (if t171 > 0 then (if (wrap64 (80 * (wrap64 (t171 - 1)))) ≥ (wrap64 ((wrap64 (20 - (Int.tmod t169 25))) * (wrap64 ((wrap64 ((wrap64 (t170 * 20)) - t171)) + 1)))) then (laws_FnWarms.j0 k (wrap64 (15 + (Int.tmod t162 20))) (Int.tmod t163 30) (Int.tmod t164 30) (Int.tmod t165 10) t166 t167 t168 true) else (if (Int.tmod t169 25) ≥ 20 then (if t171 = 0 then (laws_FnWarms.j0 k (wrap64 (15 + (Int.tmod t162 20))) (Int.tmod t163 30) (Int.tmod t164 30) (Int.tmod t165 10) t166 t167 t168 (decide (t171 > (wrap64 (t170 * 20))))) else (laws_FnWarms.j0 k (wrap64 (15 + (Int.tmod t162 20))) (Int.tmod t163 30) (Int.tmod t164 30) (Int.tmod t165 10) t166 t167 t168 true)) else (laws_FnWarms.j0 k (wrap64 (15 + (Int.tmod t162 20))) (Int.tmod t163 30) (Int.tmod t164 30) (Int.tmod t165 10) t166 t167 t168 (decide (t171 > (wrap64 (t170 * 20))))))) else (if (Int.tmod t169 25) ≥ 20 then (if t171 = 0 then (laws_FnWarms.j0 k (wrap64 (15 + (Int.tmod t162 20))) (Int.tmod t163 30) (Int.tmod t164 30) (Int.tmod t165 10) t166 t167 t168 (decide (t171 > (wrap64 (t170 * 20))))) else (laws_FnWarms.j0 k (wrap64 (15 + (Int.tmod t162 20))) (Int.tmod t163 30) (Int.tmod t164 30) (Int.tmod t165 10) t166 t167 t168 true)) else (laws_FnWarms.j0 k (wrap64 (15 + (Int.tmod t162 20))) (Int.tmod t163 30) (Int.tmod t164 30) (Int.tmod t165 10) t166 t167 t168 (decide (t171 > (wrap64 (t170 * 20)))))))) else (if (Int.tmod t169 25) ≥ 20 then (if t171 = 0 then (laws_FnWarms.j0 k (wrap64 (15 + (Int.tmod t162 20))) (Int.tmod t163 30) (Int.tmod t164 30) (Int.tmod t165 10) t166 t167 t168 (decide (t171 > (wrap64 (t170 * 20))))) else (laws_FnWarms.j0 k (wrap64 (15 + (Int.tmod t162 20))) (Int.tmod t163 30) (Int.tmod t164 30) (Int.tmod t165 10) t166 t167 t168 true)) else (laws_FnWarms.j0 k (wrap64 (15 + (Int.tmod t162 20))) (Int.tmod t163 30) (Int.tmod t164 30) (Int.tmod t165 10) t166 t167 t168 (decide (t171 > (wrap64 (t170 * 20)))))))))))) = some r := H
  have A9 := Aside0.mk A90
  clear A90
  replace H := Option.bind_eq_some_iff.mp H
  obtain ⟨t168, A100, H⟩ := H
  replace H : ((laws_at.f l0 4).bind fun t169 => ((laws_at.f l0 5).bind fun t170 => ((impl_IceFor.f k (Int.tmod t169 25) (wrap64 (t170 * 20))).bind fun t171 => (if t171 < 0 then (laws_FnWarms.j0 k (wrap64 (15 + (Int.tmod t162 20))) (Int.tmod t163 30) (Int.tmod t164 30) (Int.tmod t165 10) t166 t167 t168 true) else (if (Int.tmod t169 25) < 20 then (if (wrap64 (80 * t171)) < (wrap64 ((wrap64 (20 - (Int.tmod t169 25))) * (wrap64 ((wrap64 (t170 * 20)) - t171)))) then (laws_FnWarms.j0 k (wrap64 (15 + (Int.tmod t162 20))) (Int.tmod t163 30) (Int.tmod t164 30) (Int.tmod t165 10) t166 t167 t168 true) else (if t171 > 0 then (if (wrap64 (80 * (wrap64 (t171 - 1)))) ≥ (wrap64 ((wrap64 (20 - (Int.tmod t169 25))) * (wrap64 ((wrap64 ((wrap64 (t170 * 20)) - t171)) + 1)))) then (laws_FnWarms.j0 k (wrap64 (15 + (Int.tmod t162 20))) (Int.tmod t163 30) (Int.tmod t164 30) (Int.tmod t165 10) t166 t167 t168 true) else (if (Int.tmod t169 25) ≥ 20 then (if t171 = 0 then (laws_FnWarms.j0 k (wrap64 (15 + (Int.tmod t162 20))) (Int.tmod t163 30) (Int.tmod t164 30) (Int.tmod t165 10) t166 t167 t168 (decide (t171 > (wrap64 (t170 * 20))))) else (laws_FnWarms.j0 k (wrap64 (15 + (Int.tmod t162 20))) (Int.tmod t163 30) (Int.tmod t164 30) (Int.tmod t165 10) t166 t167 t168 true)) else (laws_FnWarms.j0 k (wrap64 (15 + (Int.tmod t162 20))) (Int.tmod t163 30) (Int.tmod t164 30) (Int.tmod t165 10) t166 t167 t168 (decide (t171 > (wrap64 (t170 * 20))))))) else (if (Int.tmod t169 25) ≥ 20 then (if t171 = 0 then (laws_FnWarms.j0 k (wrap64 (15 + (Int.tmod t162 20))) (Int.tmod t163 30) (Int.tmod t164 30) (Int.tmod t165 10) t166 t167 t168 (decide (t171 > (wrap64 (t170 * 20))))) else (laws_FnWarms.j0 k (wrap64 (15 + (Int.tmod t162 20))) (Int.tmod t163 30) (Int.tmod t164 30) (Int.tmod t165 10) t166 t167 t168 true)) else (laws_FnWarms.j0 k (wrap64 (15 + (Int.tmod t162 20))) (Int.tmod t163 30) (Int.tmod t164 30) (Int.tmod t165 10) t166 t167 t168 (decide (t171 > (wrap64 (t170 * 20)))))))) else (if (Int.tmod t169 25) ≥ 20 then (if t171 = 0 then (laws_FnWarms.j0 k (wrap64 (15 + (Int.tmod t162 20))) (Int.tmod t163 30) (Int.tmod t164 30) (Int.tmod t165 10) t166 t167 t168 (decide (t171 > (wrap64 (t170 * 20))))) else (laws_FnWarms.j0 k (wrap64 (15 + (Int.tmod t162 20))) (Int.tmod t163 30) (Int.tmod t164 30) (Int.tmod t165 10) t166 t167 t168 true)) else (laws_FnWarms.j0 k (wrap64 (15 + (Int.tmod t162 20))) (Int.tmod t163 30) (Int.tmod t164 30) (Int.tmod t165 10) t166 t167 t168 (decide (t171 > (wrap64 (t170 * 20))))))))))) = some r := H
  have A10 := Aside0.mk A100
  clear A100
  replace H := Option.bind_eq_some_iff.mp H
  obtain ⟨t169, A110, H⟩ := H
  replace H : ((laws_at.f l0 5).bind fun t170 => ((impl_IceFor.f k (Int.tmod t169 25) (wrap64 (t170 * 20))).bind fun t171 => (if t171 < 0 then (laws_FnWarms.j0 k (wrap64 (15 + (Int.tmod t162 20))) (Int.tmod t163 30) (Int.tmod t164 30) (Int.tmod t165 10) t166 t167 t168 true) else (if (Int.tmod t169 25) < 20 then (if (wrap64 (80 * t171)) < (wrap64 ((wrap64 (20 - (Int.tmod t169 25))) * (wrap64 ((wrap64 (t170 * 20)) - t171)))) then (laws_FnWarms.j0 k (wrap64 (15 + (Int.tmod t162 20))) (Int.tmod t163 30) (Int.tmod t164 30) (Int.tmod t165 10) t166 t167 t168 true) else (if t171 > 0 then (if (wrap64 (80 * (wrap64 (t171 - 1)))) ≥ (wrap64 ((wrap64 (20 - (Int.tmod t169 25))) * (wrap64 ((wrap64 ((wrap64 (t170 * 20)) - t171)) + 1)))) then (laws_FnWarms.j0 k (wrap64 (15 + (Int.tmod t162 20))) (Int.tmod t163 30) (Int.tmod t164 30) (Int.tmod t165 10) t166 t167 t168 true) else (if (Int.tmod t169 25) ≥ 20 then (if t171 = 0 then (laws_FnWarms.j0 k (wrap64 (15 + (Int.tmod t162 20))) (Int.tmod t163 30) (Int.tmod t164 30) (Int.tmod t165 10) t166 t167 t168 (decide (t171 > (wrap64 (t170 * 20))))) else (laws_FnWarms.j0 k (wrap64 (15 + (Int.tmod t162 20))) (Int.tmod t163 30) (Int.tmod t164 30) (Int.tmod t165 10) t166 t167 t168 true)) else (laws_FnWarms.j0 k (wrap64 (15 + (Int.tmod t162 20))) (Int.tmod t163 30) (Int.tmod t164 30) (Int.tmod t165 10) t166 t167 t168 (decide (t171 > (wrap64 (t170 * 20))))))) else (if (Int.tmod t169 25) ≥ 20 then (if t171 = 0 then (laws_FnWarms.j0 k (wrap64 (15 + (Int.tmod t162 20))) (Int.tmod t163 30) (Int.tmod t164 30) (Int.tmod t165 10) t166 t167 t168 (decide (t171 > (wrap64 (t170 * 20))))) else (laws_FnWarms.j0 k (wrap64 (15 + (Int.tmod t162 20))) (Int.tmod t163 30) (Int.tmod t164 30) (Int.tmod t165 10) t166 t167 t168 true)) else (laws_FnWarms.j0 k (wrap64 (15 + (Int.tmod t162 20))) (Int.tmod t163 30) (Int.tmod t164 30) (Int.tmod t165 10) t166 t167 t168 (decide (t171 > (wrap64 (t170 * 20)))))))) else (if (Int.tmod t169 25) ≥ 20 then (if t171 = 0 then (laws_FnWarms.j0 k (wrap64 (15 + (Int.tmod t162 20))) (Int.tmod t163 30) (Int.tmod t164 30) (Int.tmod t165 10) t166 t167 t168 (decide (t171 > (wrap64 (t170 * 20))))) else (laws_FnWarms.j0 k (wrap64 (15 + (Int.tmod t162 20))) (Int.tmod t163 30) (Int.tmod t164 30) (Int.tmod t165 10) t166 t167 t168 true)) else (laws_FnWarms.j0 k (wrap64 (15 + (Int.tmod t162 20))) (Int.tmod t163 30) (Int.tmod t164 30) (Int.tmod t165 10) t166 t167 t168 (decide (t171 > (wrap64 (t170 * 20)))))))))) = some r := H
  have A11 := Aside0.mk A110
  clear A110
  replace H := Option.bind_eq_some_iff.mp H
  obtain ⟨t170, A120, H⟩ := H
  replace H : ((impl_IceFor.f k (Int.tmod t169 25) (wrap64 (t170 * 20))).bind fun t171 => (if t171 < 0 then (laws_FnWarms.j0 k (wrap64 (15 + (Int.tmod t162 20))) (Int.tmod t163 30) (Int.tmod t164 30) (Int.tmod t165 10) t166 t167 t168 true) else (if (Int.tmod t169 25) < 20 then (if (wrap64 (80 * t171)) < (wrap64 ((wrap64 (20 - (Int.tmod t169 25))) * (wrap64 ((wrap64 (t170 * 20)) - t171)))) then (laws_FnWarms.j0 k (wrap64 (15 + (Int.tmod t162 20))) (Int.tmod t163 30) (Int.tmod t164 30) (Int.tmod t165 10) t166 t167 t168 true) else (if t171 > 0 then (if (wrap64 (80 * (wrap64 (t171 - 1)))) ≥ (wrap64 ((wrap64 (20 - (Int.tmod t169 25))) * (wrap64 ((wrap64 ((wrap64 (t170 * 20)) - t171)) + 1)))) then (laws_FnWarms.j0 k (wrap64 (15 + (Int.tmod t162 20))) (Int.tmod t163 30) (Int.tmod t164 30) (Int.tmod t165 10) t166 t167 t168 true) else (if (Int.tmod t169 25) ≥ 20 then (if t171 = 0 then (laws_FnWarms.j0 k (wrap64 (15 + (Int.tmod t162 20))) (Int.tmod t163 30) (Int.tmod t164 30) (Int.tmod t165 10) t166 t167 t168 (decide (t171 > (wrap64 (t170 * 20))))) else (laws_FnWarms.j0 k (wrap64 (15 + (Int.tmod t162 20))) (Int.tmod t163 30) (Int.tmod t164 30) (Int.tmod t165 10) t166 t167 t168 true)) else (laws_FnWarms.j0 k (wrap64 (15 + (Int.tmod t162 20))) (Int.tmod t163 30) (Int.tmod t164 30) (Int.tmod t165 10) t166 t167 t168 (decide (t171 > (wrap64 (t170 * 20))))))) else (if (Int.tmod t169 25) ≥ 20 then (if t171 = 0 then (laws_FnWarms.j0 k (wrap64 (15 + (Int.tmod t162 20))) (Int.tmod t163 30) (Int.tmod t164 30) (Int.tmod t165 10) t166 t167 t168 (decide (t171 > (wrap64 (t170 * 20))))) else (laws_FnWarms.j0 k (wrap64 (15 + (Int.tmod t162 20))) (Int.tmod t163 30) (Int.tmod t164 30) (Int.tmod t165 10) t166 t167 t168 true)) else (laws_FnWarms.j0 k (wrap64 (15 + (Int.tmod t162 20))) (Int.tmod t163 30) (Int.tmod t164 30) (Int.tmod t165 10) t166 t167 t168 (decide (t171 > (wrap64 (t170 * 20)))))))) else (if (Int.tmod t169 25) ≥ 20 then (if t171 = 0 then (laws_FnWarms.j0 k (wrap64 (15 + (Int.tmod t162 20))) (Int.tmod t163 30) (Int.tmod t164 30) (Int.tmod t165 10) t166 t167 t168 (decide (t171 > (wrap64 (t170 * 20))))) else (laws_FnWarms.j0 k (wrap64 (15 + (Int.tmod t162 20))) (Int.tmod t163 30) (Int.tmod t164 30) (Int.tmod t165 10) t166 t167 t168 true)) else (laws_FnWarms.j0 k (wrap64 (15 + (Int.tmod t162 20))) (Int.tmod t163 30) (Int.tmod t164 30) (Int.tmod t165 10) t166 t167 t168 (decide (t171 > (wrap64 (t170 * 20))))))))) = some r := H
  have A12 := Aside0.mk A120
  clear A120
  replace H := Option.bind_eq_some_iff.mp H
  obtain ⟨t171, A130, H⟩ := H
  replace H : (if t171 < 0 then (laws_FnWarms.j0 k (wrap64 (15 + (Int.tmod t162 20))) (Int.tmod t163 30) (Int.tmod t164 30) (Int.tmod t165 10) t166 t167 t168 true) else (if (Int.tmod t169 25) < 20 then (if (wrap64 (80 * t171)) < (wrap64 ((wrap64 (20 - (Int.tmod t169 25))) * (wrap64 ((wrap64 (t170 * 20)) - t171)))) then (laws_FnWarms.j0 k (wrap64 (15 + (Int.tmod t162 20))) (Int.tmod t163 30) (Int.tmod t164 30) (Int.tmod t165 10) t166 t167 t168 true) else (if t171 > 0 then (if (wrap64 (80 * (wrap64 (t171 - 1)))) ≥ (wrap64 ((wrap64 (20 - (Int.tmod t169 25))) * (wrap64 ((wrap64 ((wrap64 (t170 * 20)) - t171)) + 1)))) then (laws_FnWarms.j0 k (wrap64 (15 + (Int.tmod t162 20))) (Int.tmod t163 30) (Int.tmod t164 30) (Int.tmod t165 10) t166 t167 t168 true) else (if (Int.tmod t169 25) ≥ 20 then (if t171 = 0 then (laws_FnWarms.j0 k (wrap64 (15 + (Int.tmod t162 20))) (Int.tmod t163 30) (Int.tmod t164 30) (Int.tmod t165 10) t166 t167 t168 (decide (t171 > (wrap64 (t170 * 20))))) else (laws_FnWarms.j0 k (wrap64 (15 + (Int.tmod t162 20))) (Int.tmod t163 30) (Int.tmod t164 30) (Int.tmod t165 10) t166 t167 t168 true)) else (laws_FnWarms.j0 k (wrap64 (15 + (Int.tmod t162 20))) (Int.tmod t163 30) (Int.tmod t164 30) (Int.tmod t165 10) t166 t167 t168 (decide (t171 > (wrap64 (t170 * 20))))))) else (if (Int.tmod t169 25) ≥ 20 then (if t171 = 0 then (laws_FnWarms.j0 k (wrap64 (15 + (Int.tmod t162 20))) (Int.tmod t163 30) (Int.tmod t164 30) (Int.tmod t165 10) t166 t167 t168 (decide (t171 > (wrap64 (t170 * 20))))) else (laws_FnWarms.j0 k (wrap64 (15 + (Int.tmod t162 20))) (Int.tmod t163 30) (Int.tmod t164 30) (Int.tmod t165 10) t166 t167 t168 true)) else (laws_FnWarms.j0 k (wrap64 (15 + (Int.tmod t162 20))) (Int.tmod t163 30) (Int.tmod t164 30) (Int.tmod t165 10) t166 t167 t168 (decide (t171 > (wrap64 (t170 * 20)))))))) else (if (Int.tmod t169 25) ≥ 20 then (if t171 = 0 then (laws_FnWarms.j0 k (wrap64 (15 + (Int.tmod t162 20))) (Int.tmod t163 30) (Int.tmod t164 30) (Int.tmod t165 10) t166 t167 t168 (decide (t171 > (wrap64 (t170 * 20))))) else (laws_FnWarms.j0 k (wrap64 (15 + (Int.tmod t162 20))) (Int.tmod t163 30) (Int.tmod t164 30) (Int.tmod t165 10) t166 t167 t168 true)) else (laws_FnWarms.j0 k (wrap64 (15 + (Int.tmod t162 20))) (Int.tmod t163 30) (Int.tmod t164 30) (Int.tmod t165 10) t166 t167 t168 (decide (t171 > (wrap64 (t170 * 20)))))))) = some r := H
  have A13 := Aside0.mk A130
  clear A130
  have HC14 := Aside0.mk H
  clear H
  go_enter Try.func10, Try.ntmps10
  go_upto_region 13 with (first | ((with_reducible refine gate_callee (f := 26) rfl ?_); refine goesL_ (some 15) rfl rfl Try.func26 (by kernel_rfl) rfl #[.slice A0 l0.length c0] rfl (by (try simp only [List.map_toArray, List.map_cons, List.map_nil]); first | done | rfl | (simp only [List.length_drop, List.length_take]; rfl)) ?_; (with_reducible refine (laws_big.calls _ _ l0 false _ ?side1 ?side2 A2.out).mono ?_); (case side1 => repeat (first | exact HR0.out | (with_reducible refine Kd.C_alloc ?_ _) | (with_reducible refine Kd.C_drewN ?_ _) | (with_reducible refine Kd.C_drew ?_))); (case side2 => exact HC0.out); rintro e w' ⟨rfl, ⟨nd, rfl⟩⟩; refine ⟨_, rfl, ?_⟩) | ((with_reducible refine gate_callee (f := 27) rfl ?_); refine goesL_ (some 17) rfl rfl Try.func27 (by kernel_rfl) rfl #[.slice A0 l0.length c0, .int .i64 0] rfl (by (try simp only [List.map_toArray, List.map_cons, List.map_nil]); first | done | rfl | (simp only [List.length_drop, List.length_take]; rfl)) ?_; (with_reducible refine (laws_at.calls _ _ l0 0 t162 _ ?side1 ?side2 A4.out).mono ?_); (case side1 => repeat (first | exact HR0.out | (with_reducible refine Kd.C_alloc ?_ _) | (with_reducible refine Kd.C_drewN ?_ _) | (with_reducible refine Kd.C_drew ?_))); (case side2 => exact HC0.out); rintro e w' ⟨rfl, ⟨nd, rfl⟩⟩; refine ⟨_, rfl, ?_⟩) | ((with_reducible refine gate_callee (f := 27) rfl ?_); refine goesL_ (some 21) rfl rfl Try.func27 (by kernel_rfl) rfl #[.slice A0 l0.length c0, .int .i64 1] rfl (by (try simp only [List.map_toArray, List.map_cons, List.map_nil]); first | done | rfl | (simp only [List.length_drop, List.length_take]; rfl)) ?_; (with_reducible refine (laws_at.calls _ _ l0 1 t163 _ ?side1 ?side2 A5.out).mono ?_); (case side1 => repeat (first | exact HR0.out | (with_reducible refine Kd.C_alloc ?_ _) | (with_reducible refine Kd.C_drewN ?_ _) | (with_reducible refine Kd.C_drew ?_))); (case side2 => exact HC0.out); rintro e w' ⟨rfl, ⟨nd, rfl⟩⟩; refine ⟨_, rfl, ?_⟩) | ((with_reducible refine gate_callee (f := 27) rfl ?_); refine goesL_ (some 24) rfl rfl Try.func27 (by kernel_rfl) rfl #[.slice A0 l0.length c0, .int .i64 2] rfl (by (try simp only [List.map_toArray, List.map_cons, List.map_nil]); first | done | rfl | (simp only [List.length_drop, List.length_take]; rfl)) ?_; (with_reducible refine (laws_at.calls _ _ l0 2 t164 _ ?side1 ?side2 A6.out).mono ?_); (case side1 => repeat (first | exact HR0.out | (with_reducible refine Kd.C_alloc ?_ _) | (with_reducible refine Kd.C_drewN ?_ _) | (with_reducible refine Kd.C_drew ?_))); (case side2 => exact HC0.out); rintro e w' ⟨rfl, ⟨nd, rfl⟩⟩; refine ⟨_, rfl, ?_⟩) | ((with_reducible refine gate_callee (f := 27) rfl ?_); refine goesL_ (some 27) rfl rfl Try.func27 (by kernel_rfl) rfl #[.slice A0 l0.length c0, .int .i64 3] rfl (by (try simp only [List.map_toArray, List.map_cons, List.map_nil]); first | done | rfl | (simp only [List.length_drop, List.length_take]; rfl)) ?_; (with_reducible refine (laws_at.calls _ _ l0 3 t165 _ ?side1 ?side2 A7.out).mono ?_); (case side1 => repeat (first | exact HR0.out | (with_reducible refine Kd.C_alloc ?_ _) | (with_reducible refine Kd.C_drewN ?_ _) | (with_reducible refine Kd.C_drew ?_))); (case side2 => exact HC0.out); rintro e w' ⟨rfl, ⟨nd, rfl⟩⟩; refine ⟨_, rfl, ?_⟩) | ((with_reducible refine gate_callee (f := 19) rfl ?_); refine goesL_ (some 33) rfl rfl Try.func19 (by kernel_rfl) rfl #[.int .i64 (wrap64 (15 + (Int.tmod t162 20))), .int .i64 (Int.tmod t163 30), .int .i64 (Int.tmod t164 30), .int .i64 (Int.tmod t165 10)] rfl (by (try simp only [List.map_toArray, List.map_cons, List.map_nil]); first | done | rfl | (simp only [List.length_drop, List.length_take]; rfl)) ?_; (with_reducible refine (impl_WaterFor.calls (wrap64 (15 + (Int.tmod t162 20))) (Int.tmod t163 30) (Int.tmod t164 30) (Int.tmod t165 10) t166 _ A8.out).mono ?_); rintro e w15 ⟨rfl, hb⟩; refine ⟨_, rfl, ?_⟩; have n0_ := Aside0.mk (below_step (by repeat (first | (with_reducible first | exact HB.out | apply below_alloc | apply pw_below_drewN | apply below_drew1) | exact HB.out)) hb); clear HB; have HB := n0_; clear n0_; (try clear hb); (try clear hb2); (try clear hk); (try clear hi)) | ((with_reducible refine gate_callee (f := 23) rfl ?_); refine goesL_ (some 38) rfl rfl Try.func23 (by kernel_rfl) rfl #[.int .i64 t166, .int .i64 (Int.tmod t163 30), .int .i64 (Int.tmod t164 30), .int .i64 (Int.tmod t165 10)] rfl (by (try simp only [List.map_toArray, List.map_cons, List.map_nil]); first | done | rfl | (simp only [List.length_drop, List.length_take]; rfl)) ?_; (with_reducible refine (impl_DoughHeat.calls k t166 (Int.tmod t163 30) (Int.tmod t164 30) (Int.tmod t165 10) t167 _ A9.out).mono ?_); rintro e w16 ⟨rfl, hb⟩; refine ⟨_, rfl, ?_⟩; have n0_ := Aside0.mk (below_step (by repeat (first | (with_reducible first | exact HB.out | apply below_alloc | apply pw_below_drewN | apply below_drew1) | exact HB.out)) hb); clear HB; have HB := n0_; clear n0_; (try clear hb); (try clear hb2); (try clear hk); (try clear hi)) | ((with_reducible refine gate_callee (f := 21) rfl ?_); refine goesL_ (some 43) rfl rfl Try.func21 (by kernel_rfl) rfl #[.int .i64 (wrap64 (15 + (Int.tmod t162 20))), .int .i64 (Int.tmod t163 30), .int .i64 (Int.tmod t164 30), .int .i64 (Int.tmod t165 10)] rfl (by (try simp only [List.map_toArray, List.map_cons, List.map_nil]); first | done | rfl | (simp only [List.length_drop, List.length_take]; rfl)) ?_; (with_reducible refine (impl_CanReach.calls (wrap64 (15 + (Int.tmod t162 20))) (Int.tmod t163 30) (Int.tmod t164 30) (Int.tmod t165 10) t168 _ A10.out).mono ?_); rintro e w17 ⟨rfl, hb⟩; refine ⟨_, rfl, ?_⟩; have n0_ := Aside0.mk (below_step (by repeat (first | (with_reducible first | exact HB.out | apply below_alloc | apply pw_below_drewN | apply below_drew1) | exact HB.out)) hb); clear HB; have HB := n0_; clear n0_; (try clear hb); (try clear hb2); (try clear hk); (try clear hi)) | ((with_reducible refine gate_callee (f := 27) rfl ?_); refine goesL_ (some 45) rfl rfl Try.func27 (by kernel_rfl) rfl #[.slice A0 l0.length c0, .int .i64 4] rfl (by (try simp only [List.map_toArray, List.map_cons, List.map_nil]); first | done | rfl | (simp only [List.length_drop, List.length_take]; rfl)) ?_; (with_reducible refine (laws_at.calls _ _ l0 4 t169 _ ?side1 ?side2 A11.out).mono ?_); (case side1 => repeat (first | exact (Kd.C_below HR0.out HB.out) | (with_reducible refine Kd.C_alloc ?_ _) | (with_reducible refine Kd.C_drewN ?_ _) | (with_reducible refine Kd.C_drew ?_))); (case side2 => exact HC0.out); rintro e w' ⟨rfl, ⟨nd, rfl⟩⟩; refine ⟨_, rfl, ?_⟩) | ((with_reducible refine gate_callee (f := 27) rfl ?_); refine goesL_ (some 48) rfl rfl Try.func27 (by kernel_rfl) rfl #[.slice A0 l0.length c0, .int .i64 5] rfl (by (try simp only [List.map_toArray, List.map_cons, List.map_nil]); first | done | rfl | (simp only [List.length_drop, List.length_take]; rfl)) ?_; (with_reducible refine (laws_at.calls _ _ l0 5 t170 _ ?side1 ?side2 A12.out).mono ?_); (case side1 => repeat (first | exact (Kd.C_below HR0.out (by repeat (first | (with_reducible first | exact HB.out | apply below_alloc | apply pw_below_drewN | apply below_drew1) | exact HB.out))) | (with_reducible refine Kd.C_alloc ?_ _) | (with_reducible refine Kd.C_drewN ?_ _) | (with_reducible refine Kd.C_drew ?_))); (case side2 => exact HC0.out); rintro e w' ⟨rfl, ⟨nd, rfl⟩⟩; refine ⟨_, rfl, ?_⟩) | ((with_reducible refine gate_callee (f := 17) rfl ?_); refine goesL_ (some 52) rfl rfl Try.func17 (by kernel_rfl) rfl #[.int .i64 (Int.tmod t169 25), .int .i64 (wrap64 (t170 * 20))] rfl (by (try simp only [List.map_toArray, List.map_cons, List.map_nil]); first | done | rfl | (simp only [List.length_drop, List.length_take]; rfl)) ?_; (with_reducible refine (impl_IceFor.calls k (Int.tmod t169 25) (wrap64 (t170 * 20)) t171 _ A13.out).mono ?_); rintro e w' ⟨rfl, ⟨nd, rfl⟩⟩; refine ⟨_, rfl, ?_⟩))
  (try simp only [Act.put, List.setIfInBounds_toArray, List.set_cons_zero, List.set_cons_succ])
  go_cut [99] (fun v99 wc => ∃ (kq : Nat) (x99_13 : Bool), v99 = .bool x99_13 ∧ Aside0 (laws_FnWarms.j0 kq (wrap64 (15 + (Int.tmod t162 20))) (Int.tmod t163 30) (Int.tmod t164 30) (Int.tmod t165 10) t166 t167 t168 x99_13 = some r) ∧ Aside0 (kq ≤ k) ∧ Aside0 (Below w.heap.size w wc))
  case first =>
   have H := HC14.out
   clear HC14
   by_cases c18 : t171 < 0
   ·rw [if_pos c18] at H
    have c18b0 : decide (t171 < 0) = true := decide_eq_true c18
    clear c18
    (first | rw [c18b0] | (simp only [i64_w, i32_w]; rw [c18b0]) | skip)
    exact (laws_FnWarms.j0_no HRT.out H).elim
   ·rw [if_neg c18] at H
    have c18b0 : decide (t171 < 0) = false := decide_eq_false c18
    clear c18
    (first | rw [c18b0] | (simp only [i64_w, i32_w]; rw [c18b0]) | skip)
    by_cases c19 : (Int.tmod t169 25) < 20
    ·rw [if_pos c19] at H
     have c19b0 : decide ((Int.tmod t169 25) < 20) = true := decide_eq_true c19
     clear c19
     by_cases c20 : (wrap64 (80 * t171)) < (wrap64 ((wrap64 (20 - (Int.tmod t169 25))) * (wrap64 ((wrap64 (t170 * 20)) - t171))))
     ·rw [if_pos c20] at H
      have c20b0 : decide ((wrap64 (80 * t171)) < (wrap64 ((wrap64 (20 - (Int.tmod t169 25))) * (wrap64 ((wrap64 (t170 * 20)) - t171))))) = true := decide_eq_true c20
      clear c20
      exact (laws_FnWarms.j0_no HRT.out H).elim
     ·rw [if_neg c20] at H
      have c20b0 : decide ((wrap64 (80 * t171)) < (wrap64 ((wrap64 (20 - (Int.tmod t169 25))) * (wrap64 ((wrap64 (t170 * 20)) - t171))))) = false := decide_eq_false c20
      clear c20
      by_cases c21 : t171 > 0
      ·rw [if_pos c21] at H
       have c21b0 : decide (0 < t171) = true := decide_eq_true c21
       clear c21
       by_cases c22 : (wrap64 (80 * (wrap64 (t171 - 1)))) ≥ (wrap64 ((wrap64 (20 - (Int.tmod t169 25))) * (wrap64 ((wrap64 ((wrap64 (t170 * 20)) - t171)) + 1))))
       ·rw [if_pos c22] at H
        have c22b0 : decide ((wrap64 ((wrap64 (20 - (Int.tmod t169 25))) * (wrap64 ((wrap64 ((wrap64 (t170 * 20)) - t171)) + 1)))) ≤ (wrap64 (80 * (wrap64 (t171 - 1))))) = true := decide_eq_true c22
        clear c22
        exact (laws_FnWarms.j0_no HRT.out H).elim
       ·rw [if_neg c22] at H
        have c22b0 : decide ((wrap64 ((wrap64 (20 - (Int.tmod t169 25))) * (wrap64 ((wrap64 ((wrap64 (t170 * 20)) - t171)) + 1)))) ≤ (wrap64 (80 * (wrap64 (t171 - 1))))) = false := decide_eq_false c22
        clear c22
        by_cases c23 : (Int.tmod t169 25) ≥ 20
        ·rw [if_pos c23] at H
         have c23b0 : decide (20 ≤ (Int.tmod t169 25)) = true := decide_eq_true c23
         clear c23
         by_cases c24 : t171 = 0
         ·rw [if_pos c24] at H
          have c24b0 : (t171 == 0) = true := beq_iff_eq.mpr c24
          have c24b1 : (t171 != 0) = false := bne_eq_false_iff_eq.mpr c24
          clear c24
          have H' := Aside0.mk H
          clear H
          go_wp2
          go_meet
          case rel => exact ⟨_, (decide (t171 > (wrap64 (t170 * 20)))), (by first | rfl | (simp; done) | (simp [*]; done)), H', ⟨by first | omega | exact Nat.le_refl _⟩, ⟨by repeat (first | (with_reducible first | exact HB.out | apply below_alloc | apply pw_below_drewN | apply below_drew1) | exact HB.out)⟩⟩
         ·rw [if_neg c24] at H
          have c24b0 : (t171 == 0) = false := beq_eq_false_iff_ne.mpr c24
          have c24b1 : (t171 != 0) = true := bne_iff_ne.mpr c24
          exact (laws_FnWarms.j0_no HRT.out H).elim
        ·rw [if_neg c23] at H
         have c23b0 : decide (20 ≤ (Int.tmod t169 25)) = false := decide_eq_false c23
         clear c23
         have H' := Aside0.mk H
         clear H
         go_wp2
         go_meet
         case rel => exact ⟨_, (decide (t171 > (wrap64 (t170 * 20)))), (by first | rfl | (simp; done) | (simp [*]; done)), H', ⟨by first | omega | exact Nat.le_refl _⟩, ⟨by repeat (first | (with_reducible first | exact HB.out | apply below_alloc | apply pw_below_drewN | apply below_drew1) | exact HB.out)⟩⟩
      ·rw [if_neg c21] at H
       have c21b0 : decide (0 < t171) = false := decide_eq_false c21
       clear c21
       by_cases c25 : (Int.tmod t169 25) ≥ 20
       ·rw [if_pos c25] at H
        have c25b0 : decide (20 ≤ (Int.tmod t169 25)) = true := decide_eq_true c25
        clear c25
        by_cases c26 : t171 = 0
        ·rw [if_pos c26] at H
         have c26b0 : (t171 == 0) = true := beq_iff_eq.mpr c26
         have c26b1 : (t171 != 0) = false := bne_eq_false_iff_eq.mpr c26
         clear c26
         have H' := Aside0.mk H
         clear H
         go_wp2
         go_meet
         case rel => exact ⟨_, (decide (t171 > (wrap64 (t170 * 20)))), (by first | rfl | (simp; done) | (simp [*]; done)), H', ⟨by first | omega | exact Nat.le_refl _⟩, ⟨by repeat (first | (with_reducible first | exact HB.out | apply below_alloc | apply pw_below_drewN | apply below_drew1) | exact HB.out)⟩⟩
        ·rw [if_neg c26] at H
         have c26b0 : (t171 == 0) = false := beq_eq_false_iff_ne.mpr c26
         have c26b1 : (t171 != 0) = true := bne_iff_ne.mpr c26
         exact (laws_FnWarms.j0_no HRT.out H).elim
       ·rw [if_neg c25] at H
        have c25b0 : decide (20 ≤ (Int.tmod t169 25)) = false := decide_eq_false c25
        clear c25
        have H' := Aside0.mk H
        clear H
        go_wp2
        go_meet
        case rel => exact ⟨_, (decide (t171 > (wrap64 (t170 * 20)))), (by first | rfl | (simp; done) | (simp [*]; done)), H', ⟨by first | omega | exact Nat.le_refl _⟩, ⟨by repeat (first | (with_reducible first | exact HB.out | apply below_alloc | apply pw_below_drewN | apply below_drew1) | exact HB.out)⟩⟩
    ·rw [if_neg c19] at H
     have c19b0 : decide ((Int.tmod t169 25) < 20) = false := decide_eq_false c19
     clear c19
     by_cases c27 : (Int.tmod t169 25) ≥ 20
     ·rw [if_pos c27] at H
      have c27b0 : decide (20 ≤ (Int.tmod t169 25)) = true := decide_eq_true c27
      clear c27
      by_cases c28 : t171 = 0
      ·rw [if_pos c28] at H
       have c28b0 : (t171 == 0) = true := beq_iff_eq.mpr c28
       have c28b1 : (t171 != 0) = false := bne_eq_false_iff_eq.mpr c28
       clear c28
       have H' := Aside0.mk H
       clear H
       go_wp2
       go_meet
       case rel => exact ⟨_, (decide (t171 > (wrap64 (t170 * 20)))), (by first | rfl | (simp; done) | (simp [*]; done)), H', ⟨by first | omega | exact Nat.le_refl _⟩, ⟨by repeat (first | (with_reducible first | exact HB.out | apply below_alloc | apply pw_below_drewN | apply below_drew1) | exact HB.out)⟩⟩
      ·rw [if_neg c28] at H
       have c28b0 : (t171 == 0) = false := beq_eq_false_iff_ne.mpr c28
       have c28b1 : (t171 != 0) = true := bne_iff_ne.mpr c28
       exact (laws_FnWarms.j0_no HRT.out H).elim
     ·rw [if_neg c27] at H
      have c27b0 : decide (20 ≤ (Int.tmod t169 25)) = false := decide_eq_false c27
      clear c27
      have H' := Aside0.mk H
      clear H
      go_wp2
      go_meet
      case rel => exact ⟨_, (decide (t171 > (wrap64 (t170 * 20)))), (by first | rfl | (simp; done) | (simp [*]; done)), H', ⟨by first | omega | exact Nat.le_refl _⟩, ⟨by repeat (first | (with_reducible first | exact HB.out | apply below_alloc | apply pw_below_drewN | apply below_drew1) | exact HB.out)⟩⟩
  case rest =>
   clear HC14
   try clear c1
   try clear c2
   try clear p2
   try clear c3
   try clear p6
   try clear c10
   try clear c17
   try clear c18
   try clear c18b0
   try clear c19
   try clear c19b0
   try clear c20
   try clear c20b0
   try clear c21
   try clear c21b0
   try clear c22
   try clear c22b0
   try clear c23
   try clear c23b0
   try clear c24
   try clear c24b0
   try clear c24b1
   try clear c25
   try clear c25b0
   try clear c26
   try clear c26b0
   try clear c26b1
   try clear c27
   try clear c27b0
   try clear c28
   try clear c28b0
   try clear c28b1
   obtain ⟨kq, x99_13, rfl, HA, HJ13, HB⟩ := hcut
   cases kq with
   | zero => exact absurd HA.out (by simp [laws_FnWarms.j0])
   | succ kj13 =>
    have H := HA.out
    clear HA
    simp only [laws_FnWarms.j0] at H
    by_cases c29 : x99_13 = true
    ·subst c29
     have H1 : (some false) = some r := by rw [if_pos rfl] at H; exact H
     clear H
     have H := H1
     clear H1
     exact absurd (H.trans (congrArg some HRT.out)) (by simp)
    ·replace c29 := Bool.eq_false_iff.mpr c29
     subst c29
     have H1 : ((impl_HottestFlour.f kj13 (wrap64 (15 + (Int.tmod t162 20))) (Int.tmod t164 30) (Int.tmod t165 10)).bind fun t172 => (if t167 = (wrap64 (15 + (Int.tmod t162 20))) then (if t166 = (wrap64 ((wrap64 ((wrap64 ((wrap64 (3 * (wrap64 (15 + (Int.tmod t162 20))))) - (Int.tmod t163 30))) - (Int.tmod t164 30))) - (Int.tmod t165 10))) then (if t166 ≥ 1 then (if (t168 == (decide (t166 ≤ 60))) = true then (if t168 = true then (if t172 ≥ (Int.tmod t163 30) then (if t172 = (-1000) then ((impl_DoughHeat.f kj13 (-5) 0 0 0).bind fun t173 => (some (t173 == (-2)))) else ((impl_CanReach.f (wrap64 (15 + (Int.tmod t162 20))) t172 (Int.tmod t164 30) (Int.tmod t165 10)).bind fun t174 => (if t174 = true then (if t172 = 60 then ((impl_DoughHeat.f kj13 (-5) 0 0 0).bind fun t175 => (some (t175 == (-2)))) else ((impl_CanReach.f (wrap64 (15 + (Int.tmod t162 20))) (wrap64 (t172 + 1)) (Int.tmod t164 30) (Int.tmod t165 10)).bind fun t176 => (if t176 = true then (some false) else ((impl_DoughHeat.f kj13 (-5) 0 0 0).bind fun t177 => (some (t177 == (-2))))))) else (some false)))) else (some false)) else (if t172 = (-1000) then ((impl_DoughHeat.f kj13 (-5) 0 0 0).bind fun t178 => (some (t178 == (-2)))) else ((impl_CanReach.f (wrap64 (15 + (Int.tmod t162 20))) t172 (Int.tmod t164 30) (Int.tmod t165 10)).bind fun t179 => (if t179 = true then (if t172 = 60 then ((impl_DoughHeat.f kj13 (-5) 0 0 0).bind fun t180 => (some (t180 == (-2)))) else ((impl_CanReach.f (wrap64 (15 + (Int.tmod t162 20))) (wrap64 (t172 + 1)) (Int.tmod t164 30) (Int.tmod t165 10)).bind fun t181 => (if t181 = true then (some false) else ((impl_DoughHeat.f kj13 (-5) 0 0 0).bind fun t182 => (some (t182 == (-2))))))) else (some false))))) else (some false)) else (if (t168 == false) = true then (if t168 = true then (if t172 ≥ (Int.tmod t163 30) then (if t172 = (-1000) then ((impl_DoughHeat.f kj13 (-5) 0 0 0).bind fun t183 => (some (t183 == (-2)))) else ((impl_CanReach.f (wrap64 (15 + (Int.tmod t162 20))) t172 (Int.tmod t164 30) (Int.tmod t165 10)).bind fun t184 => (if t184 = true then (if t172 = 60 then ((impl_DoughHeat.f kj13 (-5) 0 0 0).bind fun t185 => (some (t185 == (-2)))) else ((impl_CanReach.f (wrap64 (15 + (Int.tmod t162 20))) (wrap64 (t172 + 1)) (Int.tmod t164 30) (Int.tmod t165 10)).bind fun t186 => (if t186 = true then (some false) else ((impl_DoughHeat.f kj13 (-5) 0 0 0).bind fun t187 => (some (t187 == (-2))))))) else (some false)))) else (some false)) else (if t172 = (-1000) then ((impl_DoughHeat.f kj13 (-5) 0 0 0).bind fun t188 => (some (t188 == (-2)))) else ((impl_CanReach.f (wrap64 (15 + (Int.tmod t162 20))) t172 (Int.tmod t164 30) (Int.tmod t165 10)).bind fun t189 => (if t189 = true then (if t172 = 60 then ((impl_DoughHeat.f kj13 (-5) 0 0 0).bind fun t190 => (some (t190 == (-2)))) else ((impl_CanReach.f (wrap64 (15 + (Int.tmod t162 20))) (wrap64 (t172 + 1)) (Int.tmod t164 30) (Int.tmod t165 10)).bind fun t191 => (if t191 = true then (some false) else ((impl_DoughHeat.f kj13 (-5) 0 0 0).bind fun t192 => (some (t192 == (-2))))))) else (some false))))) else (some false))) else (some false)) else (some false))) = some r := by rw [if_neg (show ¬ (false = true) by decide)] at H; exact H
     clear H
     have H := H1
     clear H1
     replace H := Option.bind_eq_some_iff.mp H
     obtain ⟨t172, A300, H⟩ := H
     replace H : (if t167 = (wrap64 (15 + (Int.tmod t162 20))) then (if t166 = (wrap64 ((wrap64 ((wrap64 ((wrap64 (3 * (wrap64 (15 + (Int.tmod t162 20))))) - (Int.tmod t163 30))) - (Int.tmod t164 30))) - (Int.tmod t165 10))) then (if t166 ≥ 1 then (if (t168 == (decide (t166 ≤ 60))) = true then (if t168 = true then (if t172 ≥ (Int.tmod t163 30) then (if t172 = (-1000) then ((impl_DoughHeat.f kj13 (-5) 0 0 0).bind fun t173 => (some (t173 == (-2)))) else ((impl_CanReach.f (wrap64 (15 + (Int.tmod t162 20))) t172 (Int.tmod t164 30) (Int.tmod t165 10)).bind fun t174 => (if t174 = true then (if t172 = 60 then ((impl_DoughHeat.f kj13 (-5) 0 0 0).bind fun t175 => (some (t175 == (-2)))) else ((impl_CanReach.f (wrap64 (15 + (Int.tmod t162 20))) (wrap64 (t172 + 1)) (Int.tmod t164 30) (Int.tmod t165 10)).bind fun t176 => (if t176 = true then (some false) else ((impl_DoughHeat.f kj13 (-5) 0 0 0).bind fun t177 => (some (t177 == (-2))))))) else (some false)))) else (some false)) else (if t172 = (-1000) then ((impl_DoughHeat.f kj13 (-5) 0 0 0).bind fun t178 => (some (t178 == (-2)))) else ((impl_CanReach.f (wrap64 (15 + (Int.tmod t162 20))) t172 (Int.tmod t164 30) (Int.tmod t165 10)).bind fun t179 => (if t179 = true then (if t172 = 60 then ((impl_DoughHeat.f kj13 (-5) 0 0 0).bind fun t180 => (some (t180 == (-2)))) else ((impl_CanReach.f (wrap64 (15 + (Int.tmod t162 20))) (wrap64 (t172 + 1)) (Int.tmod t164 30) (Int.tmod t165 10)).bind fun t181 => (if t181 = true then (some false) else ((impl_DoughHeat.f kj13 (-5) 0 0 0).bind fun t182 => (some (t182 == (-2))))))) else (some false))))) else (some false)) else (if (t168 == false) = true then (if t168 = true then (if t172 ≥ (Int.tmod t163 30) then (if t172 = (-1000) then ((impl_DoughHeat.f kj13 (-5) 0 0 0).bind fun t183 => (some (t183 == (-2)))) else ((impl_CanReach.f (wrap64 (15 + (Int.tmod t162 20))) t172 (Int.tmod t164 30) (Int.tmod t165 10)).bind fun t184 => (if t184 = true then (if t172 = 60 then ((impl_DoughHeat.f kj13 (-5) 0 0 0).bind fun t185 => (some (t185 == (-2)))) else ((impl_CanReach.f (wrap64 (15 + (Int.tmod t162 20))) (wrap64 (t172 + 1)) (Int.tmod t164 30) (Int.tmod t165 10)).bind fun t186 => (if t186 = true then (some false) else ((impl_DoughHeat.f kj13 (-5) 0 0 0).bind fun t187 => (some (t187 == (-2))))))) else (some false)))) else (some false)) else (if t172 = (-1000) then ((impl_DoughHeat.f kj13 (-5) 0 0 0).bind fun t188 => (some (t188 == (-2)))) else ((impl_CanReach.f (wrap64 (15 + (Int.tmod t162 20))) t172 (Int.tmod t164 30) (Int.tmod t165 10)).bind fun t189 => (if t189 = true then (if t172 = 60 then ((impl_DoughHeat.f kj13 (-5) 0 0 0).bind fun t190 => (some (t190 == (-2)))) else ((impl_CanReach.f (wrap64 (15 + (Int.tmod t162 20))) (wrap64 (t172 + 1)) (Int.tmod t164 30) (Int.tmod t165 10)).bind fun t191 => (if t191 = true then (some false) else ((impl_DoughHeat.f kj13 (-5) 0 0 0).bind fun t192 => (some (t192 == (-2))))))) else (some false))))) else (some false))) else (some false)) else (some false)) = some r := H
     have A30 := Aside0.mk A300
     clear A300
     by_cases c31 : t167 = (wrap64 (15 + (Int.tmod t162 20)))
     ·rw [if_pos c31] at H
      have c31b0 : (t167 == (wrap64 (15 + (Int.tmod t162 20)))) = true := beq_iff_eq.mpr c31
      have c31b1 : (t167 != (wrap64 (15 + (Int.tmod t162 20)))) = false := bne_eq_false_iff_eq.mpr c31
      clear c31
      by_cases c32 : t166 = (wrap64 ((wrap64 ((wrap64 ((wrap64 (3 * (wrap64 (15 + (Int.tmod t162 20))))) - (Int.tmod t163 30))) - (Int.tmod t164 30))) - (Int.tmod t165 10)))
      ·rw [if_pos c32] at H
       have c32b0 : (t166 == (wrap64 ((wrap64 ((wrap64 ((wrap64 (3 * (wrap64 (15 + (Int.tmod t162 20))))) - (Int.tmod t163 30))) - (Int.tmod t164 30))) - (Int.tmod t165 10)))) = true := beq_iff_eq.mpr c32
       have c32b1 : (t166 != (wrap64 ((wrap64 ((wrap64 ((wrap64 (3 * (wrap64 (15 + (Int.tmod t162 20))))) - (Int.tmod t163 30))) - (Int.tmod t164 30))) - (Int.tmod t165 10)))) = false := bne_eq_false_iff_eq.mpr c32
       clear c32
       by_cases c33 : t166 ≥ 1
       ·rw [if_pos c33] at H
        have c33b0 : decide (1 ≤ t166) = true := decide_eq_true c33
        clear c33
        by_cases c34 : (t168 == (decide (t166 ≤ 60))) = true
        ·rw [if_pos c34] at H
         have c34b0 : (t168 == (decide (t166 ≤ 60))) = true := c34
         (try (have c34b1 : decide (t168 = (decide (t166 ≤ 60))) = true := by simpa using c34))
         (try (have c34b2 : (t168 == (decide (t166 ≤ 60))) = true := by simpa using c34))
         clear c34
         by_cases c35 : t168 = true
         ·subst c35
          have H1 : (if t172 ≥ (Int.tmod t163 30) then (if t172 = (-1000) then ((impl_DoughHeat.f kj13 (-5) 0 0 0).bind fun t173 => (some (t173 == (-2)))) else ((impl_CanReach.f (wrap64 (15 + (Int.tmod t162 20))) t172 (Int.tmod t164 30) (Int.tmod t165 10)).bind fun t174 => (if t174 = true then (if t172 = 60 then ((impl_DoughHeat.f kj13 (-5) 0 0 0).bind fun t175 => (some (t175 == (-2)))) else ((impl_CanReach.f (wrap64 (15 + (Int.tmod t162 20))) (wrap64 (t172 + 1)) (Int.tmod t164 30) (Int.tmod t165 10)).bind fun t176 => (if t176 = true then (some false) else ((impl_DoughHeat.f kj13 (-5) 0 0 0).bind fun t177 => (some (t177 == (-2))))))) else (some false)))) else (some false)) = some r := by rw [if_pos rfl] at H; exact H
          clear H
          have H := H1
          clear H1
          by_cases c36 : t172 ≥ (Int.tmod t163 30)
          ·rw [if_pos c36] at H
           have c36b0 : decide ((Int.tmod t163 30) ≤ t172) = true := decide_eq_true c36
           clear c36
           by_cases c37 : t172 = (-1000)
           ·rw [if_pos c37] at H
            have c37b0 : (t172 == (-1000)) = true := beq_iff_eq.mpr c37
            have c37b1 : (t172 != (-1000)) = false := bne_eq_false_iff_eq.mpr c37
            clear c37
            replace H := Option.bind_eq_some_iff.mp H
            obtain ⟨t173, A380, H⟩ := H
            replace H : (some (t173 == (-2))) = some r := H
            have A38 := Aside0.mk A380
            clear A380
            obtain rfl := Option.some.inj H
            go_wp2_with (first | ((with_reducible refine gate_callee (f := 25) rfl ?_); refine goesL_ (some 103) rfl rfl Try.func25 (by kernel_rfl) rfl #[.int .i64 (wrap64 (15 + (Int.tmod t162 20))), .int .i64 (Int.tmod t164 30), .int .i64 (Int.tmod t165 10)] rfl (by (try simp only [List.map_toArray, List.map_cons, List.map_nil]); first | done | rfl | (simp only [List.length_drop, List.length_take]; rfl)) ?_; (with_reducible refine (impl_HottestFlour.calls kj13 (wrap64 (15 + (Int.tmod t162 20))) (Int.tmod t164 30) (Int.tmod t165 10) t172 _ A30.out).mono ?_); rintro e w39 ⟨rfl, hb⟩; refine ⟨_, rfl, ?_⟩; have n0_ := Aside0.mk (below_step (by repeat (first | (with_reducible first | exact HB.out | apply below_alloc | apply pw_below_drewN | apply below_drew1) | exact HB.out)) hb); clear HB; have HB := n0_; clear n0_; (try clear hb); (try clear hb2); (try clear hk); (try clear hi)) | (go_at_call 23; (with_reducible refine (impl_DoughHeat.calls kj13 (-5) 0 0 0 t173 _ A38.out).mono ?_); rintro e w40 ⟨rfl, hb⟩; have n0_ := Aside0.mk (below_step (by repeat (first | (with_reducible first | exact HB.out | apply below_alloc | apply pw_below_drewN | apply below_drew1) | exact HB.out)) hb); clear HB; have HB := n0_; clear n0_; (try clear hb); (try clear hb2); (try clear hk); (try clear hi)))
            go_ret
            exact ⟨by first | rfl | (simp [errW_none, errW_some] <;> rfl) | (simp [*, errW_none, errW_some] <;> rfl), by repeat (first | (with_reducible first | exact HB.out | apply below_alloc | apply pw_below_drewN | apply below_drew1) | exact HB.out)⟩
           ·rw [if_neg c37] at H
            have c37b0 : (t172 == (-1000)) = false := beq_eq_false_iff_ne.mpr c37
            have c37b1 : (t172 != (-1000)) = true := bne_iff_ne.mpr c37
            replace H := Option.bind_eq_some_iff.mp H
            obtain ⟨t174, A410, H⟩ := H
            replace H : (if t174 = true then (if t172 = 60 then ((impl_DoughHeat.f kj13 (-5) 0 0 0).bind fun t175 => (some (t175 == (-2)))) else ((impl_CanReach.f (wrap64 (15 + (Int.tmod t162 20))) (wrap64 (t172 + 1)) (Int.tmod t164 30) (Int.tmod t165 10)).bind fun t176 => (if t176 = true then (some false) else ((impl_DoughHeat.f kj13 (-5) 0 0 0).bind fun t177 => (some (t177 == (-2))))))) else (some false)) = some r := H
            have A41 := Aside0.mk A410
            clear A410
            by_cases c42 : t174 = true
            ·subst c42
             have H1 : (if t172 = 60 then ((impl_DoughHeat.f kj13 (-5) 0 0 0).bind fun t175 => (some (t175 == (-2)))) else ((impl_CanReach.f (wrap64 (15 + (Int.tmod t162 20))) (wrap64 (t172 + 1)) (Int.tmod t164 30) (Int.tmod t165 10)).bind fun t176 => (if t176 = true then (some false) else ((impl_DoughHeat.f kj13 (-5) 0 0 0).bind fun t177 => (some (t177 == (-2))))))) = some r := by rw [if_pos rfl] at H; exact H
             clear H
             have H := H1
             clear H1
             by_cases c43 : t172 = 60
             ·rw [if_pos c43] at H
              have c43b0 : (t172 == 60) = true := beq_iff_eq.mpr c43
              have c43b1 : (t172 != 60) = false := bne_eq_false_iff_eq.mpr c43
              clear c43
              replace H := Option.bind_eq_some_iff.mp H
              obtain ⟨t175, A440, H⟩ := H
              replace H : (some (t175 == (-2))) = some r := H
              have A44 := Aside0.mk A440
              clear A440
              obtain rfl := Option.some.inj H
              go_wp2_with (first | ((with_reducible refine gate_callee (f := 25) rfl ?_); refine goesL_ (some 103) rfl rfl Try.func25 (by kernel_rfl) rfl #[.int .i64 (wrap64 (15 + (Int.tmod t162 20))), .int .i64 (Int.tmod t164 30), .int .i64 (Int.tmod t165 10)] rfl (by (try simp only [List.map_toArray, List.map_cons, List.map_nil]); first | done | rfl | (simp only [List.length_drop, List.length_take]; rfl)) ?_; (with_reducible refine (impl_HottestFlour.calls kj13 (wrap64 (15 + (Int.tmod t162 20))) (Int.tmod t164 30) (Int.tmod t165 10) t172 _ A30.out).mono ?_); rintro e w45 ⟨rfl, hb⟩; refine ⟨_, rfl, ?_⟩; have n0_ := Aside0.mk (below_step (by repeat (first | (with_reducible first | exact HB.out | apply below_alloc | apply pw_below_drewN | apply below_drew1) | exact HB.out)) hb); clear HB; have HB := n0_; clear n0_; (try clear hb); (try clear hb2); (try clear hk); (try clear hi)) | (go_at_call 21; (with_reducible refine (impl_CanReach.calls (wrap64 (15 + (Int.tmod t162 20))) t172 (Int.tmod t164 30) (Int.tmod t165 10) true _ A41.out).mono ?_); rintro e w46 ⟨rfl, hb⟩; have n0_ := Aside0.mk (below_step (by repeat (first | (with_reducible first | exact HB.out | apply below_alloc | apply pw_below_drewN | apply below_drew1) | exact HB.out)) hb); clear HB; have HB := n0_; clear n0_; (try clear hb); (try clear hb2); (try clear hk); (try clear hi)) | (go_at_call 23; (with_reducible refine (impl_DoughHeat.calls kj13 (-5) 0 0 0 t175 _ A44.out).mono ?_); rintro e w47 ⟨rfl, hb⟩; have n0_ := Aside0.mk (below_step (by repeat (first | (with_reducible first | exact HB.out | apply below_alloc | apply pw_below_drewN | apply below_drew1) | exact HB.out)) hb); clear HB; have HB := n0_; clear n0_; (try clear hb); (try clear hb2); (try clear hk); (try clear hi)))
              go_ret
              exact ⟨by first | rfl | (simp [errW_none, errW_some] <;> rfl) | (simp [*, errW_none, errW_some] <;> rfl), by repeat (first | (with_reducible first | exact HB.out | apply below_alloc | apply pw_below_drewN | apply below_drew1) | exact HB.out)⟩
             ·rw [if_neg c43] at H
              have c43b0 : (t172 == 60) = false := beq_eq_false_iff_ne.mpr c43
              have c43b1 : (t172 != 60) = true := bne_iff_ne.mpr c43
              replace H := Option.bind_eq_some_iff.mp H
              obtain ⟨t176, A480, H⟩ := H
              replace H : (if t176 = true then (some false) else ((impl_DoughHeat.f kj13 (-5) 0 0 0).bind fun t177 => (some (t177 == (-2))))) = some r := H
              have A48 := Aside0.mk A480
              clear A480
              by_cases c49 : t176 = true
              ·subst c49
               have H1 : (some false) = some r := by rw [if_pos rfl] at H; exact H
               clear H
               have H := H1
               clear H1
               exact absurd (H.trans (congrArg some HRT.out)) (by simp)
              ·replace c49 := Bool.eq_false_iff.mpr c49
               subst c49
               have H1 : ((impl_DoughHeat.f kj13 (-5) 0 0 0).bind fun t177 => (some (t177 == (-2)))) = some r := by rw [if_neg (show ¬ (false = true) by decide)] at H; exact H
               clear H
               have H := H1
               clear H1
               replace H := Option.bind_eq_some_iff.mp H
               obtain ⟨t177, A500, H⟩ := H
               replace H : (some (t177 == (-2))) = some r := H
               have A50 := Aside0.mk A500
               clear A500
               obtain rfl := Option.some.inj H
               go_wp2_with (first | ((with_reducible refine gate_callee (f := 25) rfl ?_); refine goesL_ (some 103) rfl rfl Try.func25 (by kernel_rfl) rfl #[.int .i64 (wrap64 (15 + (Int.tmod t162 20))), .int .i64 (Int.tmod t164 30), .int .i64 (Int.tmod t165 10)] rfl (by (try simp only [List.map_toArray, List.map_cons, List.map_nil]); first | done | rfl | (simp only [List.length_drop, List.length_take]; rfl)) ?_; (with_reducible refine (impl_HottestFlour.calls kj13 (wrap64 (15 + (Int.tmod t162 20))) (Int.tmod t164 30) (Int.tmod t165 10) t172 _ A30.out).mono ?_); rintro e w51 ⟨rfl, hb⟩; refine ⟨_, rfl, ?_⟩; have n0_ := Aside0.mk (below_step (by repeat (first | (with_reducible first | exact HB.out | apply below_alloc | apply pw_below_drewN | apply below_drew1) | exact HB.out)) hb); clear HB; have HB := n0_; clear n0_; (try clear hb); (try clear hb2); (try clear hk); (try clear hi)) | (go_at_call 21; (with_reducible refine (impl_CanReach.calls (wrap64 (15 + (Int.tmod t162 20))) t172 (Int.tmod t164 30) (Int.tmod t165 10) true _ A41.out).mono ?_); rintro e w52 ⟨rfl, hb⟩; have n0_ := Aside0.mk (below_step (by repeat (first | (with_reducible first | exact HB.out | apply below_alloc | apply pw_below_drewN | apply below_drew1) | exact HB.out)) hb); clear HB; have HB := n0_; clear n0_; (try clear hb); (try clear hb2); (try clear hk); (try clear hi)) | (go_at_call 21; (with_reducible refine (impl_CanReach.calls (wrap64 (15 + (Int.tmod t162 20))) (wrap64 (t172 + 1)) (Int.tmod t164 30) (Int.tmod t165 10) false _ A48.out).mono ?_); rintro e w53 ⟨rfl, hb⟩; have n0_ := Aside0.mk (below_step (by repeat (first | (with_reducible first | exact HB.out | apply below_alloc | apply pw_below_drewN | apply below_drew1) | exact HB.out)) hb); clear HB; have HB := n0_; clear n0_; (try clear hb); (try clear hb2); (try clear hk); (try clear hi)) | (go_at_call 23; (with_reducible refine (impl_DoughHeat.calls kj13 (-5) 0 0 0 t177 _ A50.out).mono ?_); rintro e w54 ⟨rfl, hb⟩; have n0_ := Aside0.mk (below_step (by repeat (first | (with_reducible first | exact HB.out | apply below_alloc | apply pw_below_drewN | apply below_drew1) | exact HB.out)) hb); clear HB; have HB := n0_; clear n0_; (try clear hb); (try clear hb2); (try clear hk); (try clear hi)))
               go_ret
               exact ⟨by first | rfl | (simp [errW_none, errW_some] <;> rfl) | (simp [*, errW_none, errW_some] <;> rfl), by repeat (first | (with_reducible first | exact HB.out | apply below_alloc | apply pw_below_drewN | apply below_drew1) | exact HB.out)⟩
            ·replace c42 := Bool.eq_false_iff.mpr c42
             subst c42
             have H1 : (some false) = some r := by rw [if_neg (show ¬ (false = true) by decide)] at H; exact H
             clear H
             have H := H1
             clear H1
             exact absurd (H.trans (congrArg some HRT.out)) (by simp)
          ·rw [if_neg c36] at H
           have c36b0 : decide ((Int.tmod t163 30) ≤ t172) = false := decide_eq_false c36
           clear c36
           exact absurd (H.trans (congrArg some HRT.out)) (by simp)
         ·replace c35 := Bool.eq_false_iff.mpr c35
          subst c35
          have H1 : (if t172 = (-1000) then ((impl_DoughHeat.f kj13 (-5) 0 0 0).bind fun t178 => (some (t178 == (-2)))) else ((impl_CanReach.f (wrap64 (15 + (Int.tmod t162 20))) t172 (Int.tmod t164 30) (Int.tmod t165 10)).bind fun t179 => (if t179 = true then (if t172 = 60 then ((impl_DoughHeat.f kj13 (-5) 0 0 0).bind fun t180 => (some (t180 == (-2)))) else ((impl_CanReach.f (wrap64 (15 + (Int.tmod t162 20))) (wrap64 (t172 + 1)) (Int.tmod t164 30) (Int.tmod t165 10)).bind fun t181 => (if t181 = true then (some false) else ((impl_DoughHeat.f kj13 (-5) 0 0 0).bind fun t182 => (some (t182 == (-2))))))) else (some false)))) = some r := by rw [if_neg (show ¬ (false = true) by decide)] at H; exact H
          clear H
          have H := H1
          clear H1
          by_cases c55 : t172 = (-1000)
          ·rw [if_pos c55] at H
           have c55b0 : (t172 == (-1000)) = true := beq_iff_eq.mpr c55
           have c55b1 : (t172 != (-1000)) = false := bne_eq_false_iff_eq.mpr c55
           clear c55
           replace H := Option.bind_eq_some_iff.mp H
           obtain ⟨t178, A560, H⟩ := H
           replace H : (some (t178 == (-2))) = some r := H
           have A56 := Aside0.mk A560
           clear A560
           obtain rfl := Option.some.inj H
           go_wp2_with (first | ((with_reducible refine gate_callee (f := 25) rfl ?_); refine goesL_ (some 103) rfl rfl Try.func25 (by kernel_rfl) rfl #[.int .i64 (wrap64 (15 + (Int.tmod t162 20))), .int .i64 (Int.tmod t164 30), .int .i64 (Int.tmod t165 10)] rfl (by (try simp only [List.map_toArray, List.map_cons, List.map_nil]); first | done | rfl | (simp only [List.length_drop, List.length_take]; rfl)) ?_; (with_reducible refine (impl_HottestFlour.calls kj13 (wrap64 (15 + (Int.tmod t162 20))) (Int.tmod t164 30) (Int.tmod t165 10) t172 _ A30.out).mono ?_); rintro e w57 ⟨rfl, hb⟩; refine ⟨_, rfl, ?_⟩; have n0_ := Aside0.mk (below_step (by repeat (first | (with_reducible first | exact HB.out | apply below_alloc | apply pw_below_drewN | apply below_drew1) | exact HB.out)) hb); clear HB; have HB := n0_; clear n0_; (try clear hb); (try clear hb2); (try clear hk); (try clear hi)) | (go_at_call 23; (with_reducible refine (impl_DoughHeat.calls kj13 (-5) 0 0 0 t178 _ A56.out).mono ?_); rintro e w58 ⟨rfl, hb⟩; have n0_ := Aside0.mk (below_step (by repeat (first | (with_reducible first | exact HB.out | apply below_alloc | apply pw_below_drewN | apply below_drew1) | exact HB.out)) hb); clear HB; have HB := n0_; clear n0_; (try clear hb); (try clear hb2); (try clear hk); (try clear hi)))
           go_ret
           exact ⟨by first | rfl | (simp [errW_none, errW_some] <;> rfl) | (simp [*, errW_none, errW_some] <;> rfl), by repeat (first | (with_reducible first | exact HB.out | apply below_alloc | apply pw_below_drewN | apply below_drew1) | exact HB.out)⟩
          ·rw [if_neg c55] at H
           have c55b0 : (t172 == (-1000)) = false := beq_eq_false_iff_ne.mpr c55
           have c55b1 : (t172 != (-1000)) = true := bne_iff_ne.mpr c55
           replace H := Option.bind_eq_some_iff.mp H
           obtain ⟨t179, A590, H⟩ := H
           replace H : (if t179 = true then (if t172 = 60 then ((impl_DoughHeat.f kj13 (-5) 0 0 0).bind fun t180 => (some (t180 == (-2)))) else ((impl_CanReach.f (wrap64 (15 + (Int.tmod t162 20))) (wrap64 (t172 + 1)) (Int.tmod t164 30) (Int.tmod t165 10)).bind fun t181 => (if t181 = true then (some false) else ((impl_DoughHeat.f kj13 (-5) 0 0 0).bind fun t182 => (some (t182 == (-2))))))) else (some false)) = some r := H
           have A59 := Aside0.mk A590
           clear A590
           by_cases c60 : t179 = true
           ·subst c60
            have H1 : (if t172 = 60 then ((impl_DoughHeat.f kj13 (-5) 0 0 0).bind fun t180 => (some (t180 == (-2)))) else ((impl_CanReach.f (wrap64 (15 + (Int.tmod t162 20))) (wrap64 (t172 + 1)) (Int.tmod t164 30) (Int.tmod t165 10)).bind fun t181 => (if t181 = true then (some false) else ((impl_DoughHeat.f kj13 (-5) 0 0 0).bind fun t182 => (some (t182 == (-2))))))) = some r := by rw [if_pos rfl] at H; exact H
            clear H
            have H := H1
            clear H1
            by_cases c61 : t172 = 60
            ·rw [if_pos c61] at H
             have c61b0 : (t172 == 60) = true := beq_iff_eq.mpr c61
             have c61b1 : (t172 != 60) = false := bne_eq_false_iff_eq.mpr c61
             clear c61
             replace H := Option.bind_eq_some_iff.mp H
             obtain ⟨t180, A620, H⟩ := H
             replace H : (some (t180 == (-2))) = some r := H
             have A62 := Aside0.mk A620
             clear A620
             obtain rfl := Option.some.inj H
             go_wp2_with (first | ((with_reducible refine gate_callee (f := 25) rfl ?_); refine goesL_ (some 103) rfl rfl Try.func25 (by kernel_rfl) rfl #[.int .i64 (wrap64 (15 + (Int.tmod t162 20))), .int .i64 (Int.tmod t164 30), .int .i64 (Int.tmod t165 10)] rfl (by (try simp only [List.map_toArray, List.map_cons, List.map_nil]); first | done | rfl | (simp only [List.length_drop, List.length_take]; rfl)) ?_; (with_reducible refine (impl_HottestFlour.calls kj13 (wrap64 (15 + (Int.tmod t162 20))) (Int.tmod t164 30) (Int.tmod t165 10) t172 _ A30.out).mono ?_); rintro e w63 ⟨rfl, hb⟩; refine ⟨_, rfl, ?_⟩; have n0_ := Aside0.mk (below_step (by repeat (first | (with_reducible first | exact HB.out | apply below_alloc | apply pw_below_drewN | apply below_drew1) | exact HB.out)) hb); clear HB; have HB := n0_; clear n0_; (try clear hb); (try clear hb2); (try clear hk); (try clear hi)) | (go_at_call 21; (with_reducible refine (impl_CanReach.calls (wrap64 (15 + (Int.tmod t162 20))) t172 (Int.tmod t164 30) (Int.tmod t165 10) true _ A59.out).mono ?_); rintro e w64 ⟨rfl, hb⟩; have n0_ := Aside0.mk (below_step (by repeat (first | (with_reducible first | exact HB.out | apply below_alloc | apply pw_below_drewN | apply below_drew1) | exact HB.out)) hb); clear HB; have HB := n0_; clear n0_; (try clear hb); (try clear hb2); (try clear hk); (try clear hi)) | (go_at_call 23; (with_reducible refine (impl_DoughHeat.calls kj13 (-5) 0 0 0 t180 _ A62.out).mono ?_); rintro e w65 ⟨rfl, hb⟩; have n0_ := Aside0.mk (below_step (by repeat (first | (with_reducible first | exact HB.out | apply below_alloc | apply pw_below_drewN | apply below_drew1) | exact HB.out)) hb); clear HB; have HB := n0_; clear n0_; (try clear hb); (try clear hb2); (try clear hk); (try clear hi)))
             go_ret
             exact ⟨by first | rfl | (simp [errW_none, errW_some] <;> rfl) | (simp [*, errW_none, errW_some] <;> rfl), by repeat (first | (with_reducible first | exact HB.out | apply below_alloc | apply pw_below_drewN | apply below_drew1) | exact HB.out)⟩
            ·rw [if_neg c61] at H
             have c61b0 : (t172 == 60) = false := beq_eq_false_iff_ne.mpr c61
             have c61b1 : (t172 != 60) = true := bne_iff_ne.mpr c61
             replace H := Option.bind_eq_some_iff.mp H
             obtain ⟨t181, A660, H⟩ := H
             replace H : (if t181 = true then (some false) else ((impl_DoughHeat.f kj13 (-5) 0 0 0).bind fun t182 => (some (t182 == (-2))))) = some r := H
             have A66 := Aside0.mk A660
             clear A660
             by_cases c67 : t181 = true
             ·subst c67
              have H1 : (some false) = some r := by rw [if_pos rfl] at H; exact H
              clear H
              have H := H1
              clear H1
              exact absurd (H.trans (congrArg some HRT.out)) (by simp)
             ·replace c67 := Bool.eq_false_iff.mpr c67
              subst c67
              have H1 : ((impl_DoughHeat.f kj13 (-5) 0 0 0).bind fun t182 => (some (t182 == (-2)))) = some r := by rw [if_neg (show ¬ (false = true) by decide)] at H; exact H
              clear H
              have H := H1
              clear H1
              replace H := Option.bind_eq_some_iff.mp H
              obtain ⟨t182, A680, H⟩ := H
              replace H : (some (t182 == (-2))) = some r := H
              have A68 := Aside0.mk A680
              clear A680
              obtain rfl := Option.some.inj H
              go_wp2_with (first | ((with_reducible refine gate_callee (f := 25) rfl ?_); refine goesL_ (some 103) rfl rfl Try.func25 (by kernel_rfl) rfl #[.int .i64 (wrap64 (15 + (Int.tmod t162 20))), .int .i64 (Int.tmod t164 30), .int .i64 (Int.tmod t165 10)] rfl (by (try simp only [List.map_toArray, List.map_cons, List.map_nil]); first | done | rfl | (simp only [List.length_drop, List.length_take]; rfl)) ?_; (with_reducible refine (impl_HottestFlour.calls kj13 (wrap64 (15 + (Int.tmod t162 20))) (Int.tmod t164 30) (Int.tmod t165 10) t172 _ A30.out).mono ?_); rintro e w69 ⟨rfl, hb⟩; refine ⟨_, rfl, ?_⟩; have n0_ := Aside0.mk (below_step (by repeat (first | (with_reducible first | exact HB.out | apply below_alloc | apply pw_below_drewN | apply below_drew1) | exact HB.out)) hb); clear HB; have HB := n0_; clear n0_; (try clear hb); (try clear hb2); (try clear hk); (try clear hi)) | (go_at_call 21; (with_reducible refine (impl_CanReach.calls (wrap64 (15 + (Int.tmod t162 20))) t172 (Int.tmod t164 30) (Int.tmod t165 10) true _ A59.out).mono ?_); rintro e w70 ⟨rfl, hb⟩; have n0_ := Aside0.mk (below_step (by repeat (first | (with_reducible first | exact HB.out | apply below_alloc | apply pw_below_drewN | apply below_drew1) | exact HB.out)) hb); clear HB; have HB := n0_; clear n0_; (try clear hb); (try clear hb2); (try clear hk); (try clear hi)) | (go_at_call 21; (with_reducible refine (impl_CanReach.calls (wrap64 (15 + (Int.tmod t162 20))) (wrap64 (t172 + 1)) (Int.tmod t164 30) (Int.tmod t165 10) false _ A66.out).mono ?_); rintro e w71 ⟨rfl, hb⟩; have n0_ := Aside0.mk (below_step (by repeat (first | (with_reducible first | exact HB.out | apply below_alloc | apply pw_below_drewN | apply below_drew1) | exact HB.out)) hb); clear HB; have HB := n0_; clear n0_; (try clear hb); (try clear hb2); (try clear hk); (try clear hi)) | (go_at_call 23; (with_reducible refine (impl_DoughHeat.calls kj13 (-5) 0 0 0 t182 _ A68.out).mono ?_); rintro e w72 ⟨rfl, hb⟩; have n0_ := Aside0.mk (below_step (by repeat (first | (with_reducible first | exact HB.out | apply below_alloc | apply pw_below_drewN | apply below_drew1) | exact HB.out)) hb); clear HB; have HB := n0_; clear n0_; (try clear hb); (try clear hb2); (try clear hk); (try clear hi)))
              go_ret
              exact ⟨by first | rfl | (simp [errW_none, errW_some] <;> rfl) | (simp [*, errW_none, errW_some] <;> rfl), by repeat (first | (with_reducible first | exact HB.out | apply below_alloc | apply pw_below_drewN | apply below_drew1) | exact HB.out)⟩
           ·replace c60 := Bool.eq_false_iff.mpr c60
            subst c60
            have H1 : (some false) = some r := by rw [if_neg (show ¬ (false = true) by decide)] at H; exact H
            clear H
            have H := H1
            clear H1
            exact absurd (H.trans (congrArg some HRT.out)) (by simp)
        ·rw [if_neg c34] at H
         have c34b0 : (t168 == (decide (t166 ≤ 60))) = false := by simpa using c34
         (try (have c34b1 : decide (t168 = (decide (t166 ≤ 60))) = false := by simpa using c34))
         (try (have c34b2 : (t168 == (decide (t166 ≤ 60))) = false := by simpa using c34))
         (try (have c34b3 : ¬ (t168 = (decide (t166 ≤ 60))) := by simpa using c34))
         clear c34
         exact absurd (H.trans (congrArg some HRT.out)) (by simp)
       ·rw [if_neg c33] at H
        have c33b0 : decide (1 ≤ t166) = false := decide_eq_false c33
        clear c33
        by_cases c73 : (t168 == false) = true
        ·rw [if_pos c73] at H
         have c73b0 : (t168 == false) = true := c73
         (try (have c73b1 : decide (t168 = false) = true := by simpa using c73))
         (try (have c73b2 : (t168 == false) = true := by simpa using c73))
         clear c73
         by_cases c74 : t168 = true
         ·subst c74
          have H1 : (if t172 ≥ (Int.tmod t163 30) then (if t172 = (-1000) then ((impl_DoughHeat.f kj13 (-5) 0 0 0).bind fun t183 => (some (t183 == (-2)))) else ((impl_CanReach.f (wrap64 (15 + (Int.tmod t162 20))) t172 (Int.tmod t164 30) (Int.tmod t165 10)).bind fun t184 => (if t184 = true then (if t172 = 60 then ((impl_DoughHeat.f kj13 (-5) 0 0 0).bind fun t185 => (some (t185 == (-2)))) else ((impl_CanReach.f (wrap64 (15 + (Int.tmod t162 20))) (wrap64 (t172 + 1)) (Int.tmod t164 30) (Int.tmod t165 10)).bind fun t186 => (if t186 = true then (some false) else ((impl_DoughHeat.f kj13 (-5) 0 0 0).bind fun t187 => (some (t187 == (-2))))))) else (some false)))) else (some false)) = some r := by rw [if_pos rfl] at H; exact H
          clear H
          have H := H1
          clear H1
          by_cases c75 : t172 ≥ (Int.tmod t163 30)
          ·rw [if_pos c75] at H
           have c75b0 : decide ((Int.tmod t163 30) ≤ t172) = true := decide_eq_true c75
           clear c75
           by_cases c76 : t172 = (-1000)
           ·rw [if_pos c76] at H
            have c76b0 : (t172 == (-1000)) = true := beq_iff_eq.mpr c76
            have c76b1 : (t172 != (-1000)) = false := bne_eq_false_iff_eq.mpr c76
            clear c76
            replace H := Option.bind_eq_some_iff.mp H
            obtain ⟨t183, A770, H⟩ := H
            replace H : (some (t183 == (-2))) = some r := H
            have A77 := Aside0.mk A770
            clear A770
            obtain rfl := Option.some.inj H
            go_wp2_with (first | ((with_reducible refine gate_callee (f := 25) rfl ?_); refine goesL_ (some 103) rfl rfl Try.func25 (by kernel_rfl) rfl #[.int .i64 (wrap64 (15 + (Int.tmod t162 20))), .int .i64 (Int.tmod t164 30), .int .i64 (Int.tmod t165 10)] rfl (by (try simp only [List.map_toArray, List.map_cons, List.map_nil]); first | done | rfl | (simp only [List.length_drop, List.length_take]; rfl)) ?_; (with_reducible refine (impl_HottestFlour.calls kj13 (wrap64 (15 + (Int.tmod t162 20))) (Int.tmod t164 30) (Int.tmod t165 10) t172 _ A30.out).mono ?_); rintro e w78 ⟨rfl, hb⟩; refine ⟨_, rfl, ?_⟩; have n0_ := Aside0.mk (below_step (by repeat (first | (with_reducible first | exact HB.out | apply below_alloc | apply pw_below_drewN | apply below_drew1) | exact HB.out)) hb); clear HB; have HB := n0_; clear n0_; (try clear hb); (try clear hb2); (try clear hk); (try clear hi)) | (go_at_call 23; (with_reducible refine (impl_DoughHeat.calls kj13 (-5) 0 0 0 t183 _ A77.out).mono ?_); rintro e w79 ⟨rfl, hb⟩; have n0_ := Aside0.mk (below_step (by repeat (first | (with_reducible first | exact HB.out | apply below_alloc | apply pw_below_drewN | apply below_drew1) | exact HB.out)) hb); clear HB; have HB := n0_; clear n0_; (try clear hb); (try clear hb2); (try clear hk); (try clear hi)))
            go_ret
            exact ⟨by first | rfl | (simp [errW_none, errW_some] <;> rfl) | (simp [*, errW_none, errW_some] <;> rfl), by repeat (first | (with_reducible first | exact HB.out | apply below_alloc | apply pw_below_drewN | apply below_drew1) | exact HB.out)⟩
           ·rw [if_neg c76] at H
            have c76b0 : (t172 == (-1000)) = false := beq_eq_false_iff_ne.mpr c76
            have c76b1 : (t172 != (-1000)) = true := bne_iff_ne.mpr c76
            replace H := Option.bind_eq_some_iff.mp H
            obtain ⟨t184, A800, H⟩ := H
            replace H : (if t184 = true then (if t172 = 60 then ((impl_DoughHeat.f kj13 (-5) 0 0 0).bind fun t185 => (some (t185 == (-2)))) else ((impl_CanReach.f (wrap64 (15 + (Int.tmod t162 20))) (wrap64 (t172 + 1)) (Int.tmod t164 30) (Int.tmod t165 10)).bind fun t186 => (if t186 = true then (some false) else ((impl_DoughHeat.f kj13 (-5) 0 0 0).bind fun t187 => (some (t187 == (-2))))))) else (some false)) = some r := H
            have A80 := Aside0.mk A800
            clear A800
            by_cases c81 : t184 = true
            ·subst c81
             have H1 : (if t172 = 60 then ((impl_DoughHeat.f kj13 (-5) 0 0 0).bind fun t185 => (some (t185 == (-2)))) else ((impl_CanReach.f (wrap64 (15 + (Int.tmod t162 20))) (wrap64 (t172 + 1)) (Int.tmod t164 30) (Int.tmod t165 10)).bind fun t186 => (if t186 = true then (some false) else ((impl_DoughHeat.f kj13 (-5) 0 0 0).bind fun t187 => (some (t187 == (-2))))))) = some r := by rw [if_pos rfl] at H; exact H
             clear H
             have H := H1
             clear H1
             by_cases c82 : t172 = 60
             ·rw [if_pos c82] at H
              have c82b0 : (t172 == 60) = true := beq_iff_eq.mpr c82
              have c82b1 : (t172 != 60) = false := bne_eq_false_iff_eq.mpr c82
              clear c82
              replace H := Option.bind_eq_some_iff.mp H
              obtain ⟨t185, A830, H⟩ := H
              replace H : (some (t185 == (-2))) = some r := H
              have A83 := Aside0.mk A830
              clear A830
              obtain rfl := Option.some.inj H
              go_wp2_with (first | ((with_reducible refine gate_callee (f := 25) rfl ?_); refine goesL_ (some 103) rfl rfl Try.func25 (by kernel_rfl) rfl #[.int .i64 (wrap64 (15 + (Int.tmod t162 20))), .int .i64 (Int.tmod t164 30), .int .i64 (Int.tmod t165 10)] rfl (by (try simp only [List.map_toArray, List.map_cons, List.map_nil]); first | done | rfl | (simp only [List.length_drop, List.length_take]; rfl)) ?_; (with_reducible refine (impl_HottestFlour.calls kj13 (wrap64 (15 + (Int.tmod t162 20))) (Int.tmod t164 30) (Int.tmod t165 10) t172 _ A30.out).mono ?_); rintro e w84 ⟨rfl, hb⟩; refine ⟨_, rfl, ?_⟩; have n0_ := Aside0.mk (below_step (by repeat (first | (with_reducible first | exact HB.out | apply below_alloc | apply pw_below_drewN | apply below_drew1) | exact HB.out)) hb); clear HB; have HB := n0_; clear n0_; (try clear hb); (try clear hb2); (try clear hk); (try clear hi)) | (go_at_call 21; (with_reducible refine (impl_CanReach.calls (wrap64 (15 + (Int.tmod t162 20))) t172 (Int.tmod t164 30) (Int.tmod t165 10) true _ A80.out).mono ?_); rintro e w85 ⟨rfl, hb⟩; have n0_ := Aside0.mk (below_step (by repeat (first | (with_reducible first | exact HB.out | apply below_alloc | apply pw_below_drewN | apply below_drew1) | exact HB.out)) hb); clear HB; have HB := n0_; clear n0_; (try clear hb); (try clear hb2); (try clear hk); (try clear hi)) | (go_at_call 23; (with_reducible refine (impl_DoughHeat.calls kj13 (-5) 0 0 0 t185 _ A83.out).mono ?_); rintro e w86 ⟨rfl, hb⟩; have n0_ := Aside0.mk (below_step (by repeat (first | (with_reducible first | exact HB.out | apply below_alloc | apply pw_below_drewN | apply below_drew1) | exact HB.out)) hb); clear HB; have HB := n0_; clear n0_; (try clear hb); (try clear hb2); (try clear hk); (try clear hi)))
              go_ret
              exact ⟨by first | rfl | (simp [errW_none, errW_some] <;> rfl) | (simp [*, errW_none, errW_some] <;> rfl), by repeat (first | (with_reducible first | exact HB.out | apply below_alloc | apply pw_below_drewN | apply below_drew1) | exact HB.out)⟩
             ·rw [if_neg c82] at H
              have c82b0 : (t172 == 60) = false := beq_eq_false_iff_ne.mpr c82
              have c82b1 : (t172 != 60) = true := bne_iff_ne.mpr c82
              replace H := Option.bind_eq_some_iff.mp H
              obtain ⟨t186, A870, H⟩ := H
              replace H : (if t186 = true then (some false) else ((impl_DoughHeat.f kj13 (-5) 0 0 0).bind fun t187 => (some (t187 == (-2))))) = some r := H
              have A87 := Aside0.mk A870
              clear A870
              by_cases c88 : t186 = true
              ·subst c88
               have H1 : (some false) = some r := by rw [if_pos rfl] at H; exact H
               clear H
               have H := H1
               clear H1
               exact absurd (H.trans (congrArg some HRT.out)) (by simp)
              ·replace c88 := Bool.eq_false_iff.mpr c88
               subst c88
               have H1 : ((impl_DoughHeat.f kj13 (-5) 0 0 0).bind fun t187 => (some (t187 == (-2)))) = some r := by rw [if_neg (show ¬ (false = true) by decide)] at H; exact H
               clear H
               have H := H1
               clear H1
               replace H := Option.bind_eq_some_iff.mp H
               obtain ⟨t187, A890, H⟩ := H
               replace H : (some (t187 == (-2))) = some r := H
               have A89 := Aside0.mk A890
               clear A890
               obtain rfl := Option.some.inj H
               go_wp2_with (first | ((with_reducible refine gate_callee (f := 25) rfl ?_); refine goesL_ (some 103) rfl rfl Try.func25 (by kernel_rfl) rfl #[.int .i64 (wrap64 (15 + (Int.tmod t162 20))), .int .i64 (Int.tmod t164 30), .int .i64 (Int.tmod t165 10)] rfl (by (try simp only [List.map_toArray, List.map_cons, List.map_nil]); first | done | rfl | (simp only [List.length_drop, List.length_take]; rfl)) ?_; (with_reducible refine (impl_HottestFlour.calls kj13 (wrap64 (15 + (Int.tmod t162 20))) (Int.tmod t164 30) (Int.tmod t165 10) t172 _ A30.out).mono ?_); rintro e w90 ⟨rfl, hb⟩; refine ⟨_, rfl, ?_⟩; have n0_ := Aside0.mk (below_step (by repeat (first | (with_reducible first | exact HB.out | apply below_alloc | apply pw_below_drewN | apply below_drew1) | exact HB.out)) hb); clear HB; have HB := n0_; clear n0_; (try clear hb); (try clear hb2); (try clear hk); (try clear hi)) | (go_at_call 21; (with_reducible refine (impl_CanReach.calls (wrap64 (15 + (Int.tmod t162 20))) t172 (Int.tmod t164 30) (Int.tmod t165 10) true _ A80.out).mono ?_); rintro e w91 ⟨rfl, hb⟩; have n0_ := Aside0.mk (below_step (by repeat (first | (with_reducible first | exact HB.out | apply below_alloc | apply pw_below_drewN | apply below_drew1) | exact HB.out)) hb); clear HB; have HB := n0_; clear n0_; (try clear hb); (try clear hb2); (try clear hk); (try clear hi)) | (go_at_call 21; (with_reducible refine (impl_CanReach.calls (wrap64 (15 + (Int.tmod t162 20))) (wrap64 (t172 + 1)) (Int.tmod t164 30) (Int.tmod t165 10) false _ A87.out).mono ?_); rintro e w92 ⟨rfl, hb⟩; have n0_ := Aside0.mk (below_step (by repeat (first | (with_reducible first | exact HB.out | apply below_alloc | apply pw_below_drewN | apply below_drew1) | exact HB.out)) hb); clear HB; have HB := n0_; clear n0_; (try clear hb); (try clear hb2); (try clear hk); (try clear hi)) | (go_at_call 23; (with_reducible refine (impl_DoughHeat.calls kj13 (-5) 0 0 0 t187 _ A89.out).mono ?_); rintro e w93 ⟨rfl, hb⟩; have n0_ := Aside0.mk (below_step (by repeat (first | (with_reducible first | exact HB.out | apply below_alloc | apply pw_below_drewN | apply below_drew1) | exact HB.out)) hb); clear HB; have HB := n0_; clear n0_; (try clear hb); (try clear hb2); (try clear hk); (try clear hi)))
               go_ret
               exact ⟨by first | rfl | (simp [errW_none, errW_some] <;> rfl) | (simp [*, errW_none, errW_some] <;> rfl), by repeat (first | (with_reducible first | exact HB.out | apply below_alloc | apply pw_below_drewN | apply below_drew1) | exact HB.out)⟩
            ·replace c81 := Bool.eq_false_iff.mpr c81
             subst c81
             have H1 : (some false) = some r := by rw [if_neg (show ¬ (false = true) by decide)] at H; exact H
             clear H
             have H := H1
             clear H1
             exact absurd (H.trans (congrArg some HRT.out)) (by simp)
          ·rw [if_neg c75] at H
           have c75b0 : decide ((Int.tmod t163 30) ≤ t172) = false := decide_eq_false c75
           clear c75
           exact absurd (H.trans (congrArg some HRT.out)) (by simp)
         ·replace c74 := Bool.eq_false_iff.mpr c74
          subst c74
          have H1 : (if t172 = (-1000) then ((impl_DoughHeat.f kj13 (-5) 0 0 0).bind fun t188 => (some (t188 == (-2)))) else ((impl_CanReach.f (wrap64 (15 + (Int.tmod t162 20))) t172 (Int.tmod t164 30) (Int.tmod t165 10)).bind fun t189 => (if t189 = true then (if t172 = 60 then ((impl_DoughHeat.f kj13 (-5) 0 0 0).bind fun t190 => (some (t190 == (-2)))) else ((impl_CanReach.f (wrap64 (15 + (Int.tmod t162 20))) (wrap64 (t172 + 1)) (Int.tmod t164 30) (Int.tmod t165 10)).bind fun t191 => (if t191 = true then (some false) else ((impl_DoughHeat.f kj13 (-5) 0 0 0).bind fun t192 => (some (t192 == (-2))))))) else (some false)))) = some r := by rw [if_neg (show ¬ (false = true) by decide)] at H; exact H
          clear H
          have H := H1
          clear H1
          by_cases c94 : t172 = (-1000)
          ·rw [if_pos c94] at H
           have c94b0 : (t172 == (-1000)) = true := beq_iff_eq.mpr c94
           have c94b1 : (t172 != (-1000)) = false := bne_eq_false_iff_eq.mpr c94
           clear c94
           replace H := Option.bind_eq_some_iff.mp H
           obtain ⟨t188, A950, H⟩ := H
           replace H : (some (t188 == (-2))) = some r := H
           have A95 := Aside0.mk A950
           clear A950
           obtain rfl := Option.some.inj H
           go_wp2_with (first | ((with_reducible refine gate_callee (f := 25) rfl ?_); refine goesL_ (some 103) rfl rfl Try.func25 (by kernel_rfl) rfl #[.int .i64 (wrap64 (15 + (Int.tmod t162 20))), .int .i64 (Int.tmod t164 30), .int .i64 (Int.tmod t165 10)] rfl (by (try simp only [List.map_toArray, List.map_cons, List.map_nil]); first | done | rfl | (simp only [List.length_drop, List.length_take]; rfl)) ?_; (with_reducible refine (impl_HottestFlour.calls kj13 (wrap64 (15 + (Int.tmod t162 20))) (Int.tmod t164 30) (Int.tmod t165 10) t172 _ A30.out).mono ?_); rintro e w96 ⟨rfl, hb⟩; refine ⟨_, rfl, ?_⟩; have n0_ := Aside0.mk (below_step (by repeat (first | (with_reducible first | exact HB.out | apply below_alloc | apply pw_below_drewN | apply below_drew1) | exact HB.out)) hb); clear HB; have HB := n0_; clear n0_; (try clear hb); (try clear hb2); (try clear hk); (try clear hi)) | (go_at_call 23; (with_reducible refine (impl_DoughHeat.calls kj13 (-5) 0 0 0 t188 _ A95.out).mono ?_); rintro e w97 ⟨rfl, hb⟩; have n0_ := Aside0.mk (below_step (by repeat (first | (with_reducible first | exact HB.out | apply below_alloc | apply pw_below_drewN | apply below_drew1) | exact HB.out)) hb); clear HB; have HB := n0_; clear n0_; (try clear hb); (try clear hb2); (try clear hk); (try clear hi)))
           go_ret
           exact ⟨by first | rfl | (simp [errW_none, errW_some] <;> rfl) | (simp [*, errW_none, errW_some] <;> rfl), by repeat (first | (with_reducible first | exact HB.out | apply below_alloc | apply pw_below_drewN | apply below_drew1) | exact HB.out)⟩
          ·rw [if_neg c94] at H
           have c94b0 : (t172 == (-1000)) = false := beq_eq_false_iff_ne.mpr c94
           have c94b1 : (t172 != (-1000)) = true := bne_iff_ne.mpr c94
           replace H := Option.bind_eq_some_iff.mp H
           obtain ⟨t189, A980, H⟩ := H
           replace H : (if t189 = true then (if t172 = 60 then ((impl_DoughHeat.f kj13 (-5) 0 0 0).bind fun t190 => (some (t190 == (-2)))) else ((impl_CanReach.f (wrap64 (15 + (Int.tmod t162 20))) (wrap64 (t172 + 1)) (Int.tmod t164 30) (Int.tmod t165 10)).bind fun t191 => (if t191 = true then (some false) else ((impl_DoughHeat.f kj13 (-5) 0 0 0).bind fun t192 => (some (t192 == (-2))))))) else (some false)) = some r := H
           have A98 := Aside0.mk A980
           clear A980
           by_cases c99 : t189 = true
           ·subst c99
            have H1 : (if t172 = 60 then ((impl_DoughHeat.f kj13 (-5) 0 0 0).bind fun t190 => (some (t190 == (-2)))) else ((impl_CanReach.f (wrap64 (15 + (Int.tmod t162 20))) (wrap64 (t172 + 1)) (Int.tmod t164 30) (Int.tmod t165 10)).bind fun t191 => (if t191 = true then (some false) else ((impl_DoughHeat.f kj13 (-5) 0 0 0).bind fun t192 => (some (t192 == (-2))))))) = some r := by rw [if_pos rfl] at H; exact H
            clear H
            have H := H1
            clear H1
            by_cases c100 : t172 = 60
            ·rw [if_pos c100] at H
             have c100b0 : (t172 == 60) = true := beq_iff_eq.mpr c100
             have c100b1 : (t172 != 60) = false := bne_eq_false_iff_eq.mpr c100
             clear c100
             replace H := Option.bind_eq_some_iff.mp H
             obtain ⟨t190, A1010, H⟩ := H
             replace H : (some (t190 == (-2))) = some r := H
             have A101 := Aside0.mk A1010
             clear A1010
             obtain rfl := Option.some.inj H
             go_wp2_with (first | ((with_reducible refine gate_callee (f := 25) rfl ?_); refine goesL_ (some 103) rfl rfl Try.func25 (by kernel_rfl) rfl #[.int .i64 (wrap64 (15 + (Int.tmod t162 20))), .int .i64 (Int.tmod t164 30), .int .i64 (Int.tmod t165 10)] rfl (by (try simp only [List.map_toArray, List.map_cons, List.map_nil]); first | done | rfl | (simp only [List.length_drop, List.length_take]; rfl)) ?_; (with_reducible refine (impl_HottestFlour.calls kj13 (wrap64 (15 + (Int.tmod t162 20))) (Int.tmod t164 30) (Int.tmod t165 10) t172 _ A30.out).mono ?_); rintro e w102 ⟨rfl, hb⟩; refine ⟨_, rfl, ?_⟩; have n0_ := Aside0.mk (below_step (by repeat (first | (with_reducible first | exact HB.out | apply below_alloc | apply pw_below_drewN | apply below_drew1) | exact HB.out)) hb); clear HB; have HB := n0_; clear n0_; (try clear hb); (try clear hb2); (try clear hk); (try clear hi)) | (go_at_call 21; (with_reducible refine (impl_CanReach.calls (wrap64 (15 + (Int.tmod t162 20))) t172 (Int.tmod t164 30) (Int.tmod t165 10) true _ A98.out).mono ?_); rintro e w103 ⟨rfl, hb⟩; have n0_ := Aside0.mk (below_step (by repeat (first | (with_reducible first | exact HB.out | apply below_alloc | apply pw_below_drewN | apply below_drew1) | exact HB.out)) hb); clear HB; have HB := n0_; clear n0_; (try clear hb); (try clear hb2); (try clear hk); (try clear hi)) | (go_at_call 23; (with_reducible refine (impl_DoughHeat.calls kj13 (-5) 0 0 0 t190 _ A101.out).mono ?_); rintro e w104 ⟨rfl, hb⟩; have n0_ := Aside0.mk (below_step (by repeat (first | (with_reducible first | exact HB.out | apply below_alloc | apply pw_below_drewN | apply below_drew1) | exact HB.out)) hb); clear HB; have HB := n0_; clear n0_; (try clear hb); (try clear hb2); (try clear hk); (try clear hi)))
             go_ret
             exact ⟨by first | rfl | (simp [errW_none, errW_some] <;> rfl) | (simp [*, errW_none, errW_some] <;> rfl), by repeat (first | (with_reducible first | exact HB.out | apply below_alloc | apply pw_below_drewN | apply below_drew1) | exact HB.out)⟩
            ·rw [if_neg c100] at H
             have c100b0 : (t172 == 60) = false := beq_eq_false_iff_ne.mpr c100
             have c100b1 : (t172 != 60) = true := bne_iff_ne.mpr c100
             replace H := Option.bind_eq_some_iff.mp H
             obtain ⟨t191, A1050, H⟩ := H
             replace H : (if t191 = true then (some false) else ((impl_DoughHeat.f kj13 (-5) 0 0 0).bind fun t192 => (some (t192 == (-2))))) = some r := H
             have A105 := Aside0.mk A1050
             clear A1050
             by_cases c106 : t191 = true
             ·subst c106
              have H1 : (some false) = some r := by rw [if_pos rfl] at H; exact H
              clear H
              have H := H1
              clear H1
              exact absurd (H.trans (congrArg some HRT.out)) (by simp)
             ·replace c106 := Bool.eq_false_iff.mpr c106
              subst c106
              have H1 : ((impl_DoughHeat.f kj13 (-5) 0 0 0).bind fun t192 => (some (t192 == (-2)))) = some r := by rw [if_neg (show ¬ (false = true) by decide)] at H; exact H
              clear H
              have H := H1
              clear H1
              replace H := Option.bind_eq_some_iff.mp H
              obtain ⟨t192, A1070, H⟩ := H
              replace H : (some (t192 == (-2))) = some r := H
              have A107 := Aside0.mk A1070
              clear A1070
              obtain rfl := Option.some.inj H
              go_wp2_with (first | ((with_reducible refine gate_callee (f := 25) rfl ?_); refine goesL_ (some 103) rfl rfl Try.func25 (by kernel_rfl) rfl #[.int .i64 (wrap64 (15 + (Int.tmod t162 20))), .int .i64 (Int.tmod t164 30), .int .i64 (Int.tmod t165 10)] rfl (by (try simp only [List.map_toArray, List.map_cons, List.map_nil]); first | done | rfl | (simp only [List.length_drop, List.length_take]; rfl)) ?_; (with_reducible refine (impl_HottestFlour.calls kj13 (wrap64 (15 + (Int.tmod t162 20))) (Int.tmod t164 30) (Int.tmod t165 10) t172 _ A30.out).mono ?_); rintro e w108 ⟨rfl, hb⟩; refine ⟨_, rfl, ?_⟩; have n0_ := Aside0.mk (below_step (by repeat (first | (with_reducible first | exact HB.out | apply below_alloc | apply pw_below_drewN | apply below_drew1) | exact HB.out)) hb); clear HB; have HB := n0_; clear n0_; (try clear hb); (try clear hb2); (try clear hk); (try clear hi)) | (go_at_call 21; (with_reducible refine (impl_CanReach.calls (wrap64 (15 + (Int.tmod t162 20))) t172 (Int.tmod t164 30) (Int.tmod t165 10) true _ A98.out).mono ?_); rintro e w109 ⟨rfl, hb⟩; have n0_ := Aside0.mk (below_step (by repeat (first | (with_reducible first | exact HB.out | apply below_alloc | apply pw_below_drewN | apply below_drew1) | exact HB.out)) hb); clear HB; have HB := n0_; clear n0_; (try clear hb); (try clear hb2); (try clear hk); (try clear hi)) | (go_at_call 21; (with_reducible refine (impl_CanReach.calls (wrap64 (15 + (Int.tmod t162 20))) (wrap64 (t172 + 1)) (Int.tmod t164 30) (Int.tmod t165 10) false _ A105.out).mono ?_); rintro e w110 ⟨rfl, hb⟩; have n0_ := Aside0.mk (below_step (by repeat (first | (with_reducible first | exact HB.out | apply below_alloc | apply pw_below_drewN | apply below_drew1) | exact HB.out)) hb); clear HB; have HB := n0_; clear n0_; (try clear hb); (try clear hb2); (try clear hk); (try clear hi)) | (go_at_call 23; (with_reducible refine (impl_DoughHeat.calls kj13 (-5) 0 0 0 t192 _ A107.out).mono ?_); rintro e w111 ⟨rfl, hb⟩; have n0_ := Aside0.mk (below_step (by repeat (first | (with_reducible first | exact HB.out | apply below_alloc | apply pw_below_drewN | apply below_drew1) | exact HB.out)) hb); clear HB; have HB := n0_; clear n0_; (try clear hb); (try clear hb2); (try clear hk); (try clear hi)))
              go_ret
              exact ⟨by first | rfl | (simp [errW_none, errW_some] <;> rfl) | (simp [*, errW_none, errW_some] <;> rfl), by repeat (first | (with_reducible first | exact HB.out | apply below_alloc | apply pw_below_drewN | apply below_drew1) | exact HB.out)⟩
           ·replace c99 := Bool.eq_false_iff.mpr c99
            subst c99
            have H1 : (some false) = some r := by rw [if_neg (show ¬ (false = true) by decide)] at H; exact H
            clear H
            have H := H1
            clear H1
            exact absurd (H.trans (congrArg some HRT.out)) (by simp)
        ·rw [if_neg c73] at H
         have c73b0 : (t168 == false) = false := by simpa using c73
         (try (have c73b1 : decide (t168 = false) = false := by simpa using c73))
         (try (have c73b2 : (t168 == false) = false := by simpa using c73))
         (try (have c73b3 : ¬ (t168 = false) := by simpa using c73))
         clear c73
         exact absurd (H.trans (congrArg some HRT.out)) (by simp)
      ·rw [if_neg c32] at H
       have c32b0 : (t166 == (wrap64 ((wrap64 ((wrap64 ((wrap64 (3 * (wrap64 (15 + (Int.tmod t162 20))))) - (Int.tmod t163 30))) - (Int.tmod t164 30))) - (Int.tmod t165 10)))) = false := beq_eq_false_iff_ne.mpr c32
       have c32b1 : (t166 != (wrap64 ((wrap64 ((wrap64 ((wrap64 (3 * (wrap64 (15 + (Int.tmod t162 20))))) - (Int.tmod t163 30))) - (Int.tmod t164 30))) - (Int.tmod t165 10)))) = true := bne_iff_ne.mpr c32
       exact absurd (H.trans (congrArg some HRT.out)) (by simp)
     ·rw [if_neg c31] at H
      have c31b0 : (t167 == (wrap64 (15 + (Int.tmod t162 20)))) = false := beq_eq_false_iff_ne.mpr c31
      have c31b1 : (t167 != (wrap64 (15 + (Int.tmod t162 20)))) = true := bne_iff_ne.mpr c31
      exact absurd (H.trans (congrArg some HRT.out)) (by simp)
/-- THE ONE PURE STATEMENT of laws_FnWarms. -/
def laws_FnWarms.Pure : Prop := ∀ (l0 : List Int), l0.length ≤ maxLen → l0.length * 1 ≤ 140737488351232 → (∀ x ∈ l0, (Lit.int .u8 x).wf = true) → ∃ k, laws_FnWarms.f k l0 = some true
theorem laws_FnWarms.walk (P : laws_FnWarms.Pure) (A0 : Option Addr) (c0 : Nat) (l0 : List Int) (w : World) (hr0 : Kd.C (Kd.int .u8) w A0 l0.length l0) (hc0 : l0.length ≤ c0) (y0 : l0.length ≤ maxLen) (y1 : l0.length * 1 ≤ 140737488351232) (y2 : (∀ x ∈ l0, (Lit.int .u8 x).wf = true)) :
  Calls Try.prog 10 #[.slice A0 l0.length c0] w fun e w' => e = .returned (.bool true) ∧ Below w.heap.size w w' := by
 obtain ⟨k, h⟩ := P l0 y0 y1 y2
 refine (laws_FnWarms.calls k A0 c0 l0 true w hr0 hc0 rfl h).mono ?_
 rintro e w' ⟨rfl, hd⟩
 exact ⟨rfl, hd⟩

end Go.Proofs.Ytmfphmjaokeeaaa.PA
