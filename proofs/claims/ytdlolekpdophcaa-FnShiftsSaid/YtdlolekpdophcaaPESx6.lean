-- Written by a program of this session (wip/hprint.py, over the kit's print).
import Derived.Test.YtdlolekpdophcaaPESx0
import Derived.Test.YtdlolekpdophcaaPESx2
import Derived.Test.YtdlolekpdophcaaPESx3
import Derived.Test.YtdlolekpdophcaaPESx4
import Derived.Test.YtdlolekpdophcaaPESx5
namespace Go.Proofs.Ytdlolekpdophcaa.PES
open Go.RowKit Go.Proofs.YtdlolekpdophcaaW.PrintWords Go.Proofs.YtdlolekpdophcaaW.PrintLast Go.Proofs.YtdlolekpdophcaaW.PrintMore
attribute [local go_sem] max2_int min2_int max_two min_two max_three min_three max_four min_four   -- for this text's walks alone
set_option linter.unusedVariables false
set_option linter.unusedSimpArgs false

/-! ### laws_FnShifts: function 8 -/
mutual
def laws_FnShifts.j0 : Nat → List (S39) → Int → Int → Int → List Int → Bool → Option (Bool)
 | 0, _, _, _, _, _, _ => none
 | k + 1, x3, x4, x6, x7, x8, x64 => if x64 = true then (some false) else (laws_FnShifts.l0 k x3 x4 x6 x7 x8 0 0)
def laws_FnShifts.l0 : Nat → List (S39) → Int → Int → Int → List Int → Int → Int → Option (Bool)
 | 0, _, _, _, _, _, _, _ => none
 | k + 1, x3, x4, x6, x7, x8, x9, x10 => if x10 < (x3.length : Int) then (if 0 ≤ x10 then (if x10 > 0 then (if 0 ≤ (wrap64 (x10 - 1)) then (if (wrap64 (x10 - 1)) < (x3.length : Int) then (if (wrap64 (((rd_T39 x3 x10).f0) - ((rd_T39 x3 (wrap64 (x10 - 1))).f1))) < x6 then (some false) else (laws_FnShifts.l0 k x3 x4 x6 x7 x8 (wrap64 ((wrap64 (x9 + ((rd_T39 x3 x10).f1))) - ((rd_T39 x3 x10).f0))) (wrap64 (x10 + 1)))) else (none)) else (none)) else (laws_FnShifts.l0 k x3 x4 x6 x7 x8 (wrap64 ((wrap64 (x9 + ((rd_T39 x3 x10).f1))) - ((rd_T39 x3 x10).f0))) (wrap64 (x10 + 1)))) else (none)) else (laws_FnShifts.l1 k x3 x4 x6 x7 x8 x9 0)
def laws_FnShifts.l1 : Nat → List (S39) → Int → Int → Int → List Int → Int → Int → Option (Bool)
 | 0, _, _, _, _, _, _, _ => none
 | k + 1, x3, x4, x6, x7, x8, x9, x11 => if x11 < (x8.length : Int) then (if 0 ≤ x11 then (if (rd x8 x11) < 0 then (some false) else (if (rd x8 x11) ≥ (x3.length : Int) then (some false) else (if x11 > 0 then (if 0 ≤ (rd x8 x11) then (if (rd x8 x11) < (x3.length : Int) then (if 0 ≤ (wrap64 (x11 - 1)) then (if (wrap64 (x11 - 1)) < (x8.length : Int) then (if 0 ≤ (rd x8 (wrap64 (x11 - 1))) then (if (rd x8 (wrap64 (x11 - 1))) < (x3.length : Int) then (if (wrap64 (((rd_T39 x3 (rd x8 x11)).f0) - ((rd_T39 x3 (rd x8 (wrap64 (x11 - 1)))).f1))) < x7 then (some false) else (laws_FnShifts.l1 k x3 x4 x6 x7 x8 x9 (wrap64 (x11 + 1)))) else (none)) else (none)) else (none)) else (none)) else (none)) else (none)) else (laws_FnShifts.l1 k x3 x4 x6 x7 x8 x9 (wrap64 (x11 + 1)))))) else (none)) else (if x6 ≥ x7 then (laws_FnShifts.j3 k x3 x4 x6 x7 x8 x9 ((x8.length : Int) != (x3.length : Int))) else (laws_FnShifts.j3 k x3 x4 x6 x7 x8 x9 false))
def laws_FnShifts.j3 : Nat → List (S39) → Int → Int → Int → List Int → Int → Bool → Option (Bool)
 | 0, _, _, _, _, _, _, _ => none
 | k + 1, x3, x4, x6, x7, x8, x9, x157 => if x157 = true then (some false) else (laws_FnShifts.l2 k x3 x4 x6 x7 x8 x9 0)
def laws_FnShifts.l2 : Nat → List (S39) → Int → Int → Int → List Int → Int → Int → Option (Bool)
 | 0, _, _, _, _, _, _, _ => none
 | k + 1, x3, x4, x6, x7, x8, x9, x12 => if x12 < (x3.length : Int) then ((laws_has.f k x8 x12).bind fun t196 => (if t196 = true then (laws_FnShifts.l2 k x3 x4 x6 x7 x8 x9 (wrap64 (x12 + 1))) else (laws_FnShifts.l3 k x3 x4 x6 x7 x8 x9 x12 true 0))) else (if x9 = x4 then ((impl_IsAllowed.f k x3 x6 x4).bind fun t205 => (if t205 = true then ((impl_IsAllowed.f k x3 x6 (wrap64 (x4 - 1))).bind fun t206 => (if t206 = true then (some false) else ((impl_NightHours.f k (([(⟨20, 30⟩ : S39)] : List (S39)))).bind fun t207 => (if t207 = 8 then ((impl_ShiftsOk.f k x3).bind fun t208 => (some t208)) else (some false))))) else (some false))) else (some false))
def laws_FnShifts.l3 : Nat → List (S39) → Int → Int → Int → List Int → Int → Int → Bool → Int → Option (Bool)
 | 0, _, _, _, _, _, _, _, _, _ => none
 | k + 1, x3, x4, x6, x7, x8, x9, x12, x13, x14 => if x14 < (x8.length : Int) then (if 0 ≤ x14 then (if 0 ≤ (rd x8 x14) then (if (rd x8 x14) < (x3.length : Int) then (if x13 = true then (if 0 ≤ x12 then (if x12 < (x3.length : Int) then (if (wrap64 (((rd_T39 x3 x12).f0) - ((rd_T39 x3 (rd x8 x14)).f1))) ≥ x7 then (laws_FnShifts.l3 k x3 x4 x6 x7 x8 x9 x12 true (wrap64 (x14 + 1))) else (laws_FnShifts.l3 k x3 x4 x6 x7 x8 x9 x12 (decide ((wrap64 (((rd_T39 x3 (rd x8 x14)).f0) - ((rd_T39 x3 x12).f1))) ≥ x7)) (wrap64 (x14 + 1)))) else (none)) else (none)) else (laws_FnShifts.l3 k x3 x4 x6 x7 x8 x9 x12 false (wrap64 (x14 + 1)))) else (none)) else (none)) else (none)) else (if x13 = true then (some false) else (laws_FnShifts.l2 k x3 x4 x6 x7 x8 x9 (wrap64 (x12 + 1))))
end
def laws_FnShifts.f (k : Nat) (l0 : List Int) : Option (Bool) := (laws_big.f l0).bind fun t175 => (if t175 = true then (some true) else ((spec_DrawShifts.f k l0).bind fun t176 => ((impl_HoursOf.f k t176).bind fun t179 => ((impl_NightHours.f k t176).bind fun t180 => ((impl_RestBetween.f k t176).bind fun t181 => ((laws_at.f l0 0).bind fun t182 => ((impl_MostShifts.f t176 (Int.tmod t182 16)).bind fun t183 => (if t179 < 0 then (laws_FnShifts.j0 k t176 t179 t181 (Int.tmod t182 16) t183 true) else (if t180 < 0 then (laws_FnShifts.j0 k t176 t179 t181 (Int.tmod t182 16) t183 true) else (if t180 > t179 then (laws_FnShifts.j0 k t176 t179 t181 (Int.tmod t182 16) t183 true) else (if t181 < 0 then (laws_FnShifts.j0 k t176 t179 t181 (Int.tmod t182 16) t183 true) else (if (t176.length : Int) > 0 then (if (t183.length : Int) = 0 then (laws_FnShifts.j0 k t176 t179 t181 (Int.tmod t182 16) t183 true) else (laws_FnShifts.j0 k t176 t179 t181 (Int.tmod t182 16) t183 (decide ((t183.length : Int) > (t176.length : Int))))) else (laws_FnShifts.j0 k t176 t179 t181 (Int.tmod t182 16) t183 (decide ((t183.length : Int) > (t176.length : Int))))))))))))))))
theorem laws_FnShifts.mono_l : ∀ k, (∀ y0 y1 y2 y3 y4 y5, LeO (laws_FnShifts.j0 k y0 y1 y2 y3 y4 y5) (laws_FnShifts.j0 (k + 1) y0 y1 y2 y3 y4 y5)) ∧ (∀ y0 y1 y2 y3 y4 y5 y6, LeO (laws_FnShifts.l0 k y0 y1 y2 y3 y4 y5 y6) (laws_FnShifts.l0 (k + 1) y0 y1 y2 y3 y4 y5 y6)) ∧ (∀ y0 y1 y2 y3 y4 y5 y6, LeO (laws_FnShifts.l1 k y0 y1 y2 y3 y4 y5 y6) (laws_FnShifts.l1 (k + 1) y0 y1 y2 y3 y4 y5 y6)) ∧ (∀ y0 y1 y2 y3 y4 y5 y6, LeO (laws_FnShifts.j3 k y0 y1 y2 y3 y4 y5 y6) (laws_FnShifts.j3 (k + 1) y0 y1 y2 y3 y4 y5 y6)) ∧ (∀ y0 y1 y2 y3 y4 y5 y6, LeO (laws_FnShifts.l2 k y0 y1 y2 y3 y4 y5 y6) (laws_FnShifts.l2 (k + 1) y0 y1 y2 y3 y4 y5 y6)) ∧ (∀ y0 y1 y2 y3 y4 y5 y6 y7 y8, LeO (laws_FnShifts.l3 k y0 y1 y2 y3 y4 y5 y6 y7 y8) (laws_FnShifts.l3 (k + 1) y0 y1 y2 y3 y4 y5 y6 y7 y8))
 | 0 => ⟨fun _ _ _ _ _ _ r h => by simp [laws_FnShifts.j0] at h, fun _ _ _ _ _ _ _ r h => by simp [laws_FnShifts.l0] at h, fun _ _ _ _ _ _ _ r h => by simp [laws_FnShifts.l1] at h, fun _ _ _ _ _ _ _ r h => by simp [laws_FnShifts.j3] at h, fun _ _ _ _ _ _ _ r h => by simp [laws_FnShifts.l2] at h, fun _ _ _ _ _ _ _ _ _ r h => by simp [laws_FnShifts.l3] at h⟩
 | k + 1 => by
  obtain ⟨ih0, ih1, ih2, ih3, ih4, ih5⟩ := laws_FnShifts.mono_l k
  refine ⟨?_, ?_, ?_, ?_, ?_, ?_⟩
  ·intro y0 y1 y2 y3 y4 y5
   unfold laws_FnShifts.j0
   repeat' first
   | (with_reducible exact ih0 _ _ _ _ _ _)
   | (with_reducible exact ih1 _ _ _ _ _ _ _)
   | (with_reducible exact ih2 _ _ _ _ _ _ _)
   | (with_reducible exact ih3 _ _ _ _ _ _ _)
   | (with_reducible exact ih4 _ _ _ _ _ _ _)
   | (with_reducible exact ih5 _ _ _ _ _ _ _ _ _)
   | (with_reducible exact impl_HoursOf.mono _ _)
   | (with_reducible exact impl_IsAllowed.mono _ _ _ _)
   | (with_reducible exact impl_NightHours.mono _ _)
   | (with_reducible exact impl_RestBetween.mono _ _)
   | (with_reducible exact impl_ShiftsOk.mono _ _)
   | (with_reducible exact laws_has.mono _ _ _)
   | (with_reducible exact spec_DrawShifts.mono _ _)
   | (with_reducible exact LeO.refl _)
   | (with_reducible exact LeO.none _)
   | (with_reducible refine LeO.ite ?_ ?_)
   | (with_reducible refine LeO.bind ?_ (fun _ => ?_))
   | exact ih0 _ _ _ _ _ _
   | exact ih1 _ _ _ _ _ _ _
   | exact ih2 _ _ _ _ _ _ _
   | exact ih3 _ _ _ _ _ _ _
   | exact ih4 _ _ _ _ _ _ _
   | exact ih5 _ _ _ _ _ _ _ _ _
   | exact impl_HoursOf.mono _ _
   | exact impl_IsAllowed.mono _ _ _ _
   | exact impl_NightHours.mono _ _
   | exact impl_RestBetween.mono _ _
   | exact impl_ShiftsOk.mono _ _
   | exact laws_has.mono _ _ _
   | exact spec_DrawShifts.mono _ _
   | exact LeO.none _
   | refine LeO.ite ?_ ?_
   | refine LeO.bind ?_ (fun _ => ?_)
  ·intro y0 y1 y2 y3 y4 y5 y6
   unfold laws_FnShifts.l0
   repeat' first
   | (with_reducible exact ih0 _ _ _ _ _ _)
   | (with_reducible exact ih1 _ _ _ _ _ _ _)
   | (with_reducible exact ih2 _ _ _ _ _ _ _)
   | (with_reducible exact ih3 _ _ _ _ _ _ _)
   | (with_reducible exact ih4 _ _ _ _ _ _ _)
   | (with_reducible exact ih5 _ _ _ _ _ _ _ _ _)
   | (with_reducible exact impl_HoursOf.mono _ _)
   | (with_reducible exact impl_IsAllowed.mono _ _ _ _)
   | (with_reducible exact impl_NightHours.mono _ _)
   | (with_reducible exact impl_RestBetween.mono _ _)
   | (with_reducible exact impl_ShiftsOk.mono _ _)
   | (with_reducible exact laws_has.mono _ _ _)
   | (with_reducible exact spec_DrawShifts.mono _ _)
   | (with_reducible exact LeO.refl _)
   | (with_reducible exact LeO.none _)
   | (with_reducible refine LeO.ite ?_ ?_)
   | (with_reducible refine LeO.bind ?_ (fun _ => ?_))
   | exact ih0 _ _ _ _ _ _
   | exact ih1 _ _ _ _ _ _ _
   | exact ih2 _ _ _ _ _ _ _
   | exact ih3 _ _ _ _ _ _ _
   | exact ih4 _ _ _ _ _ _ _
   | exact ih5 _ _ _ _ _ _ _ _ _
   | exact impl_HoursOf.mono _ _
   | exact impl_IsAllowed.mono _ _ _ _
   | exact impl_NightHours.mono _ _
   | exact impl_RestBetween.mono _ _
   | exact impl_ShiftsOk.mono _ _
   | exact laws_has.mono _ _ _
   | exact spec_DrawShifts.mono _ _
   | exact LeO.none _
   | refine LeO.ite ?_ ?_
   | refine LeO.bind ?_ (fun _ => ?_)
  ·intro y0 y1 y2 y3 y4 y5 y6
   unfold laws_FnShifts.l1
   repeat' first
   | (with_reducible exact ih0 _ _ _ _ _ _)
   | (with_reducible exact ih1 _ _ _ _ _ _ _)
   | (with_reducible exact ih2 _ _ _ _ _ _ _)
   | (with_reducible exact ih3 _ _ _ _ _ _ _)
   | (with_reducible exact ih4 _ _ _ _ _ _ _)
   | (with_reducible exact ih5 _ _ _ _ _ _ _ _ _)
   | (with_reducible exact impl_HoursOf.mono _ _)
   | (with_reducible exact impl_IsAllowed.mono _ _ _ _)
   | (with_reducible exact impl_NightHours.mono _ _)
   | (with_reducible exact impl_RestBetween.mono _ _)
   | (with_reducible exact impl_ShiftsOk.mono _ _)
   | (with_reducible exact laws_has.mono _ _ _)
   | (with_reducible exact spec_DrawShifts.mono _ _)
   | (with_reducible exact LeO.refl _)
   | (with_reducible exact LeO.none _)
   | (with_reducible refine LeO.ite ?_ ?_)
   | (with_reducible refine LeO.bind ?_ (fun _ => ?_))
   | exact ih0 _ _ _ _ _ _
   | exact ih1 _ _ _ _ _ _ _
   | exact ih2 _ _ _ _ _ _ _
   | exact ih3 _ _ _ _ _ _ _
   | exact ih4 _ _ _ _ _ _ _
   | exact ih5 _ _ _ _ _ _ _ _ _
   | exact impl_HoursOf.mono _ _
   | exact impl_IsAllowed.mono _ _ _ _
   | exact impl_NightHours.mono _ _
   | exact impl_RestBetween.mono _ _
   | exact impl_ShiftsOk.mono _ _
   | exact laws_has.mono _ _ _
   | exact spec_DrawShifts.mono _ _
   | exact LeO.none _
   | refine LeO.ite ?_ ?_
   | refine LeO.bind ?_ (fun _ => ?_)
  ·intro y0 y1 y2 y3 y4 y5 y6
   unfold laws_FnShifts.j3
   repeat' first
   | (with_reducible exact ih0 _ _ _ _ _ _)
   | (with_reducible exact ih1 _ _ _ _ _ _ _)
   | (with_reducible exact ih2 _ _ _ _ _ _ _)
   | (with_reducible exact ih3 _ _ _ _ _ _ _)
   | (with_reducible exact ih4 _ _ _ _ _ _ _)
   | (with_reducible exact ih5 _ _ _ _ _ _ _ _ _)
   | (with_reducible exact impl_HoursOf.mono _ _)
   | (with_reducible exact impl_IsAllowed.mono _ _ _ _)
   | (with_reducible exact impl_NightHours.mono _ _)
   | (with_reducible exact impl_RestBetween.mono _ _)
   | (with_reducible exact impl_ShiftsOk.mono _ _)
   | (with_reducible exact laws_has.mono _ _ _)
   | (with_reducible exact spec_DrawShifts.mono _ _)
   | (with_reducible exact LeO.refl _)
   | (with_reducible exact LeO.none _)
   | (with_reducible refine LeO.ite ?_ ?_)
   | (with_reducible refine LeO.bind ?_ (fun _ => ?_))
   | exact ih0 _ _ _ _ _ _
   | exact ih1 _ _ _ _ _ _ _
   | exact ih2 _ _ _ _ _ _ _
   | exact ih3 _ _ _ _ _ _ _
   | exact ih4 _ _ _ _ _ _ _
   | exact ih5 _ _ _ _ _ _ _ _ _
   | exact impl_HoursOf.mono _ _
   | exact impl_IsAllowed.mono _ _ _ _
   | exact impl_NightHours.mono _ _
   | exact impl_RestBetween.mono _ _
   | exact impl_ShiftsOk.mono _ _
   | exact laws_has.mono _ _ _
   | exact spec_DrawShifts.mono _ _
   | exact LeO.none _
   | refine LeO.ite ?_ ?_
   | refine LeO.bind ?_ (fun _ => ?_)
  ·intro y0 y1 y2 y3 y4 y5 y6
   unfold laws_FnShifts.l2
   repeat' first
   | (with_reducible exact ih0 _ _ _ _ _ _)
   | (with_reducible exact ih1 _ _ _ _ _ _ _)
   | (with_reducible exact ih2 _ _ _ _ _ _ _)
   | (with_reducible exact ih3 _ _ _ _ _ _ _)
   | (with_reducible exact ih4 _ _ _ _ _ _ _)
   | (with_reducible exact ih5 _ _ _ _ _ _ _ _ _)
   | (with_reducible exact impl_HoursOf.mono _ _)
   | (with_reducible exact impl_IsAllowed.mono _ _ _ _)
   | (with_reducible exact impl_NightHours.mono _ _)
   | (with_reducible exact impl_RestBetween.mono _ _)
   | (with_reducible exact impl_ShiftsOk.mono _ _)
   | (with_reducible exact laws_has.mono _ _ _)
   | (with_reducible exact spec_DrawShifts.mono _ _)
   | (with_reducible exact LeO.refl _)
   | (with_reducible exact LeO.none _)
   | (with_reducible refine LeO.ite ?_ ?_)
   | (with_reducible refine LeO.bind ?_ (fun _ => ?_))
   | exact ih0 _ _ _ _ _ _
   | exact ih1 _ _ _ _ _ _ _
   | exact ih2 _ _ _ _ _ _ _
   | exact ih3 _ _ _ _ _ _ _
   | exact ih4 _ _ _ _ _ _ _
   | exact ih5 _ _ _ _ _ _ _ _ _
   | exact impl_HoursOf.mono _ _
   | exact impl_IsAllowed.mono _ _ _ _
   | exact impl_NightHours.mono _ _
   | exact impl_RestBetween.mono _ _
   | exact impl_ShiftsOk.mono _ _
   | exact laws_has.mono _ _ _
   | exact spec_DrawShifts.mono _ _
   | exact LeO.none _
   | refine LeO.ite ?_ ?_
   | refine LeO.bind ?_ (fun _ => ?_)
  ·intro y0 y1 y2 y3 y4 y5 y6 y7 y8
   unfold laws_FnShifts.l3
   repeat' first
   | (with_reducible exact ih0 _ _ _ _ _ _)
   | (with_reducible exact ih1 _ _ _ _ _ _ _)
   | (with_reducible exact ih2 _ _ _ _ _ _ _)
   | (with_reducible exact ih3 _ _ _ _ _ _ _)
   | (with_reducible exact ih4 _ _ _ _ _ _ _)
   | (with_reducible exact ih5 _ _ _ _ _ _ _ _ _)
   | (with_reducible exact impl_HoursOf.mono _ _)
   | (with_reducible exact impl_IsAllowed.mono _ _ _ _)
   | (with_reducible exact impl_NightHours.mono _ _)
   | (with_reducible exact impl_RestBetween.mono _ _)
   | (with_reducible exact impl_ShiftsOk.mono _ _)
   | (with_reducible exact laws_has.mono _ _ _)
   | (with_reducible exact spec_DrawShifts.mono _ _)
   | (with_reducible exact LeO.refl _)
   | (with_reducible exact LeO.none _)
   | (with_reducible refine LeO.ite ?_ ?_)
   | (with_reducible refine LeO.bind ?_ (fun _ => ?_))
   | exact ih0 _ _ _ _ _ _
   | exact ih1 _ _ _ _ _ _ _
   | exact ih2 _ _ _ _ _ _ _
   | exact ih3 _ _ _ _ _ _ _
   | exact ih4 _ _ _ _ _ _ _
   | exact ih5 _ _ _ _ _ _ _ _ _
   | exact impl_HoursOf.mono _ _
   | exact impl_IsAllowed.mono _ _ _ _
   | exact impl_NightHours.mono _ _
   | exact impl_RestBetween.mono _ _
   | exact impl_ShiftsOk.mono _ _
   | exact laws_has.mono _ _ _
   | exact spec_DrawShifts.mono _ _
   | exact LeO.none _
   | refine LeO.ite ?_ ?_
   | refine LeO.bind ?_ (fun _ => ?_)
theorem laws_FnShifts.mono : ∀ a0 k, LeO (laws_FnShifts.f k a0) (laws_FnShifts.f (k + 1) a0) := by
 intro a0 k
 obtain ⟨ih0, ih1, ih2, ih3, ih4, ih5⟩ := laws_FnShifts.mono_l k
 unfold laws_FnShifts.f
 repeat' first
   | (with_reducible exact ih0 _ _ _ _ _ _)
   | (with_reducible exact ih1 _ _ _ _ _ _ _)
   | (with_reducible exact ih2 _ _ _ _ _ _ _)
   | (with_reducible exact ih3 _ _ _ _ _ _ _)
   | (with_reducible exact ih4 _ _ _ _ _ _ _)
   | (with_reducible exact ih5 _ _ _ _ _ _ _ _ _)
   | (with_reducible exact impl_HoursOf.mono _ _)
   | (with_reducible exact impl_IsAllowed.mono _ _ _ _)
   | (with_reducible exact impl_NightHours.mono _ _)
   | (with_reducible exact impl_RestBetween.mono _ _)
   | (with_reducible exact impl_ShiftsOk.mono _ _)
   | (with_reducible exact laws_has.mono _ _ _)
   | (with_reducible exact spec_DrawShifts.mono _ _)
   | (with_reducible exact LeO.refl _)
   | (with_reducible exact LeO.none _)
   | (with_reducible refine LeO.ite ?_ ?_)
   | (with_reducible refine LeO.bind ?_ (fun _ => ?_))
   | exact ih0 _ _ _ _ _ _
   | exact ih1 _ _ _ _ _ _ _
   | exact ih2 _ _ _ _ _ _ _
   | exact ih3 _ _ _ _ _ _ _
   | exact ih4 _ _ _ _ _ _ _
   | exact ih5 _ _ _ _ _ _ _ _ _
   | exact impl_HoursOf.mono _ _
   | exact impl_IsAllowed.mono _ _ _ _
   | exact impl_NightHours.mono _ _
   | exact impl_RestBetween.mono _ _
   | exact impl_ShiftsOk.mono _ _
   | exact laws_has.mono _ _ _
   | exact spec_DrawShifts.mono _ _
   | exact LeO.none _
   | refine LeO.ite ?_ ?_
   | refine LeO.bind ?_ (fun _ => ?_)
theorem laws_FnShifts.j0_no {k : Nat} {x3 : List (S39)} {x4 : Int} {x6 : Int} {x7 : Int} {x8 : List Int} {r : Bool} (hr : r = true) (h : laws_FnShifts.j0 k x3 x4 x6 x7 x8 true = some r) : False := by
 subst hr
 cases k <;> simp [laws_FnShifts.j0] at h
theorem laws_FnShifts.j3_no {k : Nat} {x3 : List (S39)} {x4 : Int} {x6 : Int} {x7 : Int} {x8 : List Int} {x9 : Int} {r : Bool} (hr : r = true) (h : laws_FnShifts.j3 k x3 x4 x6 x7 x8 x9 true = some r) : False := by
 subst hr
 cases k <;> simp [laws_FnShifts.j3] at h
set_option maxHeartbeats 8000000 in
set_option maxRecDepth 100000 in
theorem laws_FnShifts.calls (k : Nat) (A0 : Option Addr) (c0 : Nat) (l0 : List Int) (r : Bool) (w : World) (hr0 : Kd.C (Kd.int .u8) w A0 l0.length l0) (hc0 : l0.length ≤ c0) (hrt_ : r = true) (h : laws_FnShifts.f k l0 = some r) :
  Calls Try.prog 8 #[.slice A0 l0.length c0] w fun e w' => e = .returned (.bool r) ∧ Below w.heap.size w w' := by
 have hu39 := Try.underlying39
 have HRT := Aside0.mk hrt_
 clear hrt_
 have HR0 := Aside0.mk hr0
 have HC0 := Aside0.mk hc0
 clear hr0 hc0
 have HB := Aside0.mk (Below.refl w.heap.size w)
 have H : ((laws_big.f l0).bind fun t175 => (if t175 = true then (some true) else ((spec_DrawShifts.f k l0).bind fun t176 => ((impl_HoursOf.f k t176).bind fun t179 => ((impl_NightHours.f k t176).bind fun t180 => ((impl_RestBetween.f k t176).bind fun t181 => ((laws_at.f l0 0).bind fun t182 => ((impl_MostShifts.f t176 (Int.tmod t182 16)).bind fun t183 => (if t179 < 0 then (laws_FnShifts.j0 k t176 t179 t181 (Int.tmod t182 16) t183 true) else (if t180 < 0 then (laws_FnShifts.j0 k t176 t179 t181 (Int.tmod t182 16) t183 true) else (if t180 > t179 then (laws_FnShifts.j0 k t176 t179 t181 (Int.tmod t182 16) t183 true) else (if t181 < 0 then (laws_FnShifts.j0 k t176 t179 t181 (Int.tmod t182 16) t183 true) else (if (t176.length : Int) > 0 then (if (t183.length : Int) = 0 then (laws_FnShifts.j0 k t176 t179 t181 (Int.tmod t182 16) t183 true) else (laws_FnShifts.j0 k t176 t179 t181 (Int.tmod t182 16) t183 (decide ((t183.length : Int) > (t176.length : Int))))) else (laws_FnShifts.j0 k t176 t179 t181 (Int.tmod t182 16) t183 (decide ((t183.length : Int) > (t176.length : Int))))))))))))))))) = some r := h
 clear h
 replace H := Option.bind_eq_some_iff.mp H
 obtain ⟨t175, A20, H⟩ := H
 replace H : (if t175 = true then (some true) else ((spec_DrawShifts.f k l0).bind fun t176 => ((impl_HoursOf.f k t176).bind fun t179 => ((impl_NightHours.f k t176).bind fun t180 => ((impl_RestBetween.f k t176).bind fun t181 => ((laws_at.f l0 0).bind fun t182 => ((impl_MostShifts.f t176 (Int.tmod t182 16)).bind fun t183 => (if t179 < 0 then (laws_FnShifts.j0 k t176 t179 t181 (Int.tmod t182 16) t183 true) else (if t180 < 0 then (laws_FnShifts.j0 k t176 t179 t181 (Int.tmod t182 16) t183 true) else (if t180 > t179 then (laws_FnShifts.j0 k t176 t179 t181 (Int.tmod t182 16) t183 true) else (if t181 < 0 then (laws_FnShifts.j0 k t176 t179 t181 (Int.tmod t182 16) t183 true) else (if (t176.length : Int) > 0 then (if (t183.length : Int) = 0 then (laws_FnShifts.j0 k t176 t179 t181 (Int.tmod t182 16) t183 true) else (laws_FnShifts.j0 k t176 t179 t181 (Int.tmod t182 16) t183 (decide ((t183.length : Int) > (t176.length : Int))))) else (laws_FnShifts.j0 k t176 t179 t181 (Int.tmod t182 16) t183 (decide ((t183.length : Int) > (t176.length : Int)))))))))))))))) = some r := H
 have A2 := Aside0.mk A20
 clear A20
 by_cases c3 : t175 = true
 ·subst c3
  have H1 : (some true) = some r := by rw [if_pos rfl] at H; exact H
  clear H
  have H := H1
  clear H1
  obtain rfl := Option.some.inj H
  go_enter Try.func8, Try.ntmps8
  go_wp2_with (first | (go_at_call 23; (with_reducible refine (laws_big.calls _ _ l0 true _ ?side1 ?side2 A2.out).mono ?_); (case side1 => repeat (first | exact HR0.out | (with_reducible refine Kd.C_alloc ?_ _) | (with_reducible refine Kd.C_drewN ?_ _) | (with_reducible refine Kd.C_drew ?_))); (case side2 => exact HC0.out); rintro e w' ⟨rfl, ⟨nd, rfl⟩⟩; (try first | exact ⟨rfl, _, World.drewN_drewN _ _ _⟩ | exact ⟨rfl, _, Eq.trans (World.drewN_drewN _ _ _) (congrArg (World.drewN _) (Nat.add_assoc _ _ _))⟩)))
  repeat (go_quiet (first | (go_at_call 23; (with_reducible refine (laws_big.calls _ _ l0 true _ ?side1 ?side2 A2.out).mono ?_); (case side1 => repeat (first | exact HR0.out | (with_reducible refine Kd.C_alloc ?_ _) | (with_reducible refine Kd.C_drewN ?_ _) | (with_reducible refine Kd.C_drew ?_))); (case side2 => exact HC0.out); rintro e w' ⟨rfl, ⟨nd, rfl⟩⟩; (try first | exact ⟨rfl, _, World.drewN_drewN _ _ _⟩ | exact ⟨rfl, _, Eq.trans (World.drewN_drewN _ _ _) (congrArg (World.drewN _) (Nat.add_assoc _ _ _))⟩))); try go_wp2_with (first | (go_at_call 23; (with_reducible refine (laws_big.calls _ _ l0 true _ ?side1 ?side2 A2.out).mono ?_); (case side1 => repeat (first | exact HR0.out | (with_reducible refine Kd.C_alloc ?_ _) | (with_reducible refine Kd.C_drewN ?_ _) | (with_reducible refine Kd.C_drew ?_))); (case side2 => exact HC0.out); rintro e w' ⟨rfl, ⟨nd, rfl⟩⟩; (try first | exact ⟨rfl, _, World.drewN_drewN _ _ _⟩ | exact ⟨rfl, _, Eq.trans (World.drewN_drewN _ _ _) (congrArg (World.drewN _) (Nat.add_assoc _ _ _))⟩))))
  go_ret
  exact ⟨by first | rfl | (simp [errW_none, errW_some] <;> rfl) | (simp [*, errW_none, errW_some] <;> rfl), by repeat (first | (with_reducible first | exact HB.out | apply below_alloc | apply pw_below_drewN | apply below_drew1) | exact HB.out)⟩
 ·replace c3 := Bool.eq_false_iff.mpr c3
  subst c3
  have H1 : ((spec_DrawShifts.f k l0).bind fun t176 => ((impl_HoursOf.f k t176).bind fun t179 => ((impl_NightHours.f k t176).bind fun t180 => ((impl_RestBetween.f k t176).bind fun t181 => ((laws_at.f l0 0).bind fun t182 => ((impl_MostShifts.f t176 (Int.tmod t182 16)).bind fun t183 => (if t179 < 0 then (laws_FnShifts.j0 k t176 t179 t181 (Int.tmod t182 16) t183 true) else (if t180 < 0 then (laws_FnShifts.j0 k t176 t179 t181 (Int.tmod t182 16) t183 true) else (if t180 > t179 then (laws_FnShifts.j0 k t176 t179 t181 (Int.tmod t182 16) t183 true) else (if t181 < 0 then (laws_FnShifts.j0 k t176 t179 t181 (Int.tmod t182 16) t183 true) else (if (t176.length : Int) > 0 then (if (t183.length : Int) = 0 then (laws_FnShifts.j0 k t176 t179 t181 (Int.tmod t182 16) t183 true) else (laws_FnShifts.j0 k t176 t179 t181 (Int.tmod t182 16) t183 (decide ((t183.length : Int) > (t176.length : Int))))) else (laws_FnShifts.j0 k t176 t179 t181 (Int.tmod t182 16) t183 (decide ((t183.length : Int) > (t176.length : Int))))))))))))))) = some r := by rw [if_neg (show ¬ (false = true) by decide)] at H; exact H
  clear H
  have H := H1
  clear H1
  replace H := Option.bind_eq_some_iff.mp H
  obtain ⟨t176, A40, H⟩ := H
  replace H : ((impl_HoursOf.f k t176).bind fun t179 => ((impl_NightHours.f k t176).bind fun t180 => ((impl_RestBetween.f k t176).bind fun t181 => ((laws_at.f l0 0).bind fun t182 => ((impl_MostShifts.f t176 (Int.tmod t182 16)).bind fun t183 => (if t179 < 0 then (laws_FnShifts.j0 k t176 t179 t181 (Int.tmod t182 16) t183 true) else (if t180 < 0 then (laws_FnShifts.j0 k t176 t179 t181 (Int.tmod t182 16) t183 true) else (if t180 > t179 then (laws_FnShifts.j0 k t176 t179 t181 (Int.tmod t182 16) t183 true) else (if t181 < 0 then (laws_FnShifts.j0 k t176 t179 t181 (Int.tmod t182 16) t183 true) else (if (t176.length : Int) > 0 then (if (t183.length : Int) = 0 then (laws_FnShifts.j0 k t176 t179 t181 (Int.tmod t182 16) t183 true) else (laws_FnShifts.j0 k t176 t179 t181 (Int.tmod t182 16) t183 (decide ((t183.length : Int) > (t176.length : Int))))) else (laws_FnShifts.j0 k t176 t179 t181 (Int.tmod t182 16) t183 (decide ((t183.length : Int) > (t176.length : Int)))))))))))))) = some r := H
  have A4 := Aside0.mk A40
  clear A40
  replace H := Option.bind_eq_some_iff.mp H
  obtain ⟨t179, A50, H⟩ := H
  replace H : ((impl_NightHours.f k t176).bind fun t180 => ((impl_RestBetween.f k t176).bind fun t181 => ((laws_at.f l0 0).bind fun t182 => ((impl_MostShifts.f t176 (Int.tmod t182 16)).bind fun t183 => (if t179 < 0 then (laws_FnShifts.j0 k t176 t179 t181 (Int.tmod t182 16) t183 true) else (if t180 < 0 then (laws_FnShifts.j0 k t176 t179 t181 (Int.tmod t182 16) t183 true) else (if t180 > t179 then (laws_FnShifts.j0 k t176 t179 t181 (Int.tmod t182 16) t183 true) else (if t181 < 0 then (laws_FnShifts.j0 k t176 t179 t181 (Int.tmod t182 16) t183 true) else (if (t176.length : Int) > 0 then (if (t183.length : Int) = 0 then (laws_FnShifts.j0 k t176 t179 t181 (Int.tmod t182 16) t183 true) else (laws_FnShifts.j0 k t176 t179 t181 (Int.tmod t182 16) t183 (decide ((t183.length : Int) > (t176.length : Int))))) else (laws_FnShifts.j0 k t176 t179 t181 (Int.tmod t182 16) t183 (decide ((t183.length : Int) > (t176.length : Int))))))))))))) = some r := H
  have A5 := Aside0.mk A50
  clear A50
  replace H := Option.bind_eq_some_iff.mp H
  obtain ⟨t180, A60, H⟩ := H
  replace H : ((impl_RestBetween.f k t176).bind fun t181 => ((laws_at.f l0 0).bind fun t182 => ((impl_MostShifts.f t176 (Int.tmod t182 16)).bind fun t183 => (if t179 < 0 then (laws_FnShifts.j0 k t176 t179 t181 (Int.tmod t182 16) t183 true) else (if t180 < 0 then (laws_FnShifts.j0 k t176 t179 t181 (Int.tmod t182 16) t183 true) else (if t180 > t179 then (laws_FnShifts.j0 k t176 t179 t181 (Int.tmod t182 16) t183 true) else (if t181 < 0 then (laws_FnShifts.j0 k t176 t179 t181 (Int.tmod t182 16) t183 true) else (if (t176.length : Int) > 0 then (if (t183.length : Int) = 0 then (laws_FnShifts.j0 k t176 t179 t181 (Int.tmod t182 16) t183 true) else (laws_FnShifts.j0 k t176 t179 t181 (Int.tmod t182 16) t183 (decide ((t183.length : Int) > (t176.length : Int))))) else (laws_FnShifts.j0 k t176 t179 t181 (Int.tmod t182 16) t183 (decide ((t183.length : Int) > (t176.length : Int)))))))))))) = some r := H
  have A6 := Aside0.mk A60
  clear A60
  replace H := Option.bind_eq_some_iff.mp H
  obtain ⟨t181, A70, H⟩ := H
  replace H : ((laws_at.f l0 0).bind fun t182 => ((impl_MostShifts.f t176 (Int.tmod t182 16)).bind fun t183 => (if t179 < 0 then (laws_FnShifts.j0 k t176 t179 t181 (Int.tmod t182 16) t183 true) else (if t180 < 0 then (laws_FnShifts.j0 k t176 t179 t181 (Int.tmod t182 16) t183 true) else (if t180 > t179 then (laws_FnShifts.j0 k t176 t179 t181 (Int.tmod t182 16) t183 true) else (if t181 < 0 then (laws_FnShifts.j0 k t176 t179 t181 (Int.tmod t182 16) t183 true) else (if (t176.length : Int) > 0 then (if (t183.length : Int) = 0 then (laws_FnShifts.j0 k t176 t179 t181 (Int.tmod t182 16) t183 true) else (laws_FnShifts.j0 k t176 t179 t181 (Int.tmod t182 16) t183 (decide ((t183.length : Int) > (t176.length : Int))))) else (laws_FnShifts.j0 k t176 t179 t181 (Int.tmod t182 16) t183 (decide ((t183.length : Int) > (t176.length : Int))))))))))) = some r := H
  have A7 := Aside0.mk A70
  clear A70
  replace H := Option.bind_eq_some_iff.mp H
  obtain ⟨t182, A80, H⟩ := H
  replace H : ((impl_MostShifts.f t176 (Int.tmod t182 16)).bind fun t183 => (if t179 < 0 then (laws_FnShifts.j0 k t176 t179 t181 (Int.tmod t182 16) t183 true) else (if t180 < 0 then (laws_FnShifts.j0 k t176 t179 t181 (Int.tmod t182 16) t183 true) else (if t180 > t179 then (laws_FnShifts.j0 k t176 t179 t181 (Int.tmod t182 16) t183 true) else (if t181 < 0 then (laws_FnShifts.j0 k t176 t179 t181 (Int.tmod t182 16) t183 true) else (if (t176.length : Int) > 0 then (if (t183.length : Int) = 0 then (laws_FnShifts.j0 k t176 t179 t181 (Int.tmod t182 16) t183 true) else (laws_FnShifts.j0 k t176 t179 t181 (Int.tmod t182 16) t183 (decide ((t183.length : Int) > (t176.length : Int))))) else (laws_FnShifts.j0 k t176 t179 t181 (Int.tmod t182 16) t183 (decide ((t183.length : Int) > (t176.length : Int)))))))))) = some r := H
  have A8 := Aside0.mk A80
  clear A80
  replace H := Option.bind_eq_some_iff.mp H
  obtain ⟨t183, A90, H⟩ := H
  replace H : (if t179 < 0 then (laws_FnShifts.j0 k t176 t179 t181 (Int.tmod t182 16) t183 true) else (if t180 < 0 then (laws_FnShifts.j0 k t176 t179 t181 (Int.tmod t182 16) t183 true) else (if t180 > t179 then (laws_FnShifts.j0 k t176 t179 t181 (Int.tmod t182 16) t183 true) else (if t181 < 0 then (laws_FnShifts.j0 k t176 t179 t181 (Int.tmod t182 16) t183 true) else (if (t176.length : Int) > 0 then (if (t183.length : Int) = 0 then (laws_FnShifts.j0 k t176 t179 t181 (Int.tmod t182 16) t183 true) else (laws_FnShifts.j0 k t176 t179 t181 (Int.tmod t182 16) t183 (decide ((t183.length : Int) > (t176.length : Int))))) else (laws_FnShifts.j0 k t176 t179 t181 (Int.tmod t182 16) t183 (decide ((t183.length : Int) > (t176.length : Int))))))))) = some r := H
  have A9 := Aside0.mk A90
  clear A90
  have HC10 := Aside0.mk H
  clear H
  go_enter Try.func8, Try.ntmps8
  go_upto_region 9 with (first | (go_at_call 23; (with_reducible refine (laws_big.calls _ _ l0 false _ ?side1 ?side2 A2.out).mono ?_); (case side1 => repeat (first | exact HR0.out | (with_reducible refine Kd.C_alloc ?_ _) | (with_reducible refine Kd.C_drewN ?_ _) | (with_reducible refine Kd.C_drew ?_))); (case side2 => exact HC0.out); rintro e w' ⟨rfl, ⟨nd, rfl⟩⟩; (try first | exact ⟨rfl, _, World.drewN_drewN _ _ _⟩ | exact ⟨rfl, _, Eq.trans (World.drewN_drewN _ _ _) (congrArg (World.drewN _) (Nat.add_assoc _ _ _))⟩)) | (go_at_call 24; (with_reducible refine (spec_DrawShifts.calls k _ _ l0 t176 _ ?side1 ?side2 A4.out).mono ?_); (case side1 => repeat (first | exact HR0.out | (with_reducible refine Kd.C_alloc ?_ _) | (with_reducible refine Kd.C_drewN ?_ _) | (with_reducible refine Kd.C_drew ?_))); (case side2 => exact HC0.out); rintro e w11 ⟨v177, rfl, ho0, hb⟩; have n0_ := Aside0.mk (Kd.R_lower ho0 (below_size (by repeat (first | (with_reducible first | exact HB.out | apply below_alloc | apply pw_below_drewN | apply below_drew1) | exact HB.out)))); have n1_ := Aside0.mk (below_step (by repeat (first | (with_reducible first | exact HB.out | apply below_alloc | apply pw_below_drewN | apply below_drew1) | exact HB.out)) hb); clear HB; have HO178 := n0_; have HB := n1_; clear n0_ n1_; (try clear hb); (try clear hb2); (try clear hk); (try clear hi); (try clear ho0); obtain ⟨Ao12, co12, eo12⟩ := Kd.R_slice HO178.out; subst eo12) | (go_at_call 16; (with_reducible refine (impl_HoursOf.calls k _ _ t176 t179 _ ?side1 ?side2 A5.out).mono ?_); (case side1 => repeat (first | exact (Kd.R_reads' HO178.out).2.2 | (with_reducible refine Kd.C_alloc ?_ _) | (with_reducible refine Kd.C_drewN ?_ _) | (with_reducible refine Kd.C_drew ?_))); (case side2 => exact (Kd.R_reads' HO178.out).2.1); rintro e w13 ⟨rfl, hb⟩; have n0_ := Aside0.mk (Kd.R_below (by (with_reducible repeat (first | apply Kd.R_alloc | apply Kd.R_drewN | apply Kd.R_drew)); exact HO178.out) hb); have n1_ := Aside0.mk (below_step (by repeat (first | (with_reducible first | exact HB.out | apply below_alloc | apply pw_below_drewN | apply below_drew1) | exact HB.out)) hb); clear HO178 HB; have HO178 := n0_; have HB := n1_; clear n0_ n1_; (try clear hb); (try clear hb2); (try clear hk); (try clear hi)) | (go_at_call 20; (with_reducible refine (impl_NightHours.calls k _ _ t176 t180 _ ?side1 ?side2 A6.out).mono ?_); (case side1 => repeat (first | exact (Kd.R_reads' HO178.out).2.2 | (with_reducible refine Kd.C_alloc ?_ _) | (with_reducible refine Kd.C_drewN ?_ _) | (with_reducible refine Kd.C_drew ?_))); (case side2 => exact (Kd.R_reads' HO178.out).2.1); rintro e w14 ⟨rfl, hb⟩; have n0_ := Aside0.mk (Kd.R_below (by (with_reducible repeat (first | apply Kd.R_alloc | apply Kd.R_drewN | apply Kd.R_drew)); exact HO178.out) hb); have n1_ := Aside0.mk (below_step (by repeat (first | (with_reducible first | exact HB.out | apply below_alloc | apply pw_below_drewN | apply below_drew1) | exact HB.out)) hb); clear HO178 HB; have HO178 := n0_; have HB := n1_; clear n0_ n1_; (try clear hb); (try clear hb2); (try clear hk); (try clear hi)) | (go_at_call 18; (with_reducible refine (impl_RestBetween.calls k _ _ t176 t181 _ ?side1 ?side2 A7.out).mono ?_); (case side1 => repeat (first | exact (Kd.R_reads' HO178.out).2.2 | (with_reducible refine Kd.C_alloc ?_ _) | (with_reducible refine Kd.C_drewN ?_ _) | (with_reducible refine Kd.C_drew ?_))); (case side2 => exact (Kd.R_reads' HO178.out).2.1); rintro e w15 ⟨rfl, hb⟩; have n0_ := Aside0.mk (Kd.R_below (by (with_reducible repeat (first | apply Kd.R_alloc | apply Kd.R_drewN | apply Kd.R_drew)); exact HO178.out) hb); have n1_ := Aside0.mk (below_step (by repeat (first | (with_reducible first | exact HB.out | apply below_alloc | apply pw_below_drewN | apply below_drew1) | exact HB.out)) hb); clear HO178 HB; have HO178 := n0_; have HB := n1_; clear n0_ n1_; (try clear hb); (try clear hb2); (try clear hk); (try clear hi)) | (go_at_call 25; (with_reducible refine (laws_at.calls _ _ l0 0 t182 _ ?side1 ?side2 A8.out).mono ?_); (case side1 => repeat (first | exact (Kd.C_below HR0.out HB.out) | (with_reducible refine Kd.C_alloc ?_ _) | (with_reducible refine Kd.C_drewN ?_ _) | (with_reducible refine Kd.C_drew ?_))); (case side2 => exact HC0.out); rintro e w' ⟨rfl, ⟨nd, rfl⟩⟩; (try first | exact ⟨rfl, _, World.drewN_drewN _ _ _⟩ | exact ⟨rfl, _, Eq.trans (World.drewN_drewN _ _ _) (congrArg (World.drewN _) (Nat.add_assoc _ _ _))⟩)) | (go_at_call 26; (with_reducible refine (impl_MostShifts.calls _ _ t176 (Int.tmod t182 16) t183 _ ?side1 ?side2 A9.out).mono ?_); (case side1 => repeat (first | exact (Kd.R_reads' HO178.out).2.2 | (with_reducible refine Kd.C_alloc ?_ _) | (with_reducible refine Kd.C_drewN ?_ _) | (with_reducible refine Kd.C_drew ?_))); (case side2 => exact (Kd.R_reads' HO178.out).2.1); rintro e w16 ⟨v184, rfl, ho0, hb⟩; have n0_ := Aside0.mk (Kd.R_below (by (with_reducible repeat (first | apply Kd.R_alloc | apply Kd.R_drewN | apply Kd.R_drew)); exact HO178.out) hb); have n1_ := Aside0.mk (Kd.R_lower ho0 (below_size (by repeat (first | (with_reducible first | exact HB.out | apply below_alloc | apply pw_below_drewN | apply below_drew1) | exact HB.out)))); have n2_ := Aside0.mk (below_step (by repeat (first | (with_reducible first | exact HB.out | apply below_alloc | apply pw_below_drewN | apply below_drew1) | exact HB.out)) hb); clear HO178 HB; have HO178 := n0_; have HO185 := n1_; have HB := n2_; clear n0_ n1_ n2_; (try clear hb); (try clear hb2); (try clear hk); (try clear hi); (try clear ho0)))
  repeat (go_quiet (first | (go_at_call 23; (with_reducible refine (laws_big.calls _ _ l0 false _ ?side1 ?side2 A2.out).mono ?_); (case side1 => repeat (first | exact HR0.out | (with_reducible refine Kd.C_alloc ?_ _) | (with_reducible refine Kd.C_drewN ?_ _) | (with_reducible refine Kd.C_drew ?_))); (case side2 => exact HC0.out); rintro e w' ⟨rfl, ⟨nd, rfl⟩⟩; (try first | exact ⟨rfl, _, World.drewN_drewN _ _ _⟩ | exact ⟨rfl, _, Eq.trans (World.drewN_drewN _ _ _) (congrArg (World.drewN _) (Nat.add_assoc _ _ _))⟩)) | (go_at_call 24; (with_reducible refine (spec_DrawShifts.calls k _ _ l0 t176 _ ?side1 ?side2 A4.out).mono ?_); (case side1 => repeat (first | exact HR0.out | (with_reducible refine Kd.C_alloc ?_ _) | (with_reducible refine Kd.C_drewN ?_ _) | (with_reducible refine Kd.C_drew ?_))); (case side2 => exact HC0.out); rintro e w11 ⟨v177, rfl, ho0, hb⟩; have n0_ := Aside0.mk (Kd.R_lower ho0 (below_size (by repeat (first | (with_reducible first | exact HB.out | apply below_alloc | apply pw_below_drewN | apply below_drew1) | exact HB.out)))); have n1_ := Aside0.mk (below_step (by repeat (first | (with_reducible first | exact HB.out | apply below_alloc | apply pw_below_drewN | apply below_drew1) | exact HB.out)) hb); clear HB; have HO178 := n0_; have HB := n1_; clear n0_ n1_; (try clear hb); (try clear hb2); (try clear hk); (try clear hi); (try clear ho0); obtain ⟨Ao12, co12, eo12⟩ := Kd.R_slice HO178.out; subst eo12) | (go_at_call 16; (with_reducible refine (impl_HoursOf.calls k _ _ t176 t179 _ ?side1 ?side2 A5.out).mono ?_); (case side1 => repeat (first | exact (Kd.R_reads' HO178.out).2.2 | (with_reducible refine Kd.C_alloc ?_ _) | (with_reducible refine Kd.C_drewN ?_ _) | (with_reducible refine Kd.C_drew ?_))); (case side2 => exact (Kd.R_reads' HO178.out).2.1); rintro e w13 ⟨rfl, hb⟩; have n0_ := Aside0.mk (Kd.R_below (by (with_reducible repeat (first | apply Kd.R_alloc | apply Kd.R_drewN | apply Kd.R_drew)); exact HO178.out) hb); have n1_ := Aside0.mk (below_step (by repeat (first | (with_reducible first | exact HB.out | apply below_alloc | apply pw_below_drewN | apply below_drew1) | exact HB.out)) hb); clear HO178 HB; have HO178 := n0_; have HB := n1_; clear n0_ n1_; (try clear hb); (try clear hb2); (try clear hk); (try clear hi)) | (go_at_call 20; (with_reducible refine (impl_NightHours.calls k _ _ t176 t180 _ ?side1 ?side2 A6.out).mono ?_); (case side1 => repeat (first | exact (Kd.R_reads' HO178.out).2.2 | (with_reducible refine Kd.C_alloc ?_ _) | (with_reducible refine Kd.C_drewN ?_ _) | (with_reducible refine Kd.C_drew ?_))); (case side2 => exact (Kd.R_reads' HO178.out).2.1); rintro e w14 ⟨rfl, hb⟩; have n0_ := Aside0.mk (Kd.R_below (by (with_reducible repeat (first | apply Kd.R_alloc | apply Kd.R_drewN | apply Kd.R_drew)); exact HO178.out) hb); have n1_ := Aside0.mk (below_step (by repeat (first | (with_reducible first | exact HB.out | apply below_alloc | apply pw_below_drewN | apply below_drew1) | exact HB.out)) hb); clear HO178 HB; have HO178 := n0_; have HB := n1_; clear n0_ n1_; (try clear hb); (try clear hb2); (try clear hk); (try clear hi)) | (go_at_call 18; (with_reducible refine (impl_RestBetween.calls k _ _ t176 t181 _ ?side1 ?side2 A7.out).mono ?_); (case side1 => repeat (first | exact (Kd.R_reads' HO178.out).2.2 | (with_reducible refine Kd.C_alloc ?_ _) | (with_reducible refine Kd.C_drewN ?_ _) | (with_reducible refine Kd.C_drew ?_))); (case side2 => exact (Kd.R_reads' HO178.out).2.1); rintro e w15 ⟨rfl, hb⟩; have n0_ := Aside0.mk (Kd.R_below (by (with_reducible repeat (first | apply Kd.R_alloc | apply Kd.R_drewN | apply Kd.R_drew)); exact HO178.out) hb); have n1_ := Aside0.mk (below_step (by repeat (first | (with_reducible first | exact HB.out | apply below_alloc | apply pw_below_drewN | apply below_drew1) | exact HB.out)) hb); clear HO178 HB; have HO178 := n0_; have HB := n1_; clear n0_ n1_; (try clear hb); (try clear hb2); (try clear hk); (try clear hi)) | (go_at_call 25; (with_reducible refine (laws_at.calls _ _ l0 0 t182 _ ?side1 ?side2 A8.out).mono ?_); (case side1 => repeat (first | exact (Kd.C_below HR0.out HB.out) | (with_reducible refine Kd.C_alloc ?_ _) | (with_reducible refine Kd.C_drewN ?_ _) | (with_reducible refine Kd.C_drew ?_))); (case side2 => exact HC0.out); rintro e w' ⟨rfl, ⟨nd, rfl⟩⟩; (try first | exact ⟨rfl, _, World.drewN_drewN _ _ _⟩ | exact ⟨rfl, _, Eq.trans (World.drewN_drewN _ _ _) (congrArg (World.drewN _) (Nat.add_assoc _ _ _))⟩)) | (go_at_call 26; (with_reducible refine (impl_MostShifts.calls _ _ t176 (Int.tmod t182 16) t183 _ ?side1 ?side2 A9.out).mono ?_); (case side1 => repeat (first | exact (Kd.R_reads' HO178.out).2.2 | (with_reducible refine Kd.C_alloc ?_ _) | (with_reducible refine Kd.C_drewN ?_ _) | (with_reducible refine Kd.C_drew ?_))); (case side2 => exact (Kd.R_reads' HO178.out).2.1); rintro e w16 ⟨v184, rfl, ho0, hb⟩; have n0_ := Aside0.mk (Kd.R_below (by (with_reducible repeat (first | apply Kd.R_alloc | apply Kd.R_drewN | apply Kd.R_drew)); exact HO178.out) hb); have n1_ := Aside0.mk (Kd.R_lower ho0 (below_size (by repeat (first | (with_reducible first | exact HB.out | apply below_alloc | apply pw_below_drewN | apply below_drew1) | exact HB.out)))); have n2_ := Aside0.mk (below_step (by repeat (first | (with_reducible first | exact HB.out | apply below_alloc | apply pw_below_drewN | apply below_drew1) | exact HB.out)) hb); clear HO178 HB; have HO178 := n0_; have HO185 := n1_; have HB := n2_; clear n0_ n1_ n2_; (try clear hb); (try clear hb2); (try clear hk); (try clear hi); (try clear ho0))); go_upto_region 9 with (first | (go_at_call 23; (with_reducible refine (laws_big.calls _ _ l0 false _ ?side1 ?side2 A2.out).mono ?_); (case side1 => repeat (first | exact HR0.out | (with_reducible refine Kd.C_alloc ?_ _) | (with_reducible refine Kd.C_drewN ?_ _) | (with_reducible refine Kd.C_drew ?_))); (case side2 => exact HC0.out); rintro e w' ⟨rfl, ⟨nd, rfl⟩⟩; (try first | exact ⟨rfl, _, World.drewN_drewN _ _ _⟩ | exact ⟨rfl, _, Eq.trans (World.drewN_drewN _ _ _) (congrArg (World.drewN _) (Nat.add_assoc _ _ _))⟩)) | (go_at_call 24; (with_reducible refine (spec_DrawShifts.calls k _ _ l0 t176 _ ?side1 ?side2 A4.out).mono ?_); (case side1 => repeat (first | exact HR0.out | (with_reducible refine Kd.C_alloc ?_ _) | (with_reducible refine Kd.C_drewN ?_ _) | (with_reducible refine Kd.C_drew ?_))); (case side2 => exact HC0.out); rintro e w11 ⟨v177, rfl, ho0, hb⟩; have n0_ := Aside0.mk (Kd.R_lower ho0 (below_size (by repeat (first | (with_reducible first | exact HB.out | apply below_alloc | apply pw_below_drewN | apply below_drew1) | exact HB.out)))); have n1_ := Aside0.mk (below_step (by repeat (first | (with_reducible first | exact HB.out | apply below_alloc | apply pw_below_drewN | apply below_drew1) | exact HB.out)) hb); clear HB; have HO178 := n0_; have HB := n1_; clear n0_ n1_; (try clear hb); (try clear hb2); (try clear hk); (try clear hi); (try clear ho0); obtain ⟨Ao12, co12, eo12⟩ := Kd.R_slice HO178.out; subst eo12) | (go_at_call 16; (with_reducible refine (impl_HoursOf.calls k _ _ t176 t179 _ ?side1 ?side2 A5.out).mono ?_); (case side1 => repeat (first | exact (Kd.R_reads' HO178.out).2.2 | (with_reducible refine Kd.C_alloc ?_ _) | (with_reducible refine Kd.C_drewN ?_ _) | (with_reducible refine Kd.C_drew ?_))); (case side2 => exact (Kd.R_reads' HO178.out).2.1); rintro e w13 ⟨rfl, hb⟩; have n0_ := Aside0.mk (Kd.R_below (by (with_reducible repeat (first | apply Kd.R_alloc | apply Kd.R_drewN | apply Kd.R_drew)); exact HO178.out) hb); have n1_ := Aside0.mk (below_step (by repeat (first | (with_reducible first | exact HB.out | apply below_alloc | apply pw_below_drewN | apply below_drew1) | exact HB.out)) hb); clear HO178 HB; have HO178 := n0_; have HB := n1_; clear n0_ n1_; (try clear hb); (try clear hb2); (try clear hk); (try clear hi)) | (go_at_call 20; (with_reducible refine (impl_NightHours.calls k _ _ t176 t180 _ ?side1 ?side2 A6.out).mono ?_); (case side1 => repeat (first | exact (Kd.R_reads' HO178.out).2.2 | (with_reducible refine Kd.C_alloc ?_ _) | (with_reducible refine Kd.C_drewN ?_ _) | (with_reducible refine Kd.C_drew ?_))); (case side2 => exact (Kd.R_reads' HO178.out).2.1); rintro e w14 ⟨rfl, hb⟩; have n0_ := Aside0.mk (Kd.R_below (by (with_reducible repeat (first | apply Kd.R_alloc | apply Kd.R_drewN | apply Kd.R_drew)); exact HO178.out) hb); have n1_ := Aside0.mk (below_step (by repeat (first | (with_reducible first | exact HB.out | apply below_alloc | apply pw_below_drewN | apply below_drew1) | exact HB.out)) hb); clear HO178 HB; have HO178 := n0_; have HB := n1_; clear n0_ n1_; (try clear hb); (try clear hb2); (try clear hk); (try clear hi)) | (go_at_call 18; (with_reducible refine (impl_RestBetween.calls k _ _ t176 t181 _ ?side1 ?side2 A7.out).mono ?_); (case side1 => repeat (first | exact (Kd.R_reads' HO178.out).2.2 | (with_reducible refine Kd.C_alloc ?_ _) | (with_reducible refine Kd.C_drewN ?_ _) | (with_reducible refine Kd.C_drew ?_))); (case side2 => exact (Kd.R_reads' HO178.out).2.1); rintro e w15 ⟨rfl, hb⟩; have n0_ := Aside0.mk (Kd.R_below (by (with_reducible repeat (first | apply Kd.R_alloc | apply Kd.R_drewN | apply Kd.R_drew)); exact HO178.out) hb); have n1_ := Aside0.mk (below_step (by repeat (first | (with_reducible first | exact HB.out | apply below_alloc | apply pw_below_drewN | apply below_drew1) | exact HB.out)) hb); clear HO178 HB; have HO178 := n0_; have HB := n1_; clear n0_ n1_; (try clear hb); (try clear hb2); (try clear hk); (try clear hi)) | (go_at_call 25; (with_reducible refine (laws_at.calls _ _ l0 0 t182 _ ?side1 ?side2 A8.out).mono ?_); (case side1 => repeat (first | exact (Kd.C_below HR0.out HB.out) | (with_reducible refine Kd.C_alloc ?_ _) | (with_reducible refine Kd.C_drewN ?_ _) | (with_reducible refine Kd.C_drew ?_))); (case side2 => exact HC0.out); rintro e w' ⟨rfl, ⟨nd, rfl⟩⟩; (try first | exact ⟨rfl, _, World.drewN_drewN _ _ _⟩ | exact ⟨rfl, _, Eq.trans (World.drewN_drewN _ _ _) (congrArg (World.drewN _) (Nat.add_assoc _ _ _))⟩)) | (go_at_call 26; (with_reducible refine (impl_MostShifts.calls _ _ t176 (Int.tmod t182 16) t183 _ ?side1 ?side2 A9.out).mono ?_); (case side1 => repeat (first | exact (Kd.R_reads' HO178.out).2.2 | (with_reducible refine Kd.C_alloc ?_ _) | (with_reducible refine Kd.C_drewN ?_ _) | (with_reducible refine Kd.C_drew ?_))); (case side2 => exact (Kd.R_reads' HO178.out).2.1); rintro e w16 ⟨v184, rfl, ho0, hb⟩; have n0_ := Aside0.mk (Kd.R_below (by (with_reducible repeat (first | apply Kd.R_alloc | apply Kd.R_drewN | apply Kd.R_drew)); exact HO178.out) hb); have n1_ := Aside0.mk (Kd.R_lower ho0 (below_size (by repeat (first | (with_reducible first | exact HB.out | apply below_alloc | apply pw_below_drewN | apply below_drew1) | exact HB.out)))); have n2_ := Aside0.mk (below_step (by repeat (first | (with_reducible first | exact HB.out | apply below_alloc | apply pw_below_drewN | apply below_drew1) | exact HB.out)) hb); clear HO178 HB; have HO178 := n0_; have HO185 := n1_; have HB := n2_; clear n0_ n1_ n2_; (try clear hb); (try clear hb2); (try clear hk); (try clear hi); (try clear ho0))))
  (try simp only [Act.put, List.setIfInBounds_toArray, List.set_cons_zero, List.set_cons_succ])
  go_cut [64] (fun v64 wc => ∃ (kq : Nat) (x64_9 : Bool), v64 = .bool x64_9 ∧ Aside0 (laws_FnShifts.j0 kq t176 t179 t181 (Int.tmod t182 16) t183 x64_9 = some r) ∧ Aside0 (kq ≤ k) ∧ Aside0 (Kd.R k39 39 wc w.heap.size (fun _ => True) (.slice Ao12 t176.length co12) t176) ∧ Aside0 (Kd.R (Kd.int .i64) 3 wc w.heap.size (fun _ => True) v184 t183) ∧ Aside0 (Below w.heap.size w wc))
  case first => as_aux_lemma =>
   have H := HC10.out
   clear HC10
   by_cases c17 : t179 < 0
   ·rw [if_pos c17] at H
    have c17b0 : decide (t179 < 0) = true := decide_eq_true c17
    clear c17
    (first | rw [c17b0] | (simp only [i64_w, i32_w]; rw [c17b0]) | skip)
    exact (laws_FnShifts.j0_no HRT.out H).elim
   ·rw [if_neg c17] at H
    have c17b0 : decide (t179 < 0) = false := decide_eq_false c17
    clear c17
    (first | rw [c17b0] | (simp only [i64_w, i32_w]; rw [c17b0]) | skip)
    by_cases c18 : t180 < 0
    ·rw [if_pos c18] at H
     have c18b0 : decide (t180 < 0) = true := decide_eq_true c18
     clear c18
     exact (laws_FnShifts.j0_no HRT.out H).elim
    ·rw [if_neg c18] at H
     have c18b0 : decide (t180 < 0) = false := decide_eq_false c18
     clear c18
     by_cases c19 : t180 > t179
     ·rw [if_pos c19] at H
      have c19b0 : decide (t179 < t180) = true := decide_eq_true c19
      clear c19
      exact (laws_FnShifts.j0_no HRT.out H).elim
     ·rw [if_neg c19] at H
      have c19b0 : decide (t179 < t180) = false := decide_eq_false c19
      clear c19
      by_cases c20 : t181 < 0
      ·rw [if_pos c20] at H
       have c20b0 : decide (t181 < 0) = true := decide_eq_true c20
       clear c20
       exact (laws_FnShifts.j0_no HRT.out H).elim
      ·rw [if_neg c20] at H
       have c20b0 : decide (t181 < 0) = false := decide_eq_false c20
       clear c20
       by_cases c21 : (t176.length : Int) > 0
       ·rw [if_pos c21] at H
        have c21b0 : decide (0 < (t176.length : Int)) = true := decide_eq_true c21
        have c21b1 : decide (0 < t176.length) = true := decide_eq_true (by omega)
        clear c21
        by_cases c22 : (t183.length : Int) = 0
        ·rw [if_pos c22] at H
         have c22b0 : ((t183.length : Int) == 0) = true := beq_iff_eq.mpr c22
         have c22b1 : ((t183.length : Int) != 0) = false := bne_eq_false_iff_eq.mpr c22
         clear c22
         exact (laws_FnShifts.j0_no HRT.out H).elim
        ·rw [if_neg c22] at H
         have c22b0 : ((t183.length : Int) == 0) = false := beq_eq_false_iff_ne.mpr c22
         have c22b1 : ((t183.length : Int) != 0) = true := bne_iff_ne.mpr c22
         have c22b2 : ¬ (t183 = []) := fun h_ => c22 (by rw [h_]; rfl)
         have H' := Aside0.mk H
         clear H
         obtain ⟨Ao23, co23, eo23⟩ := Kd.R_slice HO185.out
         subst eo23
         go_wp2
         repeat (go_quiet (fail); try go_wp2)
         go_meet
         case rel => exact ⟨_, (decide ((t183.length : Int) > (t176.length : Int))), (by first | rfl | (simp; done) | (simp [*]; done)), H', ⟨by first | omega | exact Nat.le_refl _⟩, ⟨by (with_reducible repeat (first | apply Kd.R_alloc | apply Kd.R_drewN | apply Kd.R_drew)); exact HO178.out⟩, ⟨by (with_reducible repeat (first | apply Kd.R_alloc | apply Kd.R_drewN | apply Kd.R_drew)); exact HO185.out⟩, ⟨by repeat (first | (with_reducible first | exact HB.out | apply below_alloc | apply pw_below_drewN | apply below_drew1) | exact HB.out)⟩⟩
       ·rw [if_neg c21] at H
        have c21b0 : decide (0 < (t176.length : Int)) = false := decide_eq_false c21
        have c21b1 : decide (0 < t176.length) = false := decide_eq_false (by omega)
        clear c21
        have H' := Aside0.mk H
        clear H
        obtain ⟨Ao24, co24, eo24⟩ := Kd.R_slice HO185.out
        subst eo24
        go_wp2
        repeat (go_quiet (fail); try go_wp2)
        go_meet
        case rel => exact ⟨_, (decide ((t183.length : Int) > (t176.length : Int))), (by first | rfl | (simp; done) | (simp [*]; done)), H', ⟨by first | omega | exact Nat.le_refl _⟩, ⟨by (with_reducible repeat (first | apply Kd.R_alloc | apply Kd.R_drewN | apply Kd.R_drew)); exact HO178.out⟩, ⟨by (with_reducible repeat (first | apply Kd.R_alloc | apply Kd.R_drewN | apply Kd.R_drew)); exact HO185.out⟩, ⟨by repeat (first | (with_reducible first | exact HB.out | apply below_alloc | apply pw_below_drewN | apply below_drew1) | exact HB.out)⟩⟩
  case rest => as_aux_lemma =>
   clear HC10
   try clear c1
   try clear c2
   try clear p2
   try clear c3
   try clear c8
   try clear c17
   try clear c17b0
   try clear c18
   try clear c18b0
   try clear c19
   try clear c19b0
   try clear c20
   try clear c20b0
   try clear c21
   try clear c21b0
   try clear c21b1
   try clear c22
   try clear c22b0
   try clear c22b1
   try clear c22b2
   obtain ⟨kq, x64_9, rfl, HA, HJ9, HO_3, HO_8, HB⟩ := hcut
   cases kq with
   | zero => exact absurd HA.out (by simp [laws_FnShifts.j0])
   | succ kj9 =>
    have H := HA.out
    clear HA
    simp only [laws_FnShifts.j0] at H
    by_cases c25 : x64_9 = true
    ·subst c25
     have H1 : (some false) = some r := by rw [if_pos rfl] at H; exact H
     clear H
     have H := H1
     clear H1
     exact absurd (H.trans (congrArg some HRT.out)) (by simp)
    ·replace c25 := Bool.eq_false_iff.mpr c25
     subst c25
     have H1 : (laws_FnShifts.l0 kj9 t176 t179 t181 (Int.tmod t182 16) t183 0 0) = some r := by rw [if_neg (show ¬ (false = true) by decide)] at H; exact H
     clear H
     have H := H1
     clear H1
     have H' := Aside0.mk H
     clear H
     go_wp2
     repeat (go_quiet (fail); try go_wp2)
     go_loopg [9, 10] kj9 (fun kq v9 v10 w' => ∃ (x9_2 : Int) (x10_2 : Int), v9 = .int .i64 x9_2 ∧ v10 = .int .i64 x10_2 ∧ Aside0 (laws_FnShifts.l0 kq t176 t179 t181 (Int.tmod t182 16) t183 x9_2 x10_2 = some r) ∧ Aside0 (kq ≤ kj9) ∧ Aside0 (Kd.R k39 39 w' w.heap.size (fun _ => True) (.slice Ao12 t176.length co12) t176) ∧ Aside0 (Kd.R (Kd.int .i64) 3 w' w.heap.size (fun _ => True) v184 t183) ∧ Aside0 (Below w.heap.size w w'))
     case atStart => exact ⟨(0), (0), (by first | rfl | (simp; done) | (simp [*]; done)), (by first | rfl | (simp; done) | (simp [*]; done)), H', ⟨Nat.le_refl _⟩, ⟨by (with_reducible repeat (first | apply Kd.R_alloc | apply Kd.R_drewN | apply Kd.R_drew)); exact HO_3.out⟩, ⟨by (with_reducible repeat (first | apply Kd.R_alloc | apply Kd.R_drewN | apply Kd.R_drew)); exact HO_8.out⟩, ⟨by repeat (first | (with_reducible first | exact HB.out | apply below_alloc | apply pw_below_drewN | apply below_drew1) | exact HB.out)⟩⟩
     case round => as_aux_lemma =>
      clear H'
      try clear c1
      try clear c2
      try clear p2
      try clear c3
      try clear c8
      try clear c17
      try clear c17b0
      try clear c18
      try clear c18b0
      try clear c19
      try clear c19b0
      try clear c20
      try clear c20b0
      try clear c21
      try clear c21b0
      try clear c21b1
      try clear c22
      try clear c22b0
      try clear c22b1
      try clear c22b2
      try clear c25
      try clear p2
      obtain ⟨x9_2, x10_2, rfl, rfl, HA, HK2, HO_3, HO_8, HB⟩ := hrel
      cases gk with
      | zero => exact absurd HA.out (by simp [laws_FnShifts.l0])
      | succ k2 =>
       have H := HA.out
       clear HA
       simp only [laws_FnShifts.l0] at H
       by_cases c26 : x10_2 < (t176.length : Int)
       ·rw [if_pos c26] at H
        have c26b0 : decide (x10_2 < (t176.length : Int)) = true := decide_eq_true c26
        clear c26
        by_cases c27 : 0 ≤ x10_2
        ·rw [if_pos c27] at H
         have c27b0 : decide (0 ≤ x10_2) = true := decide_eq_true c27
         clear c27
         by_cases c28 : x10_2 > 0
         ·rw [if_pos c28] at H
          have c28b0 : decide (0 < x10_2) = true := decide_eq_true c28
          clear c28
          obtain ⟨ji29, hji29⟩ : ∃ j_ : Int, (wrap64 (x10_2 - 1)) = j_ := ⟨_, rfl⟩
          replace H : (if 0 ≤ (ji29) then (if (ji29) < (t176.length : Int) then (if (wrap64 (((rd_T39 t176 x10_2).f0) - ((rd_T39 t176 (ji29)).f1))) < t181 then (some false) else (laws_FnShifts.l0 k2 t176 t179 t181 (Int.tmod t182 16) t183 (wrap64 ((wrap64 (x9_2 + ((rd_T39 t176 x10_2).f1))) - ((rd_T39 t176 x10_2).f0))) (wrap64 (x10_2 + 1)))) else (none)) else (none)) = some r := by first | (rw [hji29] at H; exact H) | (simp only [hji29] at H ⊢; exact H)
          have hji29w : (IntKind.i64.wrap (x10_2 - 1)) = ji29 := (i64_w _).trans hji29
          by_cases c30 : 0 ≤ (ji29)
          ·rw [if_pos c30] at H
           have c30b0 : decide (0 ≤ (ji29)) = true := decide_eq_true c30
           clear c30
           by_cases c31 : (ji29) < (t176.length : Int)
           ·rw [if_pos c31] at H
            have c31b0 : decide ((ji29) < (t176.length : Int)) = true := decide_eq_true c31
            clear c31
            by_cases c32 : (wrap64 (((rd_T39 t176 x10_2).f0) - ((rd_T39 t176 (ji29)).f1))) < t181
            ·rw [if_pos c32] at H
             have c32b0 : decide ((wrap64 (((rd_T39 t176 x10_2).f0) - ((rd_T39 t176 (ji29)).f1))) < t181) = true := decide_eq_true c32
             clear c32
             exact absurd (H.trans (congrArg some HRT.out)) (by simp)
            ·rw [if_neg c32] at H
             have c32b0 : decide ((wrap64 (((rd_T39 t176 x10_2).f0) - ((rd_T39 t176 (ji29)).f1))) < t181) = false := decide_eq_false c32
             clear c32
             have H' := Aside0.mk H
             clear H
             have p186 : 0 ≤ (x10_2 : Int) := of_decide_eq_true (by first | (with_reducible assumption) | assumption)
             have q186 : x10_2 < (t176.length : Int) := of_decide_eq_true (by first | (with_reducible assumption) | assumption)
             obtain ⟨ad186, e186, hx186_0, hx186_1⟩ := at_T39 (Kd.R_reads' HO_3.out).2.2 x10_2 p186 q186
             cases e186
             replace p186 := eq_true p186
             replace q186 := eq_true q186
             have p187 : 0 ≤ (x10_2 : Int) := of_decide_eq_true (by first | (with_reducible assumption) | assumption)
             have q187 : x10_2 < (t176.length : Int) := of_decide_eq_true (by first | (with_reducible assumption) | assumption)
             obtain ⟨ad187, e187, hx187_0, hx187_1⟩ := at_T39 (Kd.R_reads' HO_3.out).2.2 x10_2 p187 q187
             obtain rfl : ad186 = ad187 := (by injection e187)
             replace p187 := eq_true p187
             replace q187 := eq_true q187
             have p188 : 0 ≤ (x10_2 : Int) := of_decide_eq_true (by first | (with_reducible assumption) | assumption)
             have q188 : x10_2 < (t176.length : Int) := of_decide_eq_true (by first | (with_reducible assumption) | assumption)
             obtain ⟨ad188, e188, hx188_0, hx188_1⟩ := at_T39 (Kd.R_reads' HO_3.out).2.2 x10_2 p188 q188
             obtain rfl : ad186 = ad188 := (by injection e188)
             replace p188 := eq_true p188
             replace q188 := eq_true q188
             have p189 : 0 ≤ ((ji29) : Int) := of_decide_eq_true (by first | (with_reducible assumption) | assumption)
             have q189 : (ji29) < (t176.length : Int) := of_decide_eq_true (by first | (with_reducible assumption) | assumption)
             obtain ⟨ad189, e189, hx189_0, hx189_1⟩ := at_T39 (Kd.R_reads' HO_3.out).2.2 (ji29) p189 q189
             obtain rfl : ad186 = ad189 := (by injection e189)
             replace p189 := eq_true p189
             replace q189 := eq_true q189
             go_wp2
             repeat (go_quiet (fail); try go_wp2)
             go_roundg k2
             case measure => have := HJ9.out; have := HK2.out; omega
             case rel => exact ⟨(wrap64 ((wrap64 (x9_2 + ((rd_T39 t176 x10_2).f1))) - ((rd_T39 t176 x10_2).f0))), (wrap64 (x10_2 + 1)), (by first | rfl | (simp; done) | (simp [*]; done)), (by first | rfl | (simp; done) | (simp [*]; done)), H', ⟨by have := HJ9.out; have := HK2.out; omega⟩, ⟨by (with_reducible repeat (first | apply Kd.R_alloc | apply Kd.R_drewN | apply Kd.R_drew)); exact HO_3.out⟩, ⟨by (with_reducible repeat (first | apply Kd.R_alloc | apply Kd.R_drewN | apply Kd.R_drew)); exact HO_8.out⟩, ⟨by repeat (first | (with_reducible first | exact HB.out | apply below_alloc | apply pw_below_drewN | apply below_drew1) | exact HB.out)⟩⟩
           ·rw [if_neg c31] at H
            exact absurd H (by simp)
          ·rw [if_neg c30] at H
           exact absurd H (by simp)
         ·rw [if_neg c28] at H
          have c28b0 : decide (0 < x10_2) = false := decide_eq_false c28
          clear c28
          have H' := Aside0.mk H
          clear H
          have p186 : 0 ≤ (x10_2 : Int) := of_decide_eq_true (by first | (with_reducible assumption) | assumption)
          have q186 : x10_2 < (t176.length : Int) := of_decide_eq_true (by first | (with_reducible assumption) | assumption)
          obtain ⟨ad186, e186, hx186_0, hx186_1⟩ := at_T39 (Kd.R_reads' HO_3.out).2.2 x10_2 p186 q186
          cases e186
          replace p186 := eq_true p186
          replace q186 := eq_true q186
          have p187 : 0 ≤ (x10_2 : Int) := of_decide_eq_true (by first | (with_reducible assumption) | assumption)
          have q187 : x10_2 < (t176.length : Int) := of_decide_eq_true (by first | (with_reducible assumption) | assumption)
          obtain ⟨ad187, e187, hx187_0, hx187_1⟩ := at_T39 (Kd.R_reads' HO_3.out).2.2 x10_2 p187 q187
          obtain rfl : ad186 = ad187 := (by injection e187)
          replace p187 := eq_true p187
          replace q187 := eq_true q187
          go_wp2
          repeat (go_quiet (fail); try go_wp2)
          go_roundg k2
          case measure => have := HJ9.out; have := HK2.out; omega
          case rel => exact ⟨(wrap64 ((wrap64 (x9_2 + ((rd_T39 t176 x10_2).f1))) - ((rd_T39 t176 x10_2).f0))), (wrap64 (x10_2 + 1)), (by first | rfl | (simp; done) | (simp [*]; done)), (by first | rfl | (simp; done) | (simp [*]; done)), H', ⟨by have := HJ9.out; have := HK2.out; omega⟩, ⟨by (with_reducible repeat (first | apply Kd.R_alloc | apply Kd.R_drewN | apply Kd.R_drew)); exact HO_3.out⟩, ⟨by (with_reducible repeat (first | apply Kd.R_alloc | apply Kd.R_drewN | apply Kd.R_drew)); exact HO_8.out⟩, ⟨by repeat (first | (with_reducible first | exact HB.out | apply below_alloc | apply pw_below_drewN | apply below_drew1) | exact HB.out)⟩⟩
        ·rw [if_neg c27] at H
         exact absurd H (by simp)
       ·rw [if_neg c26] at H
        have c26b0 : decide (x10_2 < (t176.length : Int)) = false := decide_eq_false c26
        clear c26
        have H' := Aside0.mk H
        clear H
        go_wp2
        repeat (go_quiet (fail); try go_wp2)
        go_loopg [11] k2 (fun kq v11 w' => ∃ (x11_3 : Int), v11 = .int .i64 x11_3 ∧ Aside0 (laws_FnShifts.l1 kq t176 t179 t181 (Int.tmod t182 16) t183 x9_2 x11_3 = some r) ∧ Aside0 (kq ≤ k2) ∧ Aside0 (Kd.R k39 39 w' w.heap.size (fun _ => True) (.slice Ao12 t176.length co12) t176) ∧ Aside0 (Kd.R (Kd.int .i64) 3 w' w.heap.size (fun _ => True) v184 t183) ∧ Aside0 (Below w.heap.size w w'))
        case atStart => exact ⟨(0), (by first | rfl | (simp; done) | (simp [*]; done)), H', ⟨Nat.le_refl _⟩, ⟨by (with_reducible repeat (first | apply Kd.R_alloc | apply Kd.R_drewN | apply Kd.R_drew)); exact HO_3.out⟩, ⟨by (with_reducible repeat (first | apply Kd.R_alloc | apply Kd.R_drewN | apply Kd.R_drew)); exact HO_8.out⟩, ⟨by repeat (first | (with_reducible first | exact HB.out | apply below_alloc | apply pw_below_drewN | apply below_drew1) | exact HB.out)⟩⟩
        case round => as_aux_lemma =>
         clear H'
         try clear c1
         try clear p1
         try clear q1
         try clear hx1
         try clear c2
         try clear p2
         try clear c3
         try clear p6
         try clear c8
         try clear c17
         try clear c17b0
         try clear c18
         try clear c18b0
         try clear p18
         try clear q18
         try clear hx18
         try clear c19
         try clear c19b0
         try clear c20
         try clear c20b0
         try clear c21
         try clear c21b0
         try clear c21b1
         try clear c22
         try clear c22b0
         try clear c22b1
         try clear c22b2
         try clear c25
         try clear c26
         try clear c26b0
         try clear c27
         try clear c27b0
         try clear c28
         try clear c28b0
         try clear c30
         try clear c30b0
         try clear c31
         try clear c31b0
         try clear c32
         try clear c32b0
         try clear hx186_0
         try clear hx186_1
         try clear hx187_0
         try clear hx187_1
         try clear hx188_0
         try clear hx188_1
         try clear hx189_0
         try clear hx189_1
         try clear p186
         try clear p187
         try clear p188
         try clear p189
         try clear p2
         try clear q186
         try clear q187
         try clear q188
         try clear q189
         obtain ⟨x11_3, rfl, HA, HK3, HO_3, HO_8, HB⟩ := hrel
         cases gk with
         | zero => exact absurd HA.out (by simp [laws_FnShifts.l1])
         | succ k3 =>
          have H := HA.out
          clear HA
          simp only [laws_FnShifts.l1] at H
          by_cases c33 : x11_3 < (t183.length : Int)
          ·rw [if_pos c33] at H
           have c33b0 : decide (x11_3 < (t183.length : Int)) = true := decide_eq_true c33
           clear c33
           by_cases c34 : 0 ≤ x11_3
           ·rw [if_pos c34] at H
            have c34b0 : decide (0 ≤ x11_3) = true := decide_eq_true c34
            clear c34
            by_cases c35 : (rd t183 x11_3) < 0
            ·rw [if_pos c35] at H
             have c35b0 : decide ((rd t183 x11_3) < 0) = true := decide_eq_true c35
             clear c35
             exact absurd (H.trans (congrArg some HRT.out)) (by simp)
            ·rw [if_neg c35] at H
             have c35b0 : decide ((rd t183 x11_3) < 0) = false := decide_eq_false c35
             clear c35
             by_cases c36 : (rd t183 x11_3) ≥ (t176.length : Int)
             ·rw [if_pos c36] at H
              have c36b0 : decide ((t176.length : Int) ≤ (rd t183 x11_3)) = true := decide_eq_true c36
              clear c36
              exact absurd (H.trans (congrArg some HRT.out)) (by simp)
             ·rw [if_neg c36] at H
              have c36b0 : decide ((t176.length : Int) ≤ (rd t183 x11_3)) = false := decide_eq_false c36
              clear c36
              by_cases c37 : x11_3 > 0
              ·rw [if_pos c37] at H
               have c37b0 : decide (0 < x11_3) = true := decide_eq_true c37
               clear c37
               by_cases c38 : 0 ≤ (rd t183 x11_3)
               ·rw [if_pos c38] at H
                have c38b0 : decide (0 ≤ (rd t183 x11_3)) = true := decide_eq_true c38
                clear c38
                by_cases c39 : (rd t183 x11_3) < (t176.length : Int)
                ·rw [if_pos c39] at H
                 have c39b0 : decide ((rd t183 x11_3) < (t176.length : Int)) = true := decide_eq_true c39
                 clear c39
                 obtain ⟨ji40, hji40⟩ : ∃ j_ : Int, (wrap64 (x11_3 - 1)) = j_ := ⟨_, rfl⟩
                 replace H : (if 0 ≤ (ji40) then (if (ji40) < (t183.length : Int) then (if 0 ≤ (rd t183 (ji40)) then (if (rd t183 (ji40)) < (t176.length : Int) then (if (wrap64 (((rd_T39 t176 (rd t183 x11_3)).f0) - ((rd_T39 t176 (rd t183 (ji40))).f1))) < (Int.tmod t182 16) then (some false) else (laws_FnShifts.l1 k3 t176 t179 t181 (Int.tmod t182 16) t183 x9_2 (wrap64 (x11_3 + 1)))) else (none)) else (none)) else (none)) else (none)) = some r := by first | (rw [hji40] at H; exact H) | (simp only [hji40] at H ⊢; exact H)
                 have hji40w : (IntKind.i64.wrap (x11_3 - 1)) = ji40 := (i64_w _).trans hji40
                 by_cases c41 : 0 ≤ (ji40)
                 ·rw [if_pos c41] at H
                  have c41b0 : decide (0 ≤ (ji40)) = true := decide_eq_true c41
                  clear c41
                  by_cases c42 : (ji40) < (t183.length : Int)
                  ·rw [if_pos c42] at H
                   have c42b0 : decide ((ji40) < (t183.length : Int)) = true := decide_eq_true c42
                   clear c42
                   by_cases c43 : 0 ≤ (rd t183 (ji40))
                   ·rw [if_pos c43] at H
                    have c43b0 : decide (0 ≤ (rd t183 (ji40))) = true := decide_eq_true c43
                    clear c43
                    by_cases c44 : (rd t183 (ji40)) < (t176.length : Int)
                    ·rw [if_pos c44] at H
                     have c44b0 : decide ((rd t183 (ji40)) < (t176.length : Int)) = true := decide_eq_true c44
                     clear c44
                     by_cases c45 : (wrap64 (((rd_T39 t176 (rd t183 x11_3)).f0) - ((rd_T39 t176 (rd t183 (ji40))).f1))) < (Int.tmod t182 16)
                     ·rw [if_pos c45] at H
                      have c45b0 : decide ((wrap64 (((rd_T39 t176 (rd t183 x11_3)).f0) - ((rd_T39 t176 (rd t183 (ji40))).f1))) < (Int.tmod t182 16)) = true := decide_eq_true c45
                      clear c45
                      exact absurd (H.trans (congrArg some HRT.out)) (by simp)
                     ·rw [if_neg c45] at H
                      have c45b0 : decide ((wrap64 (((rd_T39 t176 (rd t183 x11_3)).f0) - ((rd_T39 t176 (rd t183 (ji40))).f1))) < (Int.tmod t182 16)) = false := decide_eq_false c45
                      clear c45
                      have H' := Aside0.mk H
                      clear H
                      obtain ⟨Ao46, co46, eo46⟩ := Kd.R_slice HO_8.out
                      subst eo46
                      have p190 : 0 ≤ (x11_3 : Int) := of_decide_eq_true (by first | (with_reducible assumption) | assumption)
                      have q190 : x11_3 < (t183.length : Int) := of_decide_eq_true (by first | (with_reducible assumption) | assumption)
                      obtain ⟨ad190, e190, hx190_0⟩ := Kd.at_int (Kd.R_reads' HO_8.out).2.2 x11_3 p190 q190
                      cases e190
                      replace p190 := eq_true p190
                      replace q190 := eq_true q190
                      have p191 : 0 ≤ (x11_3 : Int) := of_decide_eq_true (by first | (with_reducible assumption) | assumption)
                      have q191 : x11_3 < (t183.length : Int) := of_decide_eq_true (by first | (with_reducible assumption) | assumption)
                      obtain ⟨ad191, e191, hx191_0⟩ := Kd.at_int (Kd.R_reads' HO_8.out).2.2 x11_3 p191 q191
                      obtain rfl : ad190 = ad191 := (by injection e191)
                      replace p191 := eq_true p191
                      replace q191 := eq_true q191
                      have p192 : 0 ≤ (x11_3 : Int) := of_decide_eq_true (by first | (with_reducible assumption) | assumption)
                      have q192 : x11_3 < (t183.length : Int) := of_decide_eq_true (by first | (with_reducible assumption) | assumption)
                      obtain ⟨ad192, e192, hx192_0⟩ := Kd.at_int (Kd.R_reads' HO_8.out).2.2 x11_3 p192 q192
                      obtain rfl : ad190 = ad192 := (by injection e192)
                      replace p192 := eq_true p192
                      replace q192 := eq_true q192
                      have p193 : 0 ≤ ((rd t183 x11_3) : Int) := of_decide_eq_true (by first | (with_reducible assumption) | assumption)
                      have q193 : (rd t183 x11_3) < (t176.length : Int) := of_decide_eq_true (by first | (with_reducible assumption) | assumption)
                      obtain ⟨ad193, e193, hx193_0, hx193_1⟩ := at_T39 (Kd.R_reads' HO_3.out).2.2 (rd t183 x11_3) p193 q193
                      cases e193
                      replace p193 := eq_true p193
                      replace q193 := eq_true q193
                      have p194 : 0 ≤ ((ji40) : Int) := of_decide_eq_true (by first | (with_reducible assumption) | assumption)
                      have q194 : (ji40) < (t183.length : Int) := of_decide_eq_true (by first | (with_reducible assumption) | assumption)
                      obtain ⟨ad194, e194, hx194_0⟩ := Kd.at_int (Kd.R_reads' HO_8.out).2.2 (ji40) p194 q194
                      obtain rfl : ad190 = ad194 := (by injection e194)
                      replace p194 := eq_true p194
                      replace q194 := eq_true q194
                      have p195 : 0 ≤ ((rd t183 (ji40)) : Int) := of_decide_eq_true (by first | (with_reducible assumption) | assumption)
                      have q195 : (rd t183 (ji40)) < (t176.length : Int) := of_decide_eq_true (by first | (with_reducible assumption) | assumption)
                      obtain ⟨ad195, e195, hx195_0, hx195_1⟩ := at_T39 (Kd.R_reads' HO_3.out).2.2 (rd t183 (ji40)) p195 q195
                      obtain rfl : ad193 = ad195 := (by injection e195)
                      replace p195 := eq_true p195
                      replace q195 := eq_true q195
                      go_wp2
                      repeat (go_quiet (fail); try go_wp2)
                      go_roundg k3
                      case measure => have := HJ9.out; have := HK2.out; have := HK3.out; omega
                      case rel => exact ⟨(wrap64 (x11_3 + 1)), (by first | rfl | (simp; done) | (simp [*]; done)), H', ⟨by have := HJ9.out; have := HK2.out; have := HK3.out; omega⟩, ⟨by (with_reducible repeat (first | apply Kd.R_alloc | apply Kd.R_drewN | apply Kd.R_drew)); exact HO_3.out⟩, ⟨by (with_reducible repeat (first | apply Kd.R_alloc | apply Kd.R_drewN | apply Kd.R_drew)); exact HO_8.out⟩, ⟨by repeat (first | (with_reducible first | exact HB.out | apply below_alloc | apply pw_below_drewN | apply below_drew1) | exact HB.out)⟩⟩
                    ·rw [if_neg c44] at H
                     exact absurd H (by simp)
                   ·rw [if_neg c43] at H
                    exact absurd H (by simp)
                  ·rw [if_neg c42] at H
                   exact absurd H (by simp)
                 ·rw [if_neg c41] at H
                  exact absurd H (by simp)
                ·rw [if_neg c39] at H
                 exact absurd H (by simp)
               ·rw [if_neg c38] at H
                exact absurd H (by simp)
              ·rw [if_neg c37] at H
               have c37b0 : decide (0 < x11_3) = false := decide_eq_false c37
               clear c37
               have H' := Aside0.mk H
               clear H
               obtain ⟨Ao47, co47, eo47⟩ := Kd.R_slice HO_8.out
               subst eo47
               have p190 : 0 ≤ (x11_3 : Int) := of_decide_eq_true (by first | (with_reducible assumption) | assumption)
               have q190 : x11_3 < (t183.length : Int) := of_decide_eq_true (by first | (with_reducible assumption) | assumption)
               obtain ⟨ad190, e190, hx190_0⟩ := Kd.at_int (Kd.R_reads' HO_8.out).2.2 x11_3 p190 q190
               cases e190
               replace p190 := eq_true p190
               replace q190 := eq_true q190
               have p191 : 0 ≤ (x11_3 : Int) := of_decide_eq_true (by first | (with_reducible assumption) | assumption)
               have q191 : x11_3 < (t183.length : Int) := of_decide_eq_true (by first | (with_reducible assumption) | assumption)
               obtain ⟨ad191, e191, hx191_0⟩ := Kd.at_int (Kd.R_reads' HO_8.out).2.2 x11_3 p191 q191
               obtain rfl : ad190 = ad191 := (by injection e191)
               replace p191 := eq_true p191
               replace q191 := eq_true q191
               go_wp2
               repeat (go_quiet (fail); try go_wp2)
               go_roundg k3
               case measure => have := HJ9.out; have := HK2.out; have := HK3.out; omega
               case rel => exact ⟨(wrap64 (x11_3 + 1)), (by first | rfl | (simp; done) | (simp [*]; done)), H', ⟨by have := HJ9.out; have := HK2.out; have := HK3.out; omega⟩, ⟨by (with_reducible repeat (first | apply Kd.R_alloc | apply Kd.R_drewN | apply Kd.R_drew)); exact HO_3.out⟩, ⟨by (with_reducible repeat (first | apply Kd.R_alloc | apply Kd.R_drewN | apply Kd.R_drew)); exact HO_8.out⟩, ⟨by repeat (first | (with_reducible first | exact HB.out | apply below_alloc | apply pw_below_drewN | apply below_drew1) | exact HB.out)⟩⟩
           ·rw [if_neg c34] at H
            exact absurd H (by simp)
          ·rw [if_neg c33] at H
           have c33b0 : decide (x11_3 < (t183.length : Int)) = false := decide_eq_false c33
           clear c33
           have HC48 := Aside0.mk H
           clear H
           obtain ⟨Ao49, co49, eo49⟩ := Kd.R_slice HO_8.out
           subst eo49
           go_upto_region 23 with (fail)
           repeat (go_quiet (fail); go_upto_region 23 with (fail))
           go_cut [157] (fun v157 wc => ∃ (kq : Nat) (x157_47 : Bool), v157 = .bool x157_47 ∧ Aside0 (laws_FnShifts.j3 kq t176 t179 t181 (Int.tmod t182 16) t183 x9_2 x157_47 = some r) ∧ Aside0 (kq ≤ k3) ∧ Aside0 (Kd.R k39 39 wc w.heap.size (fun _ => True) (.slice Ao12 t176.length co12) t176) ∧ Aside0 (Kd.R (Kd.int .i64) 3 wc w.heap.size (fun _ => True) (.slice Ao49 t183.length co49) t183) ∧ Aside0 (Below w.heap.size w wc))
           case first => as_aux_lemma =>
            have H := HC48.out
            clear HC48
            by_cases c50 : t181 ≥ (Int.tmod t182 16)
            ·rw [if_pos c50] at H
             have c50b0 : decide ((Int.tmod t182 16) ≤ t181) = true := decide_eq_true c50
             clear c50
             (first | rw [c50b0] | (simp only [i64_w, i32_w]; rw [c50b0]) | skip)
             have H' := Aside0.mk H
             clear H
             go_wp2
             repeat (go_quiet (fail); try go_wp2)
             go_meet
             case rel => exact ⟨_, (((t183.length : Int) != (t176.length : Int))), (by first | rfl | (simp; done) | (simp [*]; done)), H', ⟨by have := HJ9.out; have := HK2.out; have := HK3.out; first | omega | exact Nat.le_refl _⟩, ⟨by (with_reducible repeat (first | apply Kd.R_alloc | apply Kd.R_drewN | apply Kd.R_drew)); exact HO_3.out⟩, ⟨by (with_reducible repeat (first | apply Kd.R_alloc | apply Kd.R_drewN | apply Kd.R_drew)); exact HO_8.out⟩, ⟨by repeat (first | (with_reducible first | exact HB.out | apply below_alloc | apply pw_below_drewN | apply below_drew1) | exact HB.out)⟩⟩
            ·rw [if_neg c50] at H
             have c50b0 : decide ((Int.tmod t182 16) ≤ t181) = false := decide_eq_false c50
             clear c50
             (first | rw [c50b0] | (simp only [i64_w, i32_w]; rw [c50b0]) | skip)
             have H' := Aside0.mk H
             clear H
             go_wp2
             repeat (go_quiet (fail); try go_wp2)
             go_meet
             case rel => exact ⟨_, (false), (by first | rfl | (simp; done) | (simp [*]; done)), H', ⟨by have := HJ9.out; have := HK2.out; have := HK3.out; first | omega | exact Nat.le_refl _⟩, ⟨by (with_reducible repeat (first | apply Kd.R_alloc | apply Kd.R_drewN | apply Kd.R_drew)); exact HO_3.out⟩, ⟨by (with_reducible repeat (first | apply Kd.R_alloc | apply Kd.R_drewN | apply Kd.R_drew)); exact HO_8.out⟩, ⟨by repeat (first | (with_reducible first | exact HB.out | apply below_alloc | apply pw_below_drewN | apply below_drew1) | exact HB.out)⟩⟩
           case rest => as_aux_lemma =>
            clear HC48
            try clear c1
            try clear p1
            try clear q1
            try clear hx1
            try clear c2
            try clear p2
            try clear c3
            try clear c4
            try clear c5
            try clear p6
            try clear c8
            try clear c17
            try clear c17b0
            try clear c18
            try clear c18b0
            try clear p18
            try clear q18
            try clear hx18
            try clear c19
            try clear c19b0
            try clear p19
            try clear q19
            try clear hx19
            try clear c20
            try clear c20b0
            try clear c21
            try clear c21b0
            try clear c21b1
            try clear c22
            try clear c22b0
            try clear c22b1
            try clear c22b2
            try clear c25
            try clear c26
            try clear c26b0
            try clear c27
            try clear c27b0
            try clear c28
            try clear c28b0
            try clear c30
            try clear c30b0
            try clear c31
            try clear c31b0
            try clear c32
            try clear c32b0
            try clear c33
            try clear c33b0
            try clear c34
            try clear c34b0
            try clear c35
            try clear c35b0
            try clear c36
            try clear c36b0
            try clear c37
            try clear c37b0
            try clear c38
            try clear c38b0
            try clear c39
            try clear c39b0
            try clear c41
            try clear c41b0
            try clear c42
            try clear c42b0
            try clear c43
            try clear c43b0
            try clear c44
            try clear c44b0
            try clear c45
            try clear c45b0
            try clear c50
            try clear c50b0
            try clear hx186_0
            try clear hx186_1
            try clear hx187_0
            try clear hx187_1
            try clear hx188_0
            try clear hx188_1
            try clear hx189_0
            try clear hx189_1
            try clear hx190_0
            try clear hx191_0
            try clear hx192_0
            try clear hx193_0
            try clear hx193_1
            try clear hx194_0
            try clear hx195_0
            try clear hx195_1
            try clear p1
            try clear p18
            try clear p186
            try clear p187
            try clear p188
            try clear p189
            try clear p190
            try clear p191
            try clear p192
            try clear p193
            try clear p194
            try clear p195
            try clear p2
            try clear p6
            try clear q1
            try clear q18
            try clear q186
            try clear q187
            try clear q188
            try clear q189
            try clear q190
            try clear q191
            try clear q192
            try clear q193
            try clear q194
            try clear q195
            obtain ⟨kq, x157_47, rfl, HA, HJ47, HO_3, HO_8, HB⟩ := hcut
            cases kq with
            | zero => exact absurd HA.out (by simp [laws_FnShifts.j3])
            | succ kj47 =>
             have H := HA.out
             clear HA
             simp only [laws_FnShifts.j3] at H
             by_cases c51 : x157_47 = true
             ·subst c51
              have H1 : (some false) = some r := by rw [if_pos rfl] at H; exact H
              clear H
              have H := H1
              clear H1
              exact absurd (H.trans (congrArg some HRT.out)) (by simp)
             ·replace c51 := Bool.eq_false_iff.mpr c51
              subst c51
              have H1 : (laws_FnShifts.l2 kj47 t176 t179 t181 (Int.tmod t182 16) t183 x9_2 0) = some r := by rw [if_neg (show ¬ (false = true) by decide)] at H; exact H
              clear H
              have H := H1
              clear H1
              have H' := Aside0.mk H
              clear H
              go_wp2
              repeat (go_quiet (fail); try go_wp2)
              go_loopg [12] kj47 (fun kq v12 w' => ∃ (x12_5 : Int), v12 = .int .i64 x12_5 ∧ Aside0 (laws_FnShifts.l2 kq t176 t179 t181 (Int.tmod t182 16) t183 x9_2 x12_5 = some r) ∧ Aside0 (kq ≤ kj47) ∧ Aside0 (Kd.R k39 39 w' w.heap.size (fun _ => True) (.slice Ao12 t176.length co12) t176) ∧ Aside0 (Kd.R (Kd.int .i64) 3 w' w.heap.size (fun _ => True) (.slice Ao49 t183.length co49) t183) ∧ Aside0 (Below w.heap.size w w'))
              case atStart => exact ⟨(0), (by first | rfl | (simp; done) | (simp [*]; done)), H', ⟨Nat.le_refl _⟩, ⟨by (with_reducible repeat (first | apply Kd.R_alloc | apply Kd.R_drewN | apply Kd.R_drew)); exact HO_3.out⟩, ⟨by (with_reducible repeat (first | apply Kd.R_alloc | apply Kd.R_drewN | apply Kd.R_drew)); exact HO_8.out⟩, ⟨by repeat (first | (with_reducible first | exact HB.out | apply below_alloc | apply pw_below_drewN | apply below_drew1) | exact HB.out)⟩⟩
              case round => as_aux_lemma =>
               clear H'
               try clear c1
               try clear p1
               try clear q1
               try clear hx1
               try clear c2
               try clear p2
               try clear c3
               try clear c4
               try clear c5
               try clear p6
               try clear c8
               try clear c17
               try clear c17b0
               try clear c18
               try clear c18b0
               try clear p18
               try clear q18
               try clear hx18
               try clear c19
               try clear c19b0
               try clear p19
               try clear q19
               try clear hx19
               try clear c20
               try clear c20b0
               try clear c21
               try clear c21b0
               try clear c21b1
               try clear c22
               try clear c22b0
               try clear c22b1
               try clear c22b2
               try clear c25
               try clear c26
               try clear c26b0
               try clear c27
               try clear c27b0
               try clear c28
               try clear c28b0
               try clear c30
               try clear c30b0
               try clear c31
               try clear c31b0
               try clear c32
               try clear c32b0
               try clear c33
               try clear c33b0
               try clear c34
               try clear c34b0
               try clear c35
               try clear c35b0
               try clear c36
               try clear c36b0
               try clear c37
               try clear c37b0
               try clear c38
               try clear c38b0
               try clear c39
               try clear c39b0
               try clear c41
               try clear c41b0
               try clear c42
               try clear c42b0
               try clear c43
               try clear c43b0
               try clear c44
               try clear c44b0
               try clear c45
               try clear c45b0
               try clear c50
               try clear c50b0
               try clear c51
               try clear hx186_0
               try clear hx186_1
               try clear hx187_0
               try clear hx187_1
               try clear hx188_0
               try clear hx188_1
               try clear hx189_0
               try clear hx189_1
               try clear hx190_0
               try clear hx191_0
               try clear hx192_0
               try clear hx193_0
               try clear hx193_1
               try clear hx194_0
               try clear hx195_0
               try clear hx195_1
               try clear p1
               try clear p18
               try clear p186
               try clear p187
               try clear p188
               try clear p189
               try clear p19
               try clear p190
               try clear p191
               try clear p192
               try clear p193
               try clear p194
               try clear p195
               try clear p2
               try clear p6
               try clear q1
               try clear q18
               try clear q186
               try clear q187
               try clear q188
               try clear q189
               try clear q19
               try clear q190
               try clear q191
               try clear q192
               try clear q193
               try clear q194
               try clear q195
               obtain ⟨x12_5, rfl, HA, HK5, HO_3, HO_8, HB⟩ := hrel
               cases gk with
               | zero => exact absurd HA.out (by simp [laws_FnShifts.l2])
               | succ k5 =>
                have H := HA.out
                clear HA
                simp only [laws_FnShifts.l2] at H
                by_cases c52 : x12_5 < (t176.length : Int)
                ·rw [if_pos c52] at H
                 have c52b0 : decide (x12_5 < (t176.length : Int)) = true := decide_eq_true c52
                 clear c52
                 replace H := Option.bind_eq_some_iff.mp H
                 obtain ⟨t196, A530, H⟩ := H
                 replace H : (if t196 = true then (laws_FnShifts.l2 k5 t176 t179 t181 (Int.tmod t182 16) t183 x9_2 (wrap64 (x12_5 + 1))) else (laws_FnShifts.l3 k5 t176 t179 t181 (Int.tmod t182 16) t183 x9_2 x12_5 true 0)) = some r := H
                 have A53 := Aside0.mk A530
                 clear A530
                 by_cases c54 : t196 = true
                 ·subst c54
                  have H1 : (laws_FnShifts.l2 k5 t176 t179 t181 (Int.tmod t182 16) t183 x9_2 (wrap64 (x12_5 + 1))) = some r := by rw [if_pos rfl] at H; exact H
                  clear H
                  have H := H1
                  clear H1
                  have H' := Aside0.mk H
                  clear H
                  go_wp2_with (first | (go_at_call 27; (with_reducible refine (laws_has.calls k5 _ _ t183 x12_5 true _ ?side1 ?side2 A53.out).mono ?_); (case side1 => repeat (first | exact (Kd.R_reads' HO_8.out).2.2 | (with_reducible refine Kd.C_alloc ?_ _) | (with_reducible refine Kd.C_drewN ?_ _) | (with_reducible refine Kd.C_drew ?_))); (case side2 => exact (Kd.R_reads' HO_8.out).2.1); rintro e w' ⟨rfl, ⟨nd, rfl⟩⟩; (try first | exact ⟨rfl, _, World.drewN_drewN _ _ _⟩ | exact ⟨rfl, _, Eq.trans (World.drewN_drewN _ _ _) (congrArg (World.drewN _) (Nat.add_assoc _ _ _))⟩)))
                  repeat (go_quiet (first | (go_at_call 27; (with_reducible refine (laws_has.calls k5 _ _ t183 x12_5 true _ ?side1 ?side2 A53.out).mono ?_); (case side1 => repeat (first | exact (Kd.R_reads' HO_8.out).2.2 | (with_reducible refine Kd.C_alloc ?_ _) | (with_reducible refine Kd.C_drewN ?_ _) | (with_reducible refine Kd.C_drew ?_))); (case side2 => exact (Kd.R_reads' HO_8.out).2.1); rintro e w' ⟨rfl, ⟨nd, rfl⟩⟩; (try first | exact ⟨rfl, _, World.drewN_drewN _ _ _⟩ | exact ⟨rfl, _, Eq.trans (World.drewN_drewN _ _ _) (congrArg (World.drewN _) (Nat.add_assoc _ _ _))⟩))); try go_wp2_with (first | (go_at_call 27; (with_reducible refine (laws_has.calls k5 _ _ t183 x12_5 true _ ?side1 ?side2 A53.out).mono ?_); (case side1 => repeat (first | exact (Kd.R_reads' HO_8.out).2.2 | (with_reducible refine Kd.C_alloc ?_ _) | (with_reducible refine Kd.C_drewN ?_ _) | (with_reducible refine Kd.C_drew ?_))); (case side2 => exact (Kd.R_reads' HO_8.out).2.1); rintro e w' ⟨rfl, ⟨nd, rfl⟩⟩; (try first | exact ⟨rfl, _, World.drewN_drewN _ _ _⟩ | exact ⟨rfl, _, Eq.trans (World.drewN_drewN _ _ _) (congrArg (World.drewN _) (Nat.add_assoc _ _ _))⟩))))
                  go_roundg k5
                  case measure => have := HJ9.out; have := HK2.out; have := HK3.out; have := HJ47.out; have := HK5.out; omega
                  case rel => exact ⟨(wrap64 (x12_5 + 1)), (by first | rfl | (simp; done) | (simp [*]; done)), H', ⟨by have := HJ9.out; have := HK2.out; have := HK3.out; have := HJ47.out; have := HK5.out; omega⟩, ⟨by (with_reducible repeat (first | apply Kd.R_alloc | apply Kd.R_drewN | apply Kd.R_drew)); exact HO_3.out⟩, ⟨by (with_reducible repeat (first | apply Kd.R_alloc | apply Kd.R_drewN | apply Kd.R_drew)); exact HO_8.out⟩, ⟨by repeat (first | (with_reducible first | exact HB.out | apply below_alloc | apply pw_below_drewN | apply below_drew1) | exact HB.out)⟩⟩
                 ·replace c54 := Bool.eq_false_iff.mpr c54
                  subst c54
                  have H1 : (laws_FnShifts.l3 k5 t176 t179 t181 (Int.tmod t182 16) t183 x9_2 x12_5 true 0) = some r := by rw [if_neg (show ¬ (false = true) by decide)] at H; exact H
                  clear H
                  have H := H1
                  clear H1
                  have H' := Aside0.mk H
                  clear H
                  go_wp2_with (first | (go_at_call 27; (with_reducible refine (laws_has.calls k5 _ _ t183 x12_5 false _ ?side1 ?side2 A53.out).mono ?_); (case side1 => repeat (first | exact (Kd.R_reads' HO_8.out).2.2 | (with_reducible refine Kd.C_alloc ?_ _) | (with_reducible refine Kd.C_drewN ?_ _) | (with_reducible refine Kd.C_drew ?_))); (case side2 => exact (Kd.R_reads' HO_8.out).2.1); rintro e w' ⟨rfl, ⟨nd, rfl⟩⟩; (try first | exact ⟨rfl, _, World.drewN_drewN _ _ _⟩ | exact ⟨rfl, _, Eq.trans (World.drewN_drewN _ _ _) (congrArg (World.drewN _) (Nat.add_assoc _ _ _))⟩)))
                  repeat (go_quiet (first | (go_at_call 27; (with_reducible refine (laws_has.calls k5 _ _ t183 x12_5 false _ ?side1 ?side2 A53.out).mono ?_); (case side1 => repeat (first | exact (Kd.R_reads' HO_8.out).2.2 | (with_reducible refine Kd.C_alloc ?_ _) | (with_reducible refine Kd.C_drewN ?_ _) | (with_reducible refine Kd.C_drew ?_))); (case side2 => exact (Kd.R_reads' HO_8.out).2.1); rintro e w' ⟨rfl, ⟨nd, rfl⟩⟩; (try first | exact ⟨rfl, _, World.drewN_drewN _ _ _⟩ | exact ⟨rfl, _, Eq.trans (World.drewN_drewN _ _ _) (congrArg (World.drewN _) (Nat.add_assoc _ _ _))⟩))); try go_wp2_with (first | (go_at_call 27; (with_reducible refine (laws_has.calls k5 _ _ t183 x12_5 false _ ?side1 ?side2 A53.out).mono ?_); (case side1 => repeat (first | exact (Kd.R_reads' HO_8.out).2.2 | (with_reducible refine Kd.C_alloc ?_ _) | (with_reducible refine Kd.C_drewN ?_ _) | (with_reducible refine Kd.C_drew ?_))); (case side2 => exact (Kd.R_reads' HO_8.out).2.1); rintro e w' ⟨rfl, ⟨nd, rfl⟩⟩; (try first | exact ⟨rfl, _, World.drewN_drewN _ _ _⟩ | exact ⟨rfl, _, Eq.trans (World.drewN_drewN _ _ _) (congrArg (World.drewN _) (Nat.add_assoc _ _ _))⟩))))
                  go_loopg [13, 14] k5 (fun kq v13 v14 w' => ∃ (x13_6 : Bool) (x14_6 : Int), v13 = .bool x13_6 ∧ v14 = .int .i64 x14_6 ∧ Aside0 (laws_FnShifts.l3 kq t176 t179 t181 (Int.tmod t182 16) t183 x9_2 x12_5 x13_6 x14_6 = some r) ∧ Aside0 (kq ≤ k5) ∧ Aside0 (Kd.R k39 39 w' w.heap.size (fun _ => True) (.slice Ao12 t176.length co12) t176) ∧ Aside0 (Kd.R (Kd.int .i64) 3 w' w.heap.size (fun _ => True) (.slice Ao49 t183.length co49) t183) ∧ Aside0 (Below w.heap.size w w'))
                  case atStart => exact ⟨(true), (0), (by first | rfl | (simp; done) | (simp [*]; done)), (by first | rfl | (simp; done) | (simp [*]; done)), H', ⟨Nat.le_refl _⟩, ⟨by (with_reducible repeat (first | apply Kd.R_alloc | apply Kd.R_drewN | apply Kd.R_drew)); exact HO_3.out⟩, ⟨by (with_reducible repeat (first | apply Kd.R_alloc | apply Kd.R_drewN | apply Kd.R_drew)); exact HO_8.out⟩, ⟨by repeat (first | (with_reducible first | exact HB.out | apply below_alloc | apply pw_below_drewN | apply below_drew1) | exact HB.out)⟩⟩
                  case round => as_aux_lemma =>
                   clear H'
                   try clear c1
                   try clear p1
                   try clear q1
                   try clear hx1
                   try clear c2
                   try clear p2
                   try clear c3
                   try clear c4
                   try clear c5
                   try clear p6
                   try clear c8
                   try clear c17
                   try clear c17b0
                   try clear c18
                   try clear c18b0
                   try clear p18
                   try clear q18
                   try clear hx18
                   try clear c19
                   try clear c19b0
                   try clear p19
                   try clear q19
                   try clear hx19
                   try clear c20
                   try clear c20b0
                   try clear c21
                   try clear c21b0
                   try clear c21b1
                   try clear c22
                   try clear c22b0
                   try clear c22b1
                   try clear c22b2
                   try clear c25
                   try clear c26
                   try clear c26b0
                   try clear c27
                   try clear c27b0
                   try clear c28
                   try clear c28b0
                   try clear c30
                   try clear c30b0
                   try clear c31
                   try clear c31b0
                   try clear c32
                   try clear c32b0
                   try clear c33
                   try clear c33b0
                   try clear c34
                   try clear c34b0
                   try clear c35
                   try clear c35b0
                   try clear c36
                   try clear c36b0
                   try clear c37
                   try clear c37b0
                   try clear c38
                   try clear c38b0
                   try clear c39
                   try clear c39b0
                   try clear c41
                   try clear c41b0
                   try clear c42
                   try clear c42b0
                   try clear c43
                   try clear c43b0
                   try clear c44
                   try clear c44b0
                   try clear c45
                   try clear c45b0
                   try clear c50
                   try clear c50b0
                   try clear c51
                   try clear c52
                   try clear c52b0
                   try clear c54
                   try clear hx186_0
                   try clear hx186_1
                   try clear hx187_0
                   try clear hx187_1
                   try clear hx188_0
                   try clear hx188_1
                   try clear hx189_0
                   try clear hx189_1
                   try clear hx190_0
                   try clear hx191_0
                   try clear hx192_0
                   try clear hx193_0
                   try clear hx193_1
                   try clear hx194_0
                   try clear hx195_0
                   try clear hx195_1
                   try clear p1
                   try clear p18
                   try clear p186
                   try clear p187
                   try clear p188
                   try clear p189
                   try clear p19
                   try clear p190
                   try clear p191
                   try clear p192
                   try clear p193
                   try clear p194
                   try clear p195
                   try clear p2
                   try clear p6
                   try clear q1
                   try clear q18
                   try clear q186
                   try clear q187
                   try clear q188
                   try clear q189
                   try clear q19
                   try clear q190
                   try clear q191
                   try clear q192
                   try clear q193
                   try clear q194
                   try clear q195
                   obtain ⟨x13_6, x14_6, rfl, rfl, HA, HK6, HO_3, HO_8, HB⟩ := hrel
                   cases gk with
                   | zero => exact absurd HA.out (by simp [laws_FnShifts.l3])
                   | succ k6 =>
                    have H := HA.out
                    clear HA
                    simp only [laws_FnShifts.l3] at H
                    by_cases c55 : x14_6 < (t183.length : Int)
                    ·rw [if_pos c55] at H
                     have c55b0 : decide (x14_6 < (t183.length : Int)) = true := decide_eq_true c55
                     clear c55
                     by_cases c56 : 0 ≤ x14_6
                     ·rw [if_pos c56] at H
                      have c56b0 : decide (0 ≤ x14_6) = true := decide_eq_true c56
                      clear c56
                      by_cases c57 : 0 ≤ (rd t183 x14_6)
                      ·rw [if_pos c57] at H
                       have c57b0 : decide (0 ≤ (rd t183 x14_6)) = true := decide_eq_true c57
                       clear c57
                       by_cases c58 : (rd t183 x14_6) < (t176.length : Int)
                       ·rw [if_pos c58] at H
                        have c58b0 : decide ((rd t183 x14_6) < (t176.length : Int)) = true := decide_eq_true c58
                        clear c58
                        by_cases c59 : x13_6 = true
                        ·subst c59
                         have H1 : (if 0 ≤ x12_5 then (if x12_5 < (t176.length : Int) then (if (wrap64 (((rd_T39 t176 x12_5).f0) - ((rd_T39 t176 (rd t183 x14_6)).f1))) ≥ (Int.tmod t182 16) then (laws_FnShifts.l3 k6 t176 t179 t181 (Int.tmod t182 16) t183 x9_2 x12_5 true (wrap64 (x14_6 + 1))) else (laws_FnShifts.l3 k6 t176 t179 t181 (Int.tmod t182 16) t183 x9_2 x12_5 (decide ((wrap64 (((rd_T39 t176 (rd t183 x14_6)).f0) - ((rd_T39 t176 x12_5).f1))) ≥ (Int.tmod t182 16))) (wrap64 (x14_6 + 1)))) else (none)) else (none)) = some r := by rw [if_pos rfl] at H; exact H
                         clear H
                         have H := H1
                         clear H1
                         by_cases c60 : 0 ≤ x12_5
                         ·rw [if_pos c60] at H
                          have c60b0 : decide (0 ≤ x12_5) = true := decide_eq_true c60
                          clear c60
                          by_cases c61 : x12_5 < (t176.length : Int)
                          ·rw [if_pos c61] at H
                           have c61b0 : decide (x12_5 < (t176.length : Int)) = true := decide_eq_true c61
                           clear c61
                           by_cases c62 : (wrap64 (((rd_T39 t176 x12_5).f0) - ((rd_T39 t176 (rd t183 x14_6)).f1))) ≥ (Int.tmod t182 16)
                           ·rw [if_pos c62] at H
                            have c62b0 : decide ((Int.tmod t182 16) ≤ (wrap64 (((rd_T39 t176 x12_5).f0) - ((rd_T39 t176 (rd t183 x14_6)).f1)))) = true := decide_eq_true c62
                            clear c62
                            have H' := Aside0.mk H
                            clear H
                            have p197 : 0 ≤ (x14_6 : Int) := of_decide_eq_true (by first | (with_reducible assumption) | assumption)
                            have q197 : x14_6 < (t183.length : Int) := of_decide_eq_true (by first | (with_reducible assumption) | assumption)
                            obtain ⟨ad197, e197, hx197_0⟩ := Kd.at_int (Kd.R_reads' HO_8.out).2.2 x14_6 p197 q197
                            cases e197
                            replace p197 := eq_true p197
                            replace q197 := eq_true q197
                            have p198 : 0 ≤ ((rd t183 x14_6) : Int) := of_decide_eq_true (by first | (with_reducible assumption) | assumption)
                            have q198 : (rd t183 x14_6) < (t176.length : Int) := of_decide_eq_true (by first | (with_reducible assumption) | assumption)
                            obtain ⟨ad198, e198, hx198_0, hx198_1⟩ := at_T39 (Kd.R_reads' HO_3.out).2.2 (rd t183 x14_6) p198 q198
                            cases e198
                            replace p198 := eq_true p198
                            replace q198 := eq_true q198
                            go_wp2_with (first | ((with_reducible refine gate_dst (N := 15) rfl ?_); (try (refine gate_guard (by rfl) ?_; dsimp only)); refine box_event ?hg (N := 15) ?hd (cs := #[.int .i64 0, .int .i64 0]) (t := 39) ?hr ?_; (case hd => rfl); (case hg => rfl); (case hr => first | (go_simp; done) | (go_simp; rfl)); intro gb199 hg w63 hbox hb; have n0_ := Aside0.mk (Kd.R_below (Kd.R_elderB (by (with_reducible repeat (first | apply Kd.R_alloc | apply Kd.R_drewN | apply Kd.R_drew)); exact HO_3.out) gb199 (Nat.le_of_eq hg.symm)) hb); have n1_ := Aside0.mk (Kd.R_below (by (with_reducible repeat (first | apply Kd.R_alloc | apply Kd.R_drewN | apply Kd.R_drew)); exact HO_8.out) hb); have n2_ := Aside0.mk (below_step (by repeat (first | (with_reducible first | exact HB.out | apply below_alloc | apply pw_below_drewN | apply below_drew1) | exact HB.out)) hb); have n3_ := Aside0.mk (hbox); have n4_ := Aside0.mk ((by rw [hg]; exact (below_size (by repeat (first | (with_reducible first | exact HB.out | apply below_alloc | apply pw_below_drewN | apply below_drew1) | exact HB.out))) : w.heap.size ≤ gb199)); have n5_ := Aside0.mk ((by rw [hg]; exact (below_size (by repeat (first | (with_reducible first | exact HB.out | apply below_alloc | apply pw_below_drewN | apply below_drew1) | exact HB.out))) : w.heap.size ≤ gb199)); clear HO_3 HO_8 HB; have HO_3 := n0_; have HO_8 := n1_; have HB := n2_; have BK199 := n3_; have GW199 := n4_; have GE199 := n5_; clear n0_ n1_ n2_ n3_ n4_ n5_; clear hb hbox hg; have hcz64_0 : w63.cell? ⟨gb199, 0, none⟩ = some (.int .i64 0) := (blk_cell BK199.out 0).trans rfl; have hcz64_1 : w63.cell? ⟨gb199, 1, none⟩ = some (.int .i64 0) := (blk_cell BK199.out 1).trans rfl; have hfz64_0 := blk_frozen BK199.out 0; have hfz64_1 := blk_frozen BK199.out 1; have p200 : 0 ≤ (x12_5 : Int) := of_decide_eq_true (by first | (with_reducible assumption) | assumption); have q200 : x12_5 < (t176.length : Int) := of_decide_eq_true (by first | (with_reducible assumption) | assumption); obtain ⟨ad200, e200, hx200_0, hx200_1⟩ := at_T39 (Kd.R_reads' HO_3.out).2.2 x12_5 p200 q200; obtain rfl : ad198 = ad200 := (by injection e200); have hn200_0 : ad198.block ≠ gb199 := (by first | exact Kd.own_blk (Kd.R_ne HO_3.out BK199.out (by decide)) | exact (HO_3.out.1 _ rfl).2); have hn200_1 : ad198.block ≠ gb199 := (by first | exact Kd.own_blk (Kd.R_ne HO_3.out BK199.out (by decide)) | exact (HO_3.out.1 _ rfl).2); replace hx200_0 := (cell_far (p := ⟨gb199, 0, none⟩) (by first | (rw [add_block]; exact hn200_0) | (show (Addr.add _ _).block ≠ _; rw [add_block]; exact hn200_0) | exact hn200_0) (.int .i64 ((rd_T39 t176 (rd t183 x14_6)).f0))).trans hx200_0; replace hx200_1 := (cell_far (p := ⟨gb199, 0, none⟩) (by first | (rw [add_block]; exact hn200_0) | (show (Addr.add _ _).block ≠ _; rw [add_block]; exact hn200_0) | exact hn200_0) (.int .i64 ((rd_T39 t176 (rd t183 x14_6)).f0))).trans hx200_1; replace hx200_0 := (cell_far (p := ⟨gb199, 1, none⟩) (by first | (rw [add_block]; exact hn200_1) | (show (Addr.add _ _).block ≠ _; rw [add_block]; exact hn200_1) | exact hn200_1) (.int .i64 ((rd_T39 t176 (rd t183 x14_6)).f1))).trans hx200_0; replace hx200_1 := (cell_far (p := ⟨gb199, 1, none⟩) (by first | (rw [add_block]; exact hn200_1) | (show (Addr.add _ _).block ≠ _; rw [add_block]; exact hn200_1) | exact hn200_1) (.int .i64 ((rd_T39 t176 (rd t183 x14_6)).f1))).trans hx200_1; (try have hy200_0 := fun (n_ : Nat) => (show ((((w63.drewN n_).setCell ⟨gb199, 0, none⟩ (.int .i64 ((rd_T39 t176 (rd t183 x14_6)).f0))).setCell ⟨gb199, 1, none⟩ (.int .i64 ((rd_T39 t176 (rd t183 x14_6)).f1)))).cell? _ = some _ from hx200_0)); (try have hy200_1 := fun (n_ : Nat) => (show ((((w63.drewN n_).setCell ⟨gb199, 0, none⟩ (.int .i64 ((rd_T39 t176 (rd t183 x14_6)).f0))).setCell ⟨gb199, 1, none⟩ (.int .i64 ((rd_T39 t176 (rd t183 x14_6)).f1)))).cell? _ = some _ from hx200_1)); clear hn200_0 hn200_1; replace p200 := eq_true p200; replace q200 := eq_true q200))
                            repeat (go_quiet (first | ((with_reducible refine gate_dst (N := 15) rfl ?_); (try (refine gate_guard (by rfl) ?_; dsimp only)); refine box_event ?hg (N := 15) ?hd (cs := #[.int .i64 0, .int .i64 0]) (t := 39) ?hr ?_; (case hd => rfl); (case hg => rfl); (case hr => first | (go_simp; done) | (go_simp; rfl)); intro gb199 hg w63 hbox hb; have n0_ := Aside0.mk (Kd.R_below (Kd.R_elderB (by (with_reducible repeat (first | apply Kd.R_alloc | apply Kd.R_drewN | apply Kd.R_drew)); exact HO_3.out) gb199 (Nat.le_of_eq hg.symm)) hb); have n1_ := Aside0.mk (Kd.R_below (by (with_reducible repeat (first | apply Kd.R_alloc | apply Kd.R_drewN | apply Kd.R_drew)); exact HO_8.out) hb); have n2_ := Aside0.mk (below_step (by repeat (first | (with_reducible first | exact HB.out | apply below_alloc | apply pw_below_drewN | apply below_drew1) | exact HB.out)) hb); have n3_ := Aside0.mk (hbox); have n4_ := Aside0.mk ((by rw [hg]; exact (below_size (by repeat (first | (with_reducible first | exact HB.out | apply below_alloc | apply pw_below_drewN | apply below_drew1) | exact HB.out))) : w.heap.size ≤ gb199)); have n5_ := Aside0.mk ((by rw [hg]; exact (below_size (by repeat (first | (with_reducible first | exact HB.out | apply below_alloc | apply pw_below_drewN | apply below_drew1) | exact HB.out))) : w.heap.size ≤ gb199)); clear HO_3 HO_8 HB; have HO_3 := n0_; have HO_8 := n1_; have HB := n2_; have BK199 := n3_; have GW199 := n4_; have GE199 := n5_; clear n0_ n1_ n2_ n3_ n4_ n5_; clear hb hbox hg; have hcz64_0 : w63.cell? ⟨gb199, 0, none⟩ = some (.int .i64 0) := (blk_cell BK199.out 0).trans rfl; have hcz64_1 : w63.cell? ⟨gb199, 1, none⟩ = some (.int .i64 0) := (blk_cell BK199.out 1).trans rfl; have hfz64_0 := blk_frozen BK199.out 0; have hfz64_1 := blk_frozen BK199.out 1; have p200 : 0 ≤ (x12_5 : Int) := of_decide_eq_true (by first | (with_reducible assumption) | assumption); have q200 : x12_5 < (t176.length : Int) := of_decide_eq_true (by first | (with_reducible assumption) | assumption); obtain ⟨ad200, e200, hx200_0, hx200_1⟩ := at_T39 (Kd.R_reads' HO_3.out).2.2 x12_5 p200 q200; obtain rfl : ad198 = ad200 := (by injection e200); have hn200_0 : ad198.block ≠ gb199 := (by first | exact Kd.own_blk (Kd.R_ne HO_3.out BK199.out (by decide)) | exact (HO_3.out.1 _ rfl).2); have hn200_1 : ad198.block ≠ gb199 := (by first | exact Kd.own_blk (Kd.R_ne HO_3.out BK199.out (by decide)) | exact (HO_3.out.1 _ rfl).2); replace hx200_0 := (cell_far (p := ⟨gb199, 0, none⟩) (by first | (rw [add_block]; exact hn200_0) | (show (Addr.add _ _).block ≠ _; rw [add_block]; exact hn200_0) | exact hn200_0) (.int .i64 ((rd_T39 t176 (rd t183 x14_6)).f0))).trans hx200_0; replace hx200_1 := (cell_far (p := ⟨gb199, 0, none⟩) (by first | (rw [add_block]; exact hn200_0) | (show (Addr.add _ _).block ≠ _; rw [add_block]; exact hn200_0) | exact hn200_0) (.int .i64 ((rd_T39 t176 (rd t183 x14_6)).f0))).trans hx200_1; replace hx200_0 := (cell_far (p := ⟨gb199, 1, none⟩) (by first | (rw [add_block]; exact hn200_1) | (show (Addr.add _ _).block ≠ _; rw [add_block]; exact hn200_1) | exact hn200_1) (.int .i64 ((rd_T39 t176 (rd t183 x14_6)).f1))).trans hx200_0; replace hx200_1 := (cell_far (p := ⟨gb199, 1, none⟩) (by first | (rw [add_block]; exact hn200_1) | (show (Addr.add _ _).block ≠ _; rw [add_block]; exact hn200_1) | exact hn200_1) (.int .i64 ((rd_T39 t176 (rd t183 x14_6)).f1))).trans hx200_1; (try have hy200_0 := fun (n_ : Nat) => (show ((((w63.drewN n_).setCell ⟨gb199, 0, none⟩ (.int .i64 ((rd_T39 t176 (rd t183 x14_6)).f0))).setCell ⟨gb199, 1, none⟩ (.int .i64 ((rd_T39 t176 (rd t183 x14_6)).f1)))).cell? _ = some _ from hx200_0)); (try have hy200_1 := fun (n_ : Nat) => (show ((((w63.drewN n_).setCell ⟨gb199, 0, none⟩ (.int .i64 ((rd_T39 t176 (rd t183 x14_6)).f0))).setCell ⟨gb199, 1, none⟩ (.int .i64 ((rd_T39 t176 (rd t183 x14_6)).f1)))).cell? _ = some _ from hx200_1)); clear hn200_0 hn200_1; replace p200 := eq_true p200; replace q200 := eq_true q200)); try go_wp2_with (first | ((with_reducible refine gate_dst (N := 15) rfl ?_); (try (refine gate_guard (by rfl) ?_; dsimp only)); refine box_event ?hg (N := 15) ?hd (cs := #[.int .i64 0, .int .i64 0]) (t := 39) ?hr ?_; (case hd => rfl); (case hg => rfl); (case hr => first | (go_simp; done) | (go_simp; rfl)); intro gb199 hg w63 hbox hb; have n0_ := Aside0.mk (Kd.R_below (Kd.R_elderB (by (with_reducible repeat (first | apply Kd.R_alloc | apply Kd.R_drewN | apply Kd.R_drew)); exact HO_3.out) gb199 (Nat.le_of_eq hg.symm)) hb); have n1_ := Aside0.mk (Kd.R_below (by (with_reducible repeat (first | apply Kd.R_alloc | apply Kd.R_drewN | apply Kd.R_drew)); exact HO_8.out) hb); have n2_ := Aside0.mk (below_step (by repeat (first | (with_reducible first | exact HB.out | apply below_alloc | apply pw_below_drewN | apply below_drew1) | exact HB.out)) hb); have n3_ := Aside0.mk (hbox); have n4_ := Aside0.mk ((by rw [hg]; exact (below_size (by repeat (first | (with_reducible first | exact HB.out | apply below_alloc | apply pw_below_drewN | apply below_drew1) | exact HB.out))) : w.heap.size ≤ gb199)); have n5_ := Aside0.mk ((by rw [hg]; exact (below_size (by repeat (first | (with_reducible first | exact HB.out | apply below_alloc | apply pw_below_drewN | apply below_drew1) | exact HB.out))) : w.heap.size ≤ gb199)); clear HO_3 HO_8 HB; have HO_3 := n0_; have HO_8 := n1_; have HB := n2_; have BK199 := n3_; have GW199 := n4_; have GE199 := n5_; clear n0_ n1_ n2_ n3_ n4_ n5_; clear hb hbox hg; have hcz64_0 : w63.cell? ⟨gb199, 0, none⟩ = some (.int .i64 0) := (blk_cell BK199.out 0).trans rfl; have hcz64_1 : w63.cell? ⟨gb199, 1, none⟩ = some (.int .i64 0) := (blk_cell BK199.out 1).trans rfl; have hfz64_0 := blk_frozen BK199.out 0; have hfz64_1 := blk_frozen BK199.out 1; have p200 : 0 ≤ (x12_5 : Int) := of_decide_eq_true (by first | (with_reducible assumption) | assumption); have q200 : x12_5 < (t176.length : Int) := of_decide_eq_true (by first | (with_reducible assumption) | assumption); obtain ⟨ad200, e200, hx200_0, hx200_1⟩ := at_T39 (Kd.R_reads' HO_3.out).2.2 x12_5 p200 q200; obtain rfl : ad198 = ad200 := (by injection e200); have hn200_0 : ad198.block ≠ gb199 := (by first | exact Kd.own_blk (Kd.R_ne HO_3.out BK199.out (by decide)) | exact (HO_3.out.1 _ rfl).2); have hn200_1 : ad198.block ≠ gb199 := (by first | exact Kd.own_blk (Kd.R_ne HO_3.out BK199.out (by decide)) | exact (HO_3.out.1 _ rfl).2); replace hx200_0 := (cell_far (p := ⟨gb199, 0, none⟩) (by first | (rw [add_block]; exact hn200_0) | (show (Addr.add _ _).block ≠ _; rw [add_block]; exact hn200_0) | exact hn200_0) (.int .i64 ((rd_T39 t176 (rd t183 x14_6)).f0))).trans hx200_0; replace hx200_1 := (cell_far (p := ⟨gb199, 0, none⟩) (by first | (rw [add_block]; exact hn200_0) | (show (Addr.add _ _).block ≠ _; rw [add_block]; exact hn200_0) | exact hn200_0) (.int .i64 ((rd_T39 t176 (rd t183 x14_6)).f0))).trans hx200_1; replace hx200_0 := (cell_far (p := ⟨gb199, 1, none⟩) (by first | (rw [add_block]; exact hn200_1) | (show (Addr.add _ _).block ≠ _; rw [add_block]; exact hn200_1) | exact hn200_1) (.int .i64 ((rd_T39 t176 (rd t183 x14_6)).f1))).trans hx200_0; replace hx200_1 := (cell_far (p := ⟨gb199, 1, none⟩) (by first | (rw [add_block]; exact hn200_1) | (show (Addr.add _ _).block ≠ _; rw [add_block]; exact hn200_1) | exact hn200_1) (.int .i64 ((rd_T39 t176 (rd t183 x14_6)).f1))).trans hx200_1; (try have hy200_0 := fun (n_ : Nat) => (show ((((w63.drewN n_).setCell ⟨gb199, 0, none⟩ (.int .i64 ((rd_T39 t176 (rd t183 x14_6)).f0))).setCell ⟨gb199, 1, none⟩ (.int .i64 ((rd_T39 t176 (rd t183 x14_6)).f1)))).cell? _ = some _ from hx200_0)); (try have hy200_1 := fun (n_ : Nat) => (show ((((w63.drewN n_).setCell ⟨gb199, 0, none⟩ (.int .i64 ((rd_T39 t176 (rd t183 x14_6)).f0))).setCell ⟨gb199, 1, none⟩ (.int .i64 ((rd_T39 t176 (rd t183 x14_6)).f1)))).cell? _ = some _ from hx200_1)); clear hn200_0 hn200_1; replace p200 := eq_true p200; replace q200 := eq_true q200)))
                            go_roundg k6
                            case measure => have := HJ9.out; have := HK2.out; have := HK3.out; have := HJ47.out; have := HK5.out; have := HK6.out; omega
                            case rel => exact ⟨(true), (wrap64 (x14_6 + 1)), (by first | rfl | (simp; done) | (simp [*]; done)), (by first | rfl | (simp; done) | (simp [*]; done)), H', ⟨by have := HJ9.out; have := HK2.out; have := HK3.out; have := HJ47.out; have := HK5.out; have := HK6.out; omega⟩, ⟨by (with_reducible repeat (first | apply Kd.R_alloc | apply Kd.R_drewN | apply Kd.R_drew)); exact Kd.R_mono (Kd.R_far (p := ⟨gb199, 1, none⟩) (Kd.R_far (p := ⟨gb199, 0, none⟩) (Kd.R_mono HO_3.out (fun k_ hk => (⟨hk, hk.2⟩ : _ ∧ k_ ≠ gb199))) (fun _ hk => hk.2) (.int .i64 ((rd_T39 t176 (rd t183 x14_6)).f0))) (fun _ hk => hk.2) (.int .i64 ((rd_T39 t176 (rd t183 x14_6)).f1))) (fun _ hk => trivial)⟩, ⟨by (with_reducible repeat (first | apply Kd.R_alloc | apply Kd.R_drewN | apply Kd.R_drew)); exact Kd.R_mono (Kd.R_far (p := ⟨gb199, 1, none⟩) (Kd.R_far (p := ⟨gb199, 0, none⟩) (Kd.R_types HO_8.out BK199.out (by decide)) (fun _ hk => hk.2) (.int .i64 ((rd_T39 t176 (rd t183 x14_6)).f0))) (fun _ hk => hk.2) (.int .i64 ((rd_T39 t176 (rd t183 x14_6)).f1))) (fun _ hk => trivial)⟩, ⟨by repeat (first | (with_reducible first | exact HB.out | apply below_alloc | apply pw_below_drewN | apply below_drew1 | refine below_set ?_ GE199.out) | exact HB.out)⟩⟩
                           ·rw [if_neg c62] at H
                            have c62b0 : decide ((Int.tmod t182 16) ≤ (wrap64 (((rd_T39 t176 x12_5).f0) - ((rd_T39 t176 (rd t183 x14_6)).f1)))) = false := decide_eq_false c62
                            clear c62
                            have H' := Aside0.mk H
                            clear H
                            have p197 : 0 ≤ (x14_6 : Int) := of_decide_eq_true (by first | (with_reducible assumption) | assumption)
                            have q197 : x14_6 < (t183.length : Int) := of_decide_eq_true (by first | (with_reducible assumption) | assumption)
                            obtain ⟨ad197, e197, hx197_0⟩ := Kd.at_int (Kd.R_reads' HO_8.out).2.2 x14_6 p197 q197
                            cases e197
                            replace p197 := eq_true p197
                            replace q197 := eq_true q197
                            have p198 : 0 ≤ ((rd t183 x14_6) : Int) := of_decide_eq_true (by first | (with_reducible assumption) | assumption)
                            have q198 : (rd t183 x14_6) < (t176.length : Int) := of_decide_eq_true (by first | (with_reducible assumption) | assumption)
                            obtain ⟨ad198, e198, hx198_0, hx198_1⟩ := at_T39 (Kd.R_reads' HO_3.out).2.2 (rd t183 x14_6) p198 q198
                            cases e198
                            replace p198 := eq_true p198
                            replace q198 := eq_true q198
                            go_wp2_with (first | ((with_reducible refine gate_dst (N := 15) rfl ?_); (try (refine gate_guard (by rfl) ?_; dsimp only)); refine box_event ?hg (N := 15) ?hd (cs := #[.int .i64 0, .int .i64 0]) (t := 39) ?hr ?_; (case hd => rfl); (case hg => rfl); (case hr => first | (go_simp; done) | (go_simp; rfl)); intro gb199 hg w65 hbox hb; have n0_ := Aside0.mk (Kd.R_below (Kd.R_elderB (by (with_reducible repeat (first | apply Kd.R_alloc | apply Kd.R_drewN | apply Kd.R_drew)); exact HO_3.out) gb199 (Nat.le_of_eq hg.symm)) hb); have n1_ := Aside0.mk (Kd.R_below (by (with_reducible repeat (first | apply Kd.R_alloc | apply Kd.R_drewN | apply Kd.R_drew)); exact HO_8.out) hb); have n2_ := Aside0.mk (below_step (by repeat (first | (with_reducible first | exact HB.out | apply below_alloc | apply pw_below_drewN | apply below_drew1) | exact HB.out)) hb); have n3_ := Aside0.mk (hbox); have n4_ := Aside0.mk ((by rw [hg]; exact (below_size (by repeat (first | (with_reducible first | exact HB.out | apply below_alloc | apply pw_below_drewN | apply below_drew1) | exact HB.out))) : w.heap.size ≤ gb199)); have n5_ := Aside0.mk ((by rw [hg]; exact (below_size (by repeat (first | (with_reducible first | exact HB.out | apply below_alloc | apply pw_below_drewN | apply below_drew1) | exact HB.out))) : w.heap.size ≤ gb199)); clear HO_3 HO_8 HB; have HO_3 := n0_; have HO_8 := n1_; have HB := n2_; have BK199 := n3_; have GW199 := n4_; have GE199 := n5_; clear n0_ n1_ n2_ n3_ n4_ n5_; clear hb hbox hg; have hcz66_0 : w65.cell? ⟨gb199, 0, none⟩ = some (.int .i64 0) := (blk_cell BK199.out 0).trans rfl; have hcz66_1 : w65.cell? ⟨gb199, 1, none⟩ = some (.int .i64 0) := (blk_cell BK199.out 1).trans rfl; have hfz66_0 := blk_frozen BK199.out 0; have hfz66_1 := blk_frozen BK199.out 1; have p200 : 0 ≤ (x12_5 : Int) := of_decide_eq_true (by first | (with_reducible assumption) | assumption); have q200 : x12_5 < (t176.length : Int) := of_decide_eq_true (by first | (with_reducible assumption) | assumption); obtain ⟨ad200, e200, hx200_0, hx200_1⟩ := at_T39 (Kd.R_reads' HO_3.out).2.2 x12_5 p200 q200; obtain rfl : ad198 = ad200 := (by injection e200); have hn200_0 : ad198.block ≠ gb199 := (by first | exact Kd.own_blk (Kd.R_ne HO_3.out BK199.out (by decide)) | exact (HO_3.out.1 _ rfl).2); have hn200_1 : ad198.block ≠ gb199 := (by first | exact Kd.own_blk (Kd.R_ne HO_3.out BK199.out (by decide)) | exact (HO_3.out.1 _ rfl).2); replace hx200_0 := (cell_far (p := ⟨gb199, 0, none⟩) (by first | (rw [add_block]; exact hn200_0) | (show (Addr.add _ _).block ≠ _; rw [add_block]; exact hn200_0) | exact hn200_0) (.int .i64 ((rd_T39 t176 (rd t183 x14_6)).f0))).trans hx200_0; replace hx200_1 := (cell_far (p := ⟨gb199, 0, none⟩) (by first | (rw [add_block]; exact hn200_0) | (show (Addr.add _ _).block ≠ _; rw [add_block]; exact hn200_0) | exact hn200_0) (.int .i64 ((rd_T39 t176 (rd t183 x14_6)).f0))).trans hx200_1; replace hx200_0 := (cell_far (p := ⟨gb199, 1, none⟩) (by first | (rw [add_block]; exact hn200_1) | (show (Addr.add _ _).block ≠ _; rw [add_block]; exact hn200_1) | exact hn200_1) (.int .i64 ((rd_T39 t176 (rd t183 x14_6)).f1))).trans hx200_0; replace hx200_1 := (cell_far (p := ⟨gb199, 1, none⟩) (by first | (rw [add_block]; exact hn200_1) | (show (Addr.add _ _).block ≠ _; rw [add_block]; exact hn200_1) | exact hn200_1) (.int .i64 ((rd_T39 t176 (rd t183 x14_6)).f1))).trans hx200_1; (try have hy200_0 := fun (n_ : Nat) => (show ((((w65.drewN n_).setCell ⟨gb199, 0, none⟩ (.int .i64 ((rd_T39 t176 (rd t183 x14_6)).f0))).setCell ⟨gb199, 1, none⟩ (.int .i64 ((rd_T39 t176 (rd t183 x14_6)).f1)))).cell? _ = some _ from hx200_0)); (try have hy200_1 := fun (n_ : Nat) => (show ((((w65.drewN n_).setCell ⟨gb199, 0, none⟩ (.int .i64 ((rd_T39 t176 (rd t183 x14_6)).f0))).setCell ⟨gb199, 1, none⟩ (.int .i64 ((rd_T39 t176 (rd t183 x14_6)).f1)))).cell? _ = some _ from hx200_1)); clear hn200_0 hn200_1; replace p200 := eq_true p200; replace q200 := eq_true q200; have p201 : 0 ≤ (x12_5 : Int) := of_decide_eq_true (by first | (with_reducible assumption) | assumption); have q201 : x12_5 < (t176.length : Int) := of_decide_eq_true (by first | (with_reducible assumption) | assumption); obtain ⟨ad201, e201, hx201_0, hx201_1⟩ := at_T39 (Kd.R_reads' HO_3.out).2.2 x12_5 p201 q201; obtain rfl : ad198 = ad201 := (by injection e201); have hn201_0 : ad198.block ≠ gb199 := (by first | exact Kd.own_blk (Kd.R_ne HO_3.out BK199.out (by decide)) | exact (HO_3.out.1 _ rfl).2); have hn201_1 : ad198.block ≠ gb199 := (by first | exact Kd.own_blk (Kd.R_ne HO_3.out BK199.out (by decide)) | exact (HO_3.out.1 _ rfl).2); replace hx201_0 := (cell_far (p := ⟨gb199, 0, none⟩) (by first | (rw [add_block]; exact hn201_0) | (show (Addr.add _ _).block ≠ _; rw [add_block]; exact hn201_0) | exact hn201_0) (.int .i64 ((rd_T39 t176 (rd t183 x14_6)).f0))).trans hx201_0; replace hx201_1 := (cell_far (p := ⟨gb199, 0, none⟩) (by first | (rw [add_block]; exact hn201_0) | (show (Addr.add _ _).block ≠ _; rw [add_block]; exact hn201_0) | exact hn201_0) (.int .i64 ((rd_T39 t176 (rd t183 x14_6)).f0))).trans hx201_1; replace hx201_0 := (cell_far (p := ⟨gb199, 1, none⟩) (by first | (rw [add_block]; exact hn201_1) | (show (Addr.add _ _).block ≠ _; rw [add_block]; exact hn201_1) | exact hn201_1) (.int .i64 ((rd_T39 t176 (rd t183 x14_6)).f1))).trans hx201_0; replace hx201_1 := (cell_far (p := ⟨gb199, 1, none⟩) (by first | (rw [add_block]; exact hn201_1) | (show (Addr.add _ _).block ≠ _; rw [add_block]; exact hn201_1) | exact hn201_1) (.int .i64 ((rd_T39 t176 (rd t183 x14_6)).f1))).trans hx201_1; (try have hy201_0 := fun (n_ : Nat) => (show ((((w65.drewN n_).setCell ⟨gb199, 0, none⟩ (.int .i64 ((rd_T39 t176 (rd t183 x14_6)).f0))).setCell ⟨gb199, 1, none⟩ (.int .i64 ((rd_T39 t176 (rd t183 x14_6)).f1)))).cell? _ = some _ from hx201_0)); (try have hy201_1 := fun (n_ : Nat) => (show ((((w65.drewN n_).setCell ⟨gb199, 0, none⟩ (.int .i64 ((rd_T39 t176 (rd t183 x14_6)).f0))).setCell ⟨gb199, 1, none⟩ (.int .i64 ((rd_T39 t176 (rd t183 x14_6)).f1)))).cell? _ = some _ from hx201_1)); clear hn201_0 hn201_1; replace p201 := eq_true p201; replace q201 := eq_true q201))
                            repeat (go_quiet (first | ((with_reducible refine gate_dst (N := 15) rfl ?_); (try (refine gate_guard (by rfl) ?_; dsimp only)); refine box_event ?hg (N := 15) ?hd (cs := #[.int .i64 0, .int .i64 0]) (t := 39) ?hr ?_; (case hd => rfl); (case hg => rfl); (case hr => first | (go_simp; done) | (go_simp; rfl)); intro gb199 hg w65 hbox hb; have n0_ := Aside0.mk (Kd.R_below (Kd.R_elderB (by (with_reducible repeat (first | apply Kd.R_alloc | apply Kd.R_drewN | apply Kd.R_drew)); exact HO_3.out) gb199 (Nat.le_of_eq hg.symm)) hb); have n1_ := Aside0.mk (Kd.R_below (by (with_reducible repeat (first | apply Kd.R_alloc | apply Kd.R_drewN | apply Kd.R_drew)); exact HO_8.out) hb); have n2_ := Aside0.mk (below_step (by repeat (first | (with_reducible first | exact HB.out | apply below_alloc | apply pw_below_drewN | apply below_drew1) | exact HB.out)) hb); have n3_ := Aside0.mk (hbox); have n4_ := Aside0.mk ((by rw [hg]; exact (below_size (by repeat (first | (with_reducible first | exact HB.out | apply below_alloc | apply pw_below_drewN | apply below_drew1) | exact HB.out))) : w.heap.size ≤ gb199)); have n5_ := Aside0.mk ((by rw [hg]; exact (below_size (by repeat (first | (with_reducible first | exact HB.out | apply below_alloc | apply pw_below_drewN | apply below_drew1) | exact HB.out))) : w.heap.size ≤ gb199)); clear HO_3 HO_8 HB; have HO_3 := n0_; have HO_8 := n1_; have HB := n2_; have BK199 := n3_; have GW199 := n4_; have GE199 := n5_; clear n0_ n1_ n2_ n3_ n4_ n5_; clear hb hbox hg; have hcz66_0 : w65.cell? ⟨gb199, 0, none⟩ = some (.int .i64 0) := (blk_cell BK199.out 0).trans rfl; have hcz66_1 : w65.cell? ⟨gb199, 1, none⟩ = some (.int .i64 0) := (blk_cell BK199.out 1).trans rfl; have hfz66_0 := blk_frozen BK199.out 0; have hfz66_1 := blk_frozen BK199.out 1; have p200 : 0 ≤ (x12_5 : Int) := of_decide_eq_true (by first | (with_reducible assumption) | assumption); have q200 : x12_5 < (t176.length : Int) := of_decide_eq_true (by first | (with_reducible assumption) | assumption); obtain ⟨ad200, e200, hx200_0, hx200_1⟩ := at_T39 (Kd.R_reads' HO_3.out).2.2 x12_5 p200 q200; obtain rfl : ad198 = ad200 := (by injection e200); have hn200_0 : ad198.block ≠ gb199 := (by first | exact Kd.own_blk (Kd.R_ne HO_3.out BK199.out (by decide)) | exact (HO_3.out.1 _ rfl).2); have hn200_1 : ad198.block ≠ gb199 := (by first | exact Kd.own_blk (Kd.R_ne HO_3.out BK199.out (by decide)) | exact (HO_3.out.1 _ rfl).2); replace hx200_0 := (cell_far (p := ⟨gb199, 0, none⟩) (by first | (rw [add_block]; exact hn200_0) | (show (Addr.add _ _).block ≠ _; rw [add_block]; exact hn200_0) | exact hn200_0) (.int .i64 ((rd_T39 t176 (rd t183 x14_6)).f0))).trans hx200_0; replace hx200_1 := (cell_far (p := ⟨gb199, 0, none⟩) (by first | (rw [add_block]; exact hn200_0) | (show (Addr.add _ _).block ≠ _; rw [add_block]; exact hn200_0) | exact hn200_0) (.int .i64 ((rd_T39 t176 (rd t183 x14_6)).f0))).trans hx200_1; replace hx200_0 := (cell_far (p := ⟨gb199, 1, none⟩) (by first | (rw [add_block]; exact hn200_1) | (show (Addr.add _ _).block ≠ _; rw [add_block]; exact hn200_1) | exact hn200_1) (.int .i64 ((rd_T39 t176 (rd t183 x14_6)).f1))).trans hx200_0; replace hx200_1 := (cell_far (p := ⟨gb199, 1, none⟩) (by first | (rw [add_block]; exact hn200_1) | (show (Addr.add _ _).block ≠ _; rw [add_block]; exact hn200_1) | exact hn200_1) (.int .i64 ((rd_T39 t176 (rd t183 x14_6)).f1))).trans hx200_1; (try have hy200_0 := fun (n_ : Nat) => (show ((((w65.drewN n_).setCell ⟨gb199, 0, none⟩ (.int .i64 ((rd_T39 t176 (rd t183 x14_6)).f0))).setCell ⟨gb199, 1, none⟩ (.int .i64 ((rd_T39 t176 (rd t183 x14_6)).f1)))).cell? _ = some _ from hx200_0)); (try have hy200_1 := fun (n_ : Nat) => (show ((((w65.drewN n_).setCell ⟨gb199, 0, none⟩ (.int .i64 ((rd_T39 t176 (rd t183 x14_6)).f0))).setCell ⟨gb199, 1, none⟩ (.int .i64 ((rd_T39 t176 (rd t183 x14_6)).f1)))).cell? _ = some _ from hx200_1)); clear hn200_0 hn200_1; replace p200 := eq_true p200; replace q200 := eq_true q200; have p201 : 0 ≤ (x12_5 : Int) := of_decide_eq_true (by first | (with_reducible assumption) | assumption); have q201 : x12_5 < (t176.length : Int) := of_decide_eq_true (by first | (with_reducible assumption) | assumption); obtain ⟨ad201, e201, hx201_0, hx201_1⟩ := at_T39 (Kd.R_reads' HO_3.out).2.2 x12_5 p201 q201; obtain rfl : ad198 = ad201 := (by injection e201); have hn201_0 : ad198.block ≠ gb199 := (by first | exact Kd.own_blk (Kd.R_ne HO_3.out BK199.out (by decide)) | exact (HO_3.out.1 _ rfl).2); have hn201_1 : ad198.block ≠ gb199 := (by first | exact Kd.own_blk (Kd.R_ne HO_3.out BK199.out (by decide)) | exact (HO_3.out.1 _ rfl).2); replace hx201_0 := (cell_far (p := ⟨gb199, 0, none⟩) (by first | (rw [add_block]; exact hn201_0) | (show (Addr.add _ _).block ≠ _; rw [add_block]; exact hn201_0) | exact hn201_0) (.int .i64 ((rd_T39 t176 (rd t183 x14_6)).f0))).trans hx201_0; replace hx201_1 := (cell_far (p := ⟨gb199, 0, none⟩) (by first | (rw [add_block]; exact hn201_0) | (show (Addr.add _ _).block ≠ _; rw [add_block]; exact hn201_0) | exact hn201_0) (.int .i64 ((rd_T39 t176 (rd t183 x14_6)).f0))).trans hx201_1; replace hx201_0 := (cell_far (p := ⟨gb199, 1, none⟩) (by first | (rw [add_block]; exact hn201_1) | (show (Addr.add _ _).block ≠ _; rw [add_block]; exact hn201_1) | exact hn201_1) (.int .i64 ((rd_T39 t176 (rd t183 x14_6)).f1))).trans hx201_0; replace hx201_1 := (cell_far (p := ⟨gb199, 1, none⟩) (by first | (rw [add_block]; exact hn201_1) | (show (Addr.add _ _).block ≠ _; rw [add_block]; exact hn201_1) | exact hn201_1) (.int .i64 ((rd_T39 t176 (rd t183 x14_6)).f1))).trans hx201_1; (try have hy201_0 := fun (n_ : Nat) => (show ((((w65.drewN n_).setCell ⟨gb199, 0, none⟩ (.int .i64 ((rd_T39 t176 (rd t183 x14_6)).f0))).setCell ⟨gb199, 1, none⟩ (.int .i64 ((rd_T39 t176 (rd t183 x14_6)).f1)))).cell? _ = some _ from hx201_0)); (try have hy201_1 := fun (n_ : Nat) => (show ((((w65.drewN n_).setCell ⟨gb199, 0, none⟩ (.int .i64 ((rd_T39 t176 (rd t183 x14_6)).f0))).setCell ⟨gb199, 1, none⟩ (.int .i64 ((rd_T39 t176 (rd t183 x14_6)).f1)))).cell? _ = some _ from hx201_1)); clear hn201_0 hn201_1; replace p201 := eq_true p201; replace q201 := eq_true q201)); try go_wp2_with (first | ((with_reducible refine gate_dst (N := 15) rfl ?_); (try (refine gate_guard (by rfl) ?_; dsimp only)); refine box_event ?hg (N := 15) ?hd (cs := #[.int .i64 0, .int .i64 0]) (t := 39) ?hr ?_; (case hd => rfl); (case hg => rfl); (case hr => first | (go_simp; done) | (go_simp; rfl)); intro gb199 hg w65 hbox hb; have n0_ := Aside0.mk (Kd.R_below (Kd.R_elderB (by (with_reducible repeat (first | apply Kd.R_alloc | apply Kd.R_drewN | apply Kd.R_drew)); exact HO_3.out) gb199 (Nat.le_of_eq hg.symm)) hb); have n1_ := Aside0.mk (Kd.R_below (by (with_reducible repeat (first | apply Kd.R_alloc | apply Kd.R_drewN | apply Kd.R_drew)); exact HO_8.out) hb); have n2_ := Aside0.mk (below_step (by repeat (first | (with_reducible first | exact HB.out | apply below_alloc | apply pw_below_drewN | apply below_drew1) | exact HB.out)) hb); have n3_ := Aside0.mk (hbox); have n4_ := Aside0.mk ((by rw [hg]; exact (below_size (by repeat (first | (with_reducible first | exact HB.out | apply below_alloc | apply pw_below_drewN | apply below_drew1) | exact HB.out))) : w.heap.size ≤ gb199)); have n5_ := Aside0.mk ((by rw [hg]; exact (below_size (by repeat (first | (with_reducible first | exact HB.out | apply below_alloc | apply pw_below_drewN | apply below_drew1) | exact HB.out))) : w.heap.size ≤ gb199)); clear HO_3 HO_8 HB; have HO_3 := n0_; have HO_8 := n1_; have HB := n2_; have BK199 := n3_; have GW199 := n4_; have GE199 := n5_; clear n0_ n1_ n2_ n3_ n4_ n5_; clear hb hbox hg; have hcz66_0 : w65.cell? ⟨gb199, 0, none⟩ = some (.int .i64 0) := (blk_cell BK199.out 0).trans rfl; have hcz66_1 : w65.cell? ⟨gb199, 1, none⟩ = some (.int .i64 0) := (blk_cell BK199.out 1).trans rfl; have hfz66_0 := blk_frozen BK199.out 0; have hfz66_1 := blk_frozen BK199.out 1; have p200 : 0 ≤ (x12_5 : Int) := of_decide_eq_true (by first | (with_reducible assumption) | assumption); have q200 : x12_5 < (t176.length : Int) := of_decide_eq_true (by first | (with_reducible assumption) | assumption); obtain ⟨ad200, e200, hx200_0, hx200_1⟩ := at_T39 (Kd.R_reads' HO_3.out).2.2 x12_5 p200 q200; obtain rfl : ad198 = ad200 := (by injection e200); have hn200_0 : ad198.block ≠ gb199 := (by first | exact Kd.own_blk (Kd.R_ne HO_3.out BK199.out (by decide)) | exact (HO_3.out.1 _ rfl).2); have hn200_1 : ad198.block ≠ gb199 := (by first | exact Kd.own_blk (Kd.R_ne HO_3.out BK199.out (by decide)) | exact (HO_3.out.1 _ rfl).2); replace hx200_0 := (cell_far (p := ⟨gb199, 0, none⟩) (by first | (rw [add_block]; exact hn200_0) | (show (Addr.add _ _).block ≠ _; rw [add_block]; exact hn200_0) | exact hn200_0) (.int .i64 ((rd_T39 t176 (rd t183 x14_6)).f0))).trans hx200_0; replace hx200_1 := (cell_far (p := ⟨gb199, 0, none⟩) (by first | (rw [add_block]; exact hn200_0) | (show (Addr.add _ _).block ≠ _; rw [add_block]; exact hn200_0) | exact hn200_0) (.int .i64 ((rd_T39 t176 (rd t183 x14_6)).f0))).trans hx200_1; replace hx200_0 := (cell_far (p := ⟨gb199, 1, none⟩) (by first | (rw [add_block]; exact hn200_1) | (show (Addr.add _ _).block ≠ _; rw [add_block]; exact hn200_1) | exact hn200_1) (.int .i64 ((rd_T39 t176 (rd t183 x14_6)).f1))).trans hx200_0; replace hx200_1 := (cell_far (p := ⟨gb199, 1, none⟩) (by first | (rw [add_block]; exact hn200_1) | (show (Addr.add _ _).block ≠ _; rw [add_block]; exact hn200_1) | exact hn200_1) (.int .i64 ((rd_T39 t176 (rd t183 x14_6)).f1))).trans hx200_1; (try have hy200_0 := fun (n_ : Nat) => (show ((((w65.drewN n_).setCell ⟨gb199, 0, none⟩ (.int .i64 ((rd_T39 t176 (rd t183 x14_6)).f0))).setCell ⟨gb199, 1, none⟩ (.int .i64 ((rd_T39 t176 (rd t183 x14_6)).f1)))).cell? _ = some _ from hx200_0)); (try have hy200_1 := fun (n_ : Nat) => (show ((((w65.drewN n_).setCell ⟨gb199, 0, none⟩ (.int .i64 ((rd_T39 t176 (rd t183 x14_6)).f0))).setCell ⟨gb199, 1, none⟩ (.int .i64 ((rd_T39 t176 (rd t183 x14_6)).f1)))).cell? _ = some _ from hx200_1)); clear hn200_0 hn200_1; replace p200 := eq_true p200; replace q200 := eq_true q200; have p201 : 0 ≤ (x12_5 : Int) := of_decide_eq_true (by first | (with_reducible assumption) | assumption); have q201 : x12_5 < (t176.length : Int) := of_decide_eq_true (by first | (with_reducible assumption) | assumption); obtain ⟨ad201, e201, hx201_0, hx201_1⟩ := at_T39 (Kd.R_reads' HO_3.out).2.2 x12_5 p201 q201; obtain rfl : ad198 = ad201 := (by injection e201); have hn201_0 : ad198.block ≠ gb199 := (by first | exact Kd.own_blk (Kd.R_ne HO_3.out BK199.out (by decide)) | exact (HO_3.out.1 _ rfl).2); have hn201_1 : ad198.block ≠ gb199 := (by first | exact Kd.own_blk (Kd.R_ne HO_3.out BK199.out (by decide)) | exact (HO_3.out.1 _ rfl).2); replace hx201_0 := (cell_far (p := ⟨gb199, 0, none⟩) (by first | (rw [add_block]; exact hn201_0) | (show (Addr.add _ _).block ≠ _; rw [add_block]; exact hn201_0) | exact hn201_0) (.int .i64 ((rd_T39 t176 (rd t183 x14_6)).f0))).trans hx201_0; replace hx201_1 := (cell_far (p := ⟨gb199, 0, none⟩) (by first | (rw [add_block]; exact hn201_0) | (show (Addr.add _ _).block ≠ _; rw [add_block]; exact hn201_0) | exact hn201_0) (.int .i64 ((rd_T39 t176 (rd t183 x14_6)).f0))).trans hx201_1; replace hx201_0 := (cell_far (p := ⟨gb199, 1, none⟩) (by first | (rw [add_block]; exact hn201_1) | (show (Addr.add _ _).block ≠ _; rw [add_block]; exact hn201_1) | exact hn201_1) (.int .i64 ((rd_T39 t176 (rd t183 x14_6)).f1))).trans hx201_0; replace hx201_1 := (cell_far (p := ⟨gb199, 1, none⟩) (by first | (rw [add_block]; exact hn201_1) | (show (Addr.add _ _).block ≠ _; rw [add_block]; exact hn201_1) | exact hn201_1) (.int .i64 ((rd_T39 t176 (rd t183 x14_6)).f1))).trans hx201_1; (try have hy201_0 := fun (n_ : Nat) => (show ((((w65.drewN n_).setCell ⟨gb199, 0, none⟩ (.int .i64 ((rd_T39 t176 (rd t183 x14_6)).f0))).setCell ⟨gb199, 1, none⟩ (.int .i64 ((rd_T39 t176 (rd t183 x14_6)).f1)))).cell? _ = some _ from hx201_0)); (try have hy201_1 := fun (n_ : Nat) => (show ((((w65.drewN n_).setCell ⟨gb199, 0, none⟩ (.int .i64 ((rd_T39 t176 (rd t183 x14_6)).f0))).setCell ⟨gb199, 1, none⟩ (.int .i64 ((rd_T39 t176 (rd t183 x14_6)).f1)))).cell? _ = some _ from hx201_1)); clear hn201_0 hn201_1; replace p201 := eq_true p201; replace q201 := eq_true q201)))
                            go_roundg k6
                            case measure => have := HJ9.out; have := HK2.out; have := HK3.out; have := HJ47.out; have := HK5.out; have := HK6.out; omega
                            case rel => exact ⟨(decide ((wrap64 (((rd_T39 t176 (rd t183 x14_6)).f0) - ((rd_T39 t176 x12_5).f1))) ≥ (Int.tmod t182 16))), (wrap64 (x14_6 + 1)), (by first | rfl | (simp; done) | (simp [*]; done)), (by first | rfl | (simp; done) | (simp [*]; done)), H', ⟨by have := HJ9.out; have := HK2.out; have := HK3.out; have := HJ47.out; have := HK5.out; have := HK6.out; omega⟩, ⟨by (with_reducible repeat (first | apply Kd.R_alloc | apply Kd.R_drewN | apply Kd.R_drew)); exact Kd.R_mono (Kd.R_far (p := ⟨gb199, 1, none⟩) (Kd.R_far (p := ⟨gb199, 0, none⟩) (Kd.R_mono HO_3.out (fun k_ hk => (⟨hk, hk.2⟩ : _ ∧ k_ ≠ gb199))) (fun _ hk => hk.2) (.int .i64 ((rd_T39 t176 (rd t183 x14_6)).f0))) (fun _ hk => hk.2) (.int .i64 ((rd_T39 t176 (rd t183 x14_6)).f1))) (fun _ hk => trivial)⟩, ⟨by (with_reducible repeat (first | apply Kd.R_alloc | apply Kd.R_drewN | apply Kd.R_drew)); exact Kd.R_mono (Kd.R_far (p := ⟨gb199, 1, none⟩) (Kd.R_far (p := ⟨gb199, 0, none⟩) (Kd.R_types HO_8.out BK199.out (by decide)) (fun _ hk => hk.2) (.int .i64 ((rd_T39 t176 (rd t183 x14_6)).f0))) (fun _ hk => hk.2) (.int .i64 ((rd_T39 t176 (rd t183 x14_6)).f1))) (fun _ hk => trivial)⟩, ⟨by repeat (first | (with_reducible first | exact HB.out | apply below_alloc | apply pw_below_drewN | apply below_drew1 | refine below_set ?_ GE199.out) | exact HB.out)⟩⟩
                          ·rw [if_neg c61] at H
                           exact absurd H (by simp)
                         ·rw [if_neg c60] at H
                          exact absurd H (by simp)
                        ·replace c59 := Bool.eq_false_iff.mpr c59
                         subst c59
                         have H1 : (laws_FnShifts.l3 k6 t176 t179 t181 (Int.tmod t182 16) t183 x9_2 x12_5 false (wrap64 (x14_6 + 1))) = some r := by rw [if_neg (show ¬ (false = true) by decide)] at H; exact H
                         clear H
                         have H := H1
                         clear H1
                         have H' := Aside0.mk H
                         clear H
                         have p197 : 0 ≤ (x14_6 : Int) := of_decide_eq_true (by first | (with_reducible assumption) | assumption)
                         have q197 : x14_6 < (t183.length : Int) := of_decide_eq_true (by first | (with_reducible assumption) | assumption)
                         obtain ⟨ad197, e197, hx197_0⟩ := Kd.at_int (Kd.R_reads' HO_8.out).2.2 x14_6 p197 q197
                         cases e197
                         replace p197 := eq_true p197
                         replace q197 := eq_true q197
                         have p198 : 0 ≤ ((rd t183 x14_6) : Int) := of_decide_eq_true (by first | (with_reducible assumption) | assumption)
                         have q198 : (rd t183 x14_6) < (t176.length : Int) := of_decide_eq_true (by first | (with_reducible assumption) | assumption)
                         obtain ⟨ad198, e198, hx198_0, hx198_1⟩ := at_T39 (Kd.R_reads' HO_3.out).2.2 (rd t183 x14_6) p198 q198
                         cases e198
                         replace p198 := eq_true p198
                         replace q198 := eq_true q198
                         go_wp2_with (first | ((with_reducible refine gate_dst (N := 15) rfl ?_); (try (refine gate_guard (by rfl) ?_; dsimp only)); refine box_event ?hg (N := 15) ?hd (cs := #[.int .i64 0, .int .i64 0]) (t := 39) ?hr ?_; (case hd => rfl); (case hg => rfl); (case hr => first | (go_simp; done) | (go_simp; rfl)); intro gb199 hg w67 hbox hb; have n0_ := Aside0.mk (Kd.R_below (Kd.R_elderB (by (with_reducible repeat (first | apply Kd.R_alloc | apply Kd.R_drewN | apply Kd.R_drew)); exact HO_3.out) gb199 (Nat.le_of_eq hg.symm)) hb); have n1_ := Aside0.mk (Kd.R_below (by (with_reducible repeat (first | apply Kd.R_alloc | apply Kd.R_drewN | apply Kd.R_drew)); exact HO_8.out) hb); have n2_ := Aside0.mk (below_step (by repeat (first | (with_reducible first | exact HB.out | apply below_alloc | apply pw_below_drewN | apply below_drew1) | exact HB.out)) hb); have n3_ := Aside0.mk (hbox); have n4_ := Aside0.mk ((by rw [hg]; exact (below_size (by repeat (first | (with_reducible first | exact HB.out | apply below_alloc | apply pw_below_drewN | apply below_drew1) | exact HB.out))) : w.heap.size ≤ gb199)); have n5_ := Aside0.mk ((by rw [hg]; exact (below_size (by repeat (first | (with_reducible first | exact HB.out | apply below_alloc | apply pw_below_drewN | apply below_drew1) | exact HB.out))) : w.heap.size ≤ gb199)); clear HO_3 HO_8 HB; have HO_3 := n0_; have HO_8 := n1_; have HB := n2_; have BK199 := n3_; have GW199 := n4_; have GE199 := n5_; clear n0_ n1_ n2_ n3_ n4_ n5_; clear hb hbox hg; have hcz68_0 : w67.cell? ⟨gb199, 0, none⟩ = some (.int .i64 0) := (blk_cell BK199.out 0).trans rfl; have hcz68_1 : w67.cell? ⟨gb199, 1, none⟩ = some (.int .i64 0) := (blk_cell BK199.out 1).trans rfl; have hfz68_0 := blk_frozen BK199.out 0; have hfz68_1 := blk_frozen BK199.out 1))
                         repeat (go_quiet (first | ((with_reducible refine gate_dst (N := 15) rfl ?_); (try (refine gate_guard (by rfl) ?_; dsimp only)); refine box_event ?hg (N := 15) ?hd (cs := #[.int .i64 0, .int .i64 0]) (t := 39) ?hr ?_; (case hd => rfl); (case hg => rfl); (case hr => first | (go_simp; done) | (go_simp; rfl)); intro gb199 hg w67 hbox hb; have n0_ := Aside0.mk (Kd.R_below (Kd.R_elderB (by (with_reducible repeat (first | apply Kd.R_alloc | apply Kd.R_drewN | apply Kd.R_drew)); exact HO_3.out) gb199 (Nat.le_of_eq hg.symm)) hb); have n1_ := Aside0.mk (Kd.R_below (by (with_reducible repeat (first | apply Kd.R_alloc | apply Kd.R_drewN | apply Kd.R_drew)); exact HO_8.out) hb); have n2_ := Aside0.mk (below_step (by repeat (first | (with_reducible first | exact HB.out | apply below_alloc | apply pw_below_drewN | apply below_drew1) | exact HB.out)) hb); have n3_ := Aside0.mk (hbox); have n4_ := Aside0.mk ((by rw [hg]; exact (below_size (by repeat (first | (with_reducible first | exact HB.out | apply below_alloc | apply pw_below_drewN | apply below_drew1) | exact HB.out))) : w.heap.size ≤ gb199)); have n5_ := Aside0.mk ((by rw [hg]; exact (below_size (by repeat (first | (with_reducible first | exact HB.out | apply below_alloc | apply pw_below_drewN | apply below_drew1) | exact HB.out))) : w.heap.size ≤ gb199)); clear HO_3 HO_8 HB; have HO_3 := n0_; have HO_8 := n1_; have HB := n2_; have BK199 := n3_; have GW199 := n4_; have GE199 := n5_; clear n0_ n1_ n2_ n3_ n4_ n5_; clear hb hbox hg; have hcz68_0 : w67.cell? ⟨gb199, 0, none⟩ = some (.int .i64 0) := (blk_cell BK199.out 0).trans rfl; have hcz68_1 : w67.cell? ⟨gb199, 1, none⟩ = some (.int .i64 0) := (blk_cell BK199.out 1).trans rfl; have hfz68_0 := blk_frozen BK199.out 0; have hfz68_1 := blk_frozen BK199.out 1)); try go_wp2_with (first | ((with_reducible refine gate_dst (N := 15) rfl ?_); (try (refine gate_guard (by rfl) ?_; dsimp only)); refine box_event ?hg (N := 15) ?hd (cs := #[.int .i64 0, .int .i64 0]) (t := 39) ?hr ?_; (case hd => rfl); (case hg => rfl); (case hr => first | (go_simp; done) | (go_simp; rfl)); intro gb199 hg w67 hbox hb; have n0_ := Aside0.mk (Kd.R_below (Kd.R_elderB (by (with_reducible repeat (first | apply Kd.R_alloc | apply Kd.R_drewN | apply Kd.R_drew)); exact HO_3.out) gb199 (Nat.le_of_eq hg.symm)) hb); have n1_ := Aside0.mk (Kd.R_below (by (with_reducible repeat (first | apply Kd.R_alloc | apply Kd.R_drewN | apply Kd.R_drew)); exact HO_8.out) hb); have n2_ := Aside0.mk (below_step (by repeat (first | (with_reducible first | exact HB.out | apply below_alloc | apply pw_below_drewN | apply below_drew1) | exact HB.out)) hb); have n3_ := Aside0.mk (hbox); have n4_ := Aside0.mk ((by rw [hg]; exact (below_size (by repeat (first | (with_reducible first | exact HB.out | apply below_alloc | apply pw_below_drewN | apply below_drew1) | exact HB.out))) : w.heap.size ≤ gb199)); have n5_ := Aside0.mk ((by rw [hg]; exact (below_size (by repeat (first | (with_reducible first | exact HB.out | apply below_alloc | apply pw_below_drewN | apply below_drew1) | exact HB.out))) : w.heap.size ≤ gb199)); clear HO_3 HO_8 HB; have HO_3 := n0_; have HO_8 := n1_; have HB := n2_; have BK199 := n3_; have GW199 := n4_; have GE199 := n5_; clear n0_ n1_ n2_ n3_ n4_ n5_; clear hb hbox hg; have hcz68_0 : w67.cell? ⟨gb199, 0, none⟩ = some (.int .i64 0) := (blk_cell BK199.out 0).trans rfl; have hcz68_1 : w67.cell? ⟨gb199, 1, none⟩ = some (.int .i64 0) := (blk_cell BK199.out 1).trans rfl; have hfz68_0 := blk_frozen BK199.out 0; have hfz68_1 := blk_frozen BK199.out 1)))
                         go_roundg k6
                         case measure => have := HJ9.out; have := HK2.out; have := HK3.out; have := HJ47.out; have := HK5.out; have := HK6.out; omega
                         case rel => exact ⟨(false), (wrap64 (x14_6 + 1)), (by first | rfl | (simp; done) | (simp [*]; done)), (by first | rfl | (simp; done) | (simp [*]; done)), H', ⟨by have := HJ9.out; have := HK2.out; have := HK3.out; have := HJ47.out; have := HK5.out; have := HK6.out; omega⟩, ⟨by (with_reducible repeat (first | apply Kd.R_alloc | apply Kd.R_drewN | apply Kd.R_drew)); exact Kd.R_mono (Kd.R_far (p := ⟨gb199, 1, none⟩) (Kd.R_far (p := ⟨gb199, 0, none⟩) (Kd.R_mono HO_3.out (fun k_ hk => (⟨hk, hk.2⟩ : _ ∧ k_ ≠ gb199))) (fun _ hk => hk.2) (.int .i64 ((rd_T39 t176 (rd t183 x14_6)).f0))) (fun _ hk => hk.2) (.int .i64 ((rd_T39 t176 (rd t183 x14_6)).f1))) (fun _ hk => trivial)⟩, ⟨by (with_reducible repeat (first | apply Kd.R_alloc | apply Kd.R_drewN | apply Kd.R_drew)); exact Kd.R_mono (Kd.R_far (p := ⟨gb199, 1, none⟩) (Kd.R_far (p := ⟨gb199, 0, none⟩) (Kd.R_types HO_8.out BK199.out (by decide)) (fun _ hk => hk.2) (.int .i64 ((rd_T39 t176 (rd t183 x14_6)).f0))) (fun _ hk => hk.2) (.int .i64 ((rd_T39 t176 (rd t183 x14_6)).f1))) (fun _ hk => trivial)⟩, ⟨by repeat (first | (with_reducible first | exact HB.out | apply below_alloc | apply pw_below_drewN | apply below_drew1 | refine below_set ?_ GE199.out) | exact HB.out)⟩⟩
                       ·rw [if_neg c58] at H
                        exact absurd H (by simp)
                      ·rw [if_neg c57] at H
                       exact absurd H (by simp)
                     ·rw [if_neg c56] at H
                      exact absurd H (by simp)
                    ·rw [if_neg c55] at H
                     have c55b0 : decide (x14_6 < (t183.length : Int)) = false := decide_eq_false c55
                     clear c55
                     by_cases c69 : x13_6 = true
                     ·subst c69
                      have H1 : (some false) = some r := by rw [if_pos rfl] at H; exact H
                      clear H
                      have H := H1
                      clear H1
                      exact absurd (H.trans (congrArg some HRT.out)) (by simp)
                     ·replace c69 := Bool.eq_false_iff.mpr c69
                      subst c69
                      have H1 : (laws_FnShifts.l2 k6 t176 t179 t181 (Int.tmod t182 16) t183 x9_2 (wrap64 (x12_5 + 1))) = some r := by rw [if_neg (show ¬ (false = true) by decide)] at H; exact H
                      clear H
                      have H := H1
                      clear H1
                      have H' := Aside0.mk H
                      clear H
                      go_wp2
                      repeat (go_quiet (fail); try go_wp2)
                      go_roundg k6
                      case measure => have := HJ9.out; have := HK2.out; have := HK3.out; have := HJ47.out; have := HK5.out; have := HK6.out; omega
                      case rel => exact ⟨(wrap64 (x12_5 + 1)), (by first | rfl | (simp; done) | (simp [*]; done)), H', ⟨by have := HJ9.out; have := HK2.out; have := HK3.out; have := HJ47.out; have := HK5.out; have := HK6.out; omega⟩, ⟨by (with_reducible repeat (first | apply Kd.R_alloc | apply Kd.R_drewN | apply Kd.R_drew)); exact HO_3.out⟩, ⟨by (with_reducible repeat (first | apply Kd.R_alloc | apply Kd.R_drewN | apply Kd.R_drew)); exact HO_8.out⟩, ⟨by repeat (first | (with_reducible first | exact HB.out | apply below_alloc | apply pw_below_drewN | apply below_drew1) | exact HB.out)⟩⟩
                ·rw [if_neg c52] at H
                 have c52b0 : decide (x12_5 < (t176.length : Int)) = false := decide_eq_false c52
                 clear c52
                 obtain ⟨y202, hy202⟩ : ∃ y_ : List (S39), y_ = (([(⟨20, 30⟩ : S39)] : List (S39))) := ⟨_, rfl⟩
                 replace H : (if x9_2 = t179 then ((impl_IsAllowed.f k5 t176 t181 t179).bind fun t205 => (if t205 = true then ((impl_IsAllowed.f k5 t176 t181 (wrap64 (t179 - 1))).bind fun t206 => (if t206 = true then (some false) else ((impl_NightHours.f k5 y202).bind fun t207 => (if t207 = 8 then ((impl_ShiftsOk.f k5 t176).bind fun t208 => (some t208)) else (some false))))) else (some false))) else (some false)) = some r := by first | (rw [hy202]; with_reducible exact H) | (have H2_ := (Option.bind_some _ _).symm.trans H; rw [hy202]; with_reducible exact H2_) | (have H2_ := (Option.bind_some _ _).symm.trans H; with_reducible exact H2_) | with_reducible exact H | (rw [hy202]; exact H) | exact H
                 have Ny202 := Aside0.mk hy202
                 clear hy202
                 by_cases c70 : x9_2 = t179
                 ·rw [if_pos c70] at H
                  have c70b0 : (x9_2 == t179) = true := beq_iff_eq.mpr c70
                  have c70b1 : (x9_2 != t179) = false := bne_eq_false_iff_eq.mpr c70
                  clear c70
                  replace H := Option.bind_eq_some_iff.mp H
                  obtain ⟨t205, A710, H⟩ := H
                  replace H : (if t205 = true then ((impl_IsAllowed.f k5 t176 t181 (wrap64 (t179 - 1))).bind fun t206 => (if t206 = true then (some false) else ((impl_NightHours.f k5 y202).bind fun t207 => (if t207 = 8 then ((impl_ShiftsOk.f k5 t176).bind fun t208 => (some t208)) else (some false))))) else (some false)) = some r := H
                  have A71 := Aside0.mk A710
                  clear A710
                  by_cases c72 : t205 = true
                  ·subst c72
                   have H1 : ((impl_IsAllowed.f k5 t176 t181 (wrap64 (t179 - 1))).bind fun t206 => (if t206 = true then (some false) else ((impl_NightHours.f k5 y202).bind fun t207 => (if t207 = 8 then ((impl_ShiftsOk.f k5 t176).bind fun t208 => (some t208)) else (some false))))) = some r := by rw [if_pos rfl] at H; exact H
                   clear H
                   have H := H1
                   clear H1
                   replace H := Option.bind_eq_some_iff.mp H
                   obtain ⟨t206, A730, H⟩ := H
                   replace H : (if t206 = true then (some false) else ((impl_NightHours.f k5 y202).bind fun t207 => (if t207 = 8 then ((impl_ShiftsOk.f k5 t176).bind fun t208 => (some t208)) else (some false)))) = some r := H
                   have A73 := Aside0.mk A730
                   clear A730
                   by_cases c74 : t206 = true
                   ·subst c74
                    have H1 : (some false) = some r := by rw [if_pos rfl] at H; exact H
                    clear H
                    have H := H1
                    clear H1
                    exact absurd (H.trans (congrArg some HRT.out)) (by simp)
                   ·replace c74 := Bool.eq_false_iff.mpr c74
                    subst c74
                    have H1 : ((impl_NightHours.f k5 y202).bind fun t207 => (if t207 = 8 then ((impl_ShiftsOk.f k5 t176).bind fun t208 => (some t208)) else (some false))) = some r := by rw [if_neg (show ¬ (false = true) by decide)] at H; exact H
                    clear H
                    have H := H1
                    clear H1
                    replace H := Option.bind_eq_some_iff.mp H
                    obtain ⟨t207, A750, H⟩ := H
                    replace H : (if t207 = 8 then ((impl_ShiftsOk.f k5 t176).bind fun t208 => (some t208)) else (some false)) = some r := H
                    have A75 := Aside0.mk A750
                    clear A750
                    by_cases c76 : t207 = 8
                    ·rw [if_pos c76] at H
                     have c76b0 : (t207 == 8) = true := beq_iff_eq.mpr c76
                     have c76b1 : (t207 != 8) = false := bne_eq_false_iff_eq.mpr c76
                     clear c76
                     replace H := Option.bind_eq_some_iff.mp H
                     obtain ⟨t208, A770, H⟩ := H
                     replace H : (some t208) = some r := H
                     have A77 := Aside0.mk A770
                     clear A770
                     obtain rfl := Option.some.inj H
                     go_wp2_with (first | ((with_reducible refine gate_dst (N := 208) rfl ?_); (try (refine gate_guard (by rfl) ?_; dsimp only)); refine Kd.R_lit k39 _ 39 ?hg (N := 208) ?hd (xs := ([(⟨20, 30⟩ : S39)] : List (S39))) (inner := [.int .i64 20, .int .i64 30]) (ok := fun _ => True) (okp := fun _ => True) ?hr ?hp (fun _ hk => hk) trivial (Below.refl _ _) (Nat.le_refl _) (by simp) ?_; (case hd => rfl); (case hg => rfl); (case hr => first | (go_simp; done) | (go_simp; rfl)); (case hp => exact (Reps.c2 (show Kd.M k39 _ _ _ (⟨20, 30⟩ : S39) [.int .i64 20, .int .i64 30] from (k39_mkM _ _ _ (⟨20, 30⟩ : S39) )) (Reps.none _ _))); intro v203 w78 ho79 hb hg_ hnew_; clear hg_ hnew_; (first | rw [← Ny202.out] at ho79 | (simp only [Int.reduceToNat] at ho79; rw [← Ny202.out] at ho79)); have n0_ := Aside0.mk (Kd.R_elder' (by (with_reducible repeat (first | apply Kd.R_alloc | apply Kd.R_drewN | apply Kd.R_drew)); exact HO_3.out) (Kd.R_base ho79) hb); have n1_ := Aside0.mk (Kd.R_below (by (with_reducible repeat (first | apply Kd.R_alloc | apply Kd.R_drewN | apply Kd.R_drew)); exact HO_8.out) hb); have n2_ := Aside0.mk (Kd.R_lower (Kd.R_new' ho79 (Kd.R_lt (by (with_reducible repeat (first | apply Kd.R_alloc | apply Kd.R_drewN | apply Kd.R_drew)); exact HO_3.out))) (below_size (by repeat (first | (with_reducible first | exact HB.out | apply below_alloc | apply pw_below_drewN | apply below_drew1) | exact HB.out)))); have n3_ := Aside0.mk (below_step (by repeat (first | (with_reducible first | exact HB.out | apply below_alloc | apply pw_below_drewN | apply below_drew1) | exact HB.out)) hb); clear HO_3 HO_8 HB; have HO_3 := n0_; have HO_8 := n1_; have HO204 := n2_; have HB := n3_; clear n0_ n1_ n2_ n3_; clear hb ho79) | (go_at_call 22; (with_reducible refine (impl_IsAllowed.calls k5 _ _ t176 t181 t179 true _ ?side1 ?side2 A71.out).mono ?_); (case side1 => repeat (first | exact (Kd.R_reads' HO_3.out).2.2 | (with_reducible refine Kd.C_alloc ?_ _) | (with_reducible refine Kd.C_drewN ?_ _) | (with_reducible refine Kd.C_drew ?_))); (case side2 => exact (Kd.R_reads' HO_3.out).2.1); rintro e w80 ⟨rfl, hb⟩; have n0_ := Aside0.mk (Kd.R_below (by (with_reducible repeat (first | apply Kd.R_alloc | apply Kd.R_drewN | apply Kd.R_drew)); exact HO_3.out) hb); have n1_ := Aside0.mk (Kd.R_below (by (with_reducible repeat (first | apply Kd.R_alloc | apply Kd.R_drewN | apply Kd.R_drew)); exact HO_8.out) hb); have n2_ := Aside0.mk (Kd.R_below (by (with_reducible repeat (first | apply Kd.R_alloc | apply Kd.R_drewN | apply Kd.R_drew)); exact HO204.out) hb); have n3_ := Aside0.mk (below_step (by repeat (first | (with_reducible first | exact HB.out | apply below_alloc | apply pw_below_drewN | apply below_drew1) | exact HB.out)) hb); clear HO_3 HO_8 HO204 HB; have HO_3 := n0_; have HO_8 := n1_; have HO204 := n2_; have HB := n3_; clear n0_ n1_ n2_ n3_; (try clear hb); (try clear hb2); (try clear hk); (try clear hi)) | (go_at_call 22; (with_reducible refine (impl_IsAllowed.calls k5 _ _ t176 t181 (wrap64 (t179 - 1)) false _ ?side1 ?side2 A73.out).mono ?_); (case side1 => repeat (first | exact (Kd.R_reads' HO_3.out).2.2 | (with_reducible refine Kd.C_alloc ?_ _) | (with_reducible refine Kd.C_drewN ?_ _) | (with_reducible refine Kd.C_drew ?_))); (case side2 => exact (Kd.R_reads' HO_3.out).2.1); rintro e w81 ⟨rfl, hb⟩; have n0_ := Aside0.mk (Kd.R_below (by (with_reducible repeat (first | apply Kd.R_alloc | apply Kd.R_drewN | apply Kd.R_drew)); exact HO_3.out) hb); have n1_ := Aside0.mk (Kd.R_below (by (with_reducible repeat (first | apply Kd.R_alloc | apply Kd.R_drewN | apply Kd.R_drew)); exact HO_8.out) hb); have n2_ := Aside0.mk (Kd.R_below (by (with_reducible repeat (first | apply Kd.R_alloc | apply Kd.R_drewN | apply Kd.R_drew)); exact HO204.out) hb); have n3_ := Aside0.mk (below_step (by repeat (first | (with_reducible first | exact HB.out | apply below_alloc | apply pw_below_drewN | apply below_drew1) | exact HB.out)) hb); clear HO_3 HO_8 HO204 HB; have HO_3 := n0_; have HO_8 := n1_; have HO204 := n2_; have HB := n3_; clear n0_ n1_ n2_ n3_; (try clear hb); (try clear hb2); (try clear hk); (try clear hi); obtain ⟨Ao82, co82, eo82⟩ := Kd.R_slice HO204.out; subst eo82) | (go_at_call 20; (with_reducible refine (impl_NightHours.calls k5 _ _ y202 t207 _ ?side1 ?side2 A75.out).mono ?_); (case side1 => repeat (first | exact (Kd.R_reads' HO204.out).2.2 | (with_reducible refine Kd.C_alloc ?_ _) | (with_reducible refine Kd.C_drewN ?_ _) | (with_reducible refine Kd.C_drew ?_))); (case side2 => exact (Kd.R_reads' HO204.out).2.1); rintro e w83 ⟨rfl, hb⟩; have n0_ := Aside0.mk (Kd.R_below (by (with_reducible repeat (first | apply Kd.R_alloc | apply Kd.R_drewN | apply Kd.R_drew)); exact HO_3.out) hb); have n1_ := Aside0.mk (Kd.R_below (by (with_reducible repeat (first | apply Kd.R_alloc | apply Kd.R_drewN | apply Kd.R_drew)); exact HO_8.out) hb); have n2_ := Aside0.mk (Kd.R_below (by (with_reducible repeat (first | apply Kd.R_alloc | apply Kd.R_drewN | apply Kd.R_drew)); exact HO204.out) hb); have n3_ := Aside0.mk (below_step (by repeat (first | (with_reducible first | exact HB.out | apply below_alloc | apply pw_below_drewN | apply below_drew1) | exact HB.out)) hb); clear HO_3 HO_8 HO204 HB; have HO_3 := n0_; have HO_8 := n1_; have HO204 := n2_; have HB := n3_; clear n0_ n1_ n2_ n3_; (try clear hb); (try clear hb2); (try clear hk); (try clear hi)) | (go_at_call 13; (with_reducible refine (impl_ShiftsOk.calls k5 _ _ t176 t208 _ ?side1 ?side2 A77.out).mono ?_); (case side1 => repeat (first | exact (Kd.R_reads' HO_3.out).2.2 | (with_reducible refine Kd.C_alloc ?_ _) | (with_reducible refine Kd.C_drewN ?_ _) | (with_reducible refine Kd.C_drew ?_))); (case side2 => exact (Kd.R_reads' HO_3.out).2.1); rintro e w84 ⟨rfl, hb⟩; have n0_ := Aside0.mk (Kd.R_below (by (with_reducible repeat (first | apply Kd.R_alloc | apply Kd.R_drewN | apply Kd.R_drew)); exact HO_3.out) hb); have n1_ := Aside0.mk (Kd.R_below (by (with_reducible repeat (first | apply Kd.R_alloc | apply Kd.R_drewN | apply Kd.R_drew)); exact HO_8.out) hb); have n2_ := Aside0.mk (Kd.R_below (by (with_reducible repeat (first | apply Kd.R_alloc | apply Kd.R_drewN | apply Kd.R_drew)); exact HO204.out) hb); have n3_ := Aside0.mk (below_step (by repeat (first | (with_reducible first | exact HB.out | apply below_alloc | apply pw_below_drewN | apply below_drew1) | exact HB.out)) hb); clear HO_3 HO_8 HO204 HB; have HO_3 := n0_; have HO_8 := n1_; have HO204 := n2_; have HB := n3_; clear n0_ n1_ n2_ n3_; (try clear hb); (try clear hb2); (try clear hk); (try clear hi)))
                     repeat (go_quiet (first | ((with_reducible refine gate_dst (N := 208) rfl ?_); (try (refine gate_guard (by rfl) ?_; dsimp only)); refine Kd.R_lit k39 _ 39 ?hg (N := 208) ?hd (xs := ([(⟨20, 30⟩ : S39)] : List (S39))) (inner := [.int .i64 20, .int .i64 30]) (ok := fun _ => True) (okp := fun _ => True) ?hr ?hp (fun _ hk => hk) trivial (Below.refl _ _) (Nat.le_refl _) (by simp) ?_; (case hd => rfl); (case hg => rfl); (case hr => first | (go_simp; done) | (go_simp; rfl)); (case hp => exact (Reps.c2 (show Kd.M k39 _ _ _ (⟨20, 30⟩ : S39) [.int .i64 20, .int .i64 30] from (k39_mkM _ _ _ (⟨20, 30⟩ : S39) )) (Reps.none _ _))); intro v203 w78 ho79 hb hg_ hnew_; clear hg_ hnew_; (first | rw [← Ny202.out] at ho79 | (simp only [Int.reduceToNat] at ho79; rw [← Ny202.out] at ho79)); have n0_ := Aside0.mk (Kd.R_elder' (by (with_reducible repeat (first | apply Kd.R_alloc | apply Kd.R_drewN | apply Kd.R_drew)); exact HO_3.out) (Kd.R_base ho79) hb); have n1_ := Aside0.mk (Kd.R_below (by (with_reducible repeat (first | apply Kd.R_alloc | apply Kd.R_drewN | apply Kd.R_drew)); exact HO_8.out) hb); have n2_ := Aside0.mk (Kd.R_lower (Kd.R_new' ho79 (Kd.R_lt (by (with_reducible repeat (first | apply Kd.R_alloc | apply Kd.R_drewN | apply Kd.R_drew)); exact HO_3.out))) (below_size (by repeat (first | (with_reducible first | exact HB.out | apply below_alloc | apply pw_below_drewN | apply below_drew1) | exact HB.out)))); have n3_ := Aside0.mk (below_step (by repeat (first | (with_reducible first | exact HB.out | apply below_alloc | apply pw_below_drewN | apply below_drew1) | exact HB.out)) hb); clear HO_3 HO_8 HB; have HO_3 := n0_; have HO_8 := n1_; have HO204 := n2_; have HB := n3_; clear n0_ n1_ n2_ n3_; clear hb ho79) | (go_at_call 22; (with_reducible refine (impl_IsAllowed.calls k5 _ _ t176 t181 t179 true _ ?side1 ?side2 A71.out).mono ?_); (case side1 => repeat (first | exact (Kd.R_reads' HO_3.out).2.2 | (with_reducible refine Kd.C_alloc ?_ _) | (with_reducible refine Kd.C_drewN ?_ _) | (with_reducible refine Kd.C_drew ?_))); (case side2 => exact (Kd.R_reads' HO_3.out).2.1); rintro e w80 ⟨rfl, hb⟩; have n0_ := Aside0.mk (Kd.R_below (by (with_reducible repeat (first | apply Kd.R_alloc | apply Kd.R_drewN | apply Kd.R_drew)); exact HO_3.out) hb); have n1_ := Aside0.mk (Kd.R_below (by (with_reducible repeat (first | apply Kd.R_alloc | apply Kd.R_drewN | apply Kd.R_drew)); exact HO_8.out) hb); have n2_ := Aside0.mk (Kd.R_below (by (with_reducible repeat (first | apply Kd.R_alloc | apply Kd.R_drewN | apply Kd.R_drew)); exact HO204.out) hb); have n3_ := Aside0.mk (below_step (by repeat (first | (with_reducible first | exact HB.out | apply below_alloc | apply pw_below_drewN | apply below_drew1) | exact HB.out)) hb); clear HO_3 HO_8 HO204 HB; have HO_3 := n0_; have HO_8 := n1_; have HO204 := n2_; have HB := n3_; clear n0_ n1_ n2_ n3_; (try clear hb); (try clear hb2); (try clear hk); (try clear hi)) | (go_at_call 22; (with_reducible refine (impl_IsAllowed.calls k5 _ _ t176 t181 (wrap64 (t179 - 1)) false _ ?side1 ?side2 A73.out).mono ?_); (case side1 => repeat (first | exact (Kd.R_reads' HO_3.out).2.2 | (with_reducible refine Kd.C_alloc ?_ _) | (with_reducible refine Kd.C_drewN ?_ _) | (with_reducible refine Kd.C_drew ?_))); (case side2 => exact (Kd.R_reads' HO_3.out).2.1); rintro e w81 ⟨rfl, hb⟩; have n0_ := Aside0.mk (Kd.R_below (by (with_reducible repeat (first | apply Kd.R_alloc | apply Kd.R_drewN | apply Kd.R_drew)); exact HO_3.out) hb); have n1_ := Aside0.mk (Kd.R_below (by (with_reducible repeat (first | apply Kd.R_alloc | apply Kd.R_drewN | apply Kd.R_drew)); exact HO_8.out) hb); have n2_ := Aside0.mk (Kd.R_below (by (with_reducible repeat (first | apply Kd.R_alloc | apply Kd.R_drewN | apply Kd.R_drew)); exact HO204.out) hb); have n3_ := Aside0.mk (below_step (by repeat (first | (with_reducible first | exact HB.out | apply below_alloc | apply pw_below_drewN | apply below_drew1) | exact HB.out)) hb); clear HO_3 HO_8 HO204 HB; have HO_3 := n0_; have HO_8 := n1_; have HO204 := n2_; have HB := n3_; clear n0_ n1_ n2_ n3_; (try clear hb); (try clear hb2); (try clear hk); (try clear hi); obtain ⟨Ao82, co82, eo82⟩ := Kd.R_slice HO204.out; subst eo82) | (go_at_call 20; (with_reducible refine (impl_NightHours.calls k5 _ _ y202 t207 _ ?side1 ?side2 A75.out).mono ?_); (case side1 => repeat (first | exact (Kd.R_reads' HO204.out).2.2 | (with_reducible refine Kd.C_alloc ?_ _) | (with_reducible refine Kd.C_drewN ?_ _) | (with_reducible refine Kd.C_drew ?_))); (case side2 => exact (Kd.R_reads' HO204.out).2.1); rintro e w83 ⟨rfl, hb⟩; have n0_ := Aside0.mk (Kd.R_below (by (with_reducible repeat (first | apply Kd.R_alloc | apply Kd.R_drewN | apply Kd.R_drew)); exact HO_3.out) hb); have n1_ := Aside0.mk (Kd.R_below (by (with_reducible repeat (first | apply Kd.R_alloc | apply Kd.R_drewN | apply Kd.R_drew)); exact HO_8.out) hb); have n2_ := Aside0.mk (Kd.R_below (by (with_reducible repeat (first | apply Kd.R_alloc | apply Kd.R_drewN | apply Kd.R_drew)); exact HO204.out) hb); have n3_ := Aside0.mk (below_step (by repeat (first | (with_reducible first | exact HB.out | apply below_alloc | apply pw_below_drewN | apply below_drew1) | exact HB.out)) hb); clear HO_3 HO_8 HO204 HB; have HO_3 := n0_; have HO_8 := n1_; have HO204 := n2_; have HB := n3_; clear n0_ n1_ n2_ n3_; (try clear hb); (try clear hb2); (try clear hk); (try clear hi)) | (go_at_call 13; (with_reducible refine (impl_ShiftsOk.calls k5 _ _ t176 t208 _ ?side1 ?side2 A77.out).mono ?_); (case side1 => repeat (first | exact (Kd.R_reads' HO_3.out).2.2 | (with_reducible refine Kd.C_alloc ?_ _) | (with_reducible refine Kd.C_drewN ?_ _) | (with_reducible refine Kd.C_drew ?_))); (case side2 => exact (Kd.R_reads' HO_3.out).2.1); rintro e w84 ⟨rfl, hb⟩; have n0_ := Aside0.mk (Kd.R_below (by (with_reducible repeat (first | apply Kd.R_alloc | apply Kd.R_drewN | apply Kd.R_drew)); exact HO_3.out) hb); have n1_ := Aside0.mk (Kd.R_below (by (with_reducible repeat (first | apply Kd.R_alloc | apply Kd.R_drewN | apply Kd.R_drew)); exact HO_8.out) hb); have n2_ := Aside0.mk (Kd.R_below (by (with_reducible repeat (first | apply Kd.R_alloc | apply Kd.R_drewN | apply Kd.R_drew)); exact HO204.out) hb); have n3_ := Aside0.mk (below_step (by repeat (first | (with_reducible first | exact HB.out | apply below_alloc | apply pw_below_drewN | apply below_drew1) | exact HB.out)) hb); clear HO_3 HO_8 HO204 HB; have HO_3 := n0_; have HO_8 := n1_; have HO204 := n2_; have HB := n3_; clear n0_ n1_ n2_ n3_; (try clear hb); (try clear hb2); (try clear hk); (try clear hi))); try go_wp2_with (first | ((with_reducible refine gate_dst (N := 208) rfl ?_); (try (refine gate_guard (by rfl) ?_; dsimp only)); refine Kd.R_lit k39 _ 39 ?hg (N := 208) ?hd (xs := ([(⟨20, 30⟩ : S39)] : List (S39))) (inner := [.int .i64 20, .int .i64 30]) (ok := fun _ => True) (okp := fun _ => True) ?hr ?hp (fun _ hk => hk) trivial (Below.refl _ _) (Nat.le_refl _) (by simp) ?_; (case hd => rfl); (case hg => rfl); (case hr => first | (go_simp; done) | (go_simp; rfl)); (case hp => exact (Reps.c2 (show Kd.M k39 _ _ _ (⟨20, 30⟩ : S39) [.int .i64 20, .int .i64 30] from (k39_mkM _ _ _ (⟨20, 30⟩ : S39) )) (Reps.none _ _))); intro v203 w78 ho79 hb hg_ hnew_; clear hg_ hnew_; (first | rw [← Ny202.out] at ho79 | (simp only [Int.reduceToNat] at ho79; rw [← Ny202.out] at ho79)); have n0_ := Aside0.mk (Kd.R_elder' (by (with_reducible repeat (first | apply Kd.R_alloc | apply Kd.R_drewN | apply Kd.R_drew)); exact HO_3.out) (Kd.R_base ho79) hb); have n1_ := Aside0.mk (Kd.R_below (by (with_reducible repeat (first | apply Kd.R_alloc | apply Kd.R_drewN | apply Kd.R_drew)); exact HO_8.out) hb); have n2_ := Aside0.mk (Kd.R_lower (Kd.R_new' ho79 (Kd.R_lt (by (with_reducible repeat (first | apply Kd.R_alloc | apply Kd.R_drewN | apply Kd.R_drew)); exact HO_3.out))) (below_size (by repeat (first | (with_reducible first | exact HB.out | apply below_alloc | apply pw_below_drewN | apply below_drew1) | exact HB.out)))); have n3_ := Aside0.mk (below_step (by repeat (first | (with_reducible first | exact HB.out | apply below_alloc | apply pw_below_drewN | apply below_drew1) | exact HB.out)) hb); clear HO_3 HO_8 HB; have HO_3 := n0_; have HO_8 := n1_; have HO204 := n2_; have HB := n3_; clear n0_ n1_ n2_ n3_; clear hb ho79) | (go_at_call 22; (with_reducible refine (impl_IsAllowed.calls k5 _ _ t176 t181 t179 true _ ?side1 ?side2 A71.out).mono ?_); (case side1 => repeat (first | exact (Kd.R_reads' HO_3.out).2.2 | (with_reducible refine Kd.C_alloc ?_ _) | (with_reducible refine Kd.C_drewN ?_ _) | (with_reducible refine Kd.C_drew ?_))); (case side2 => exact (Kd.R_reads' HO_3.out).2.1); rintro e w80 ⟨rfl, hb⟩; have n0_ := Aside0.mk (Kd.R_below (by (with_reducible repeat (first | apply Kd.R_alloc | apply Kd.R_drewN | apply Kd.R_drew)); exact HO_3.out) hb); have n1_ := Aside0.mk (Kd.R_below (by (with_reducible repeat (first | apply Kd.R_alloc | apply Kd.R_drewN | apply Kd.R_drew)); exact HO_8.out) hb); have n2_ := Aside0.mk (Kd.R_below (by (with_reducible repeat (first | apply Kd.R_alloc | apply Kd.R_drewN | apply Kd.R_drew)); exact HO204.out) hb); have n3_ := Aside0.mk (below_step (by repeat (first | (with_reducible first | exact HB.out | apply below_alloc | apply pw_below_drewN | apply below_drew1) | exact HB.out)) hb); clear HO_3 HO_8 HO204 HB; have HO_3 := n0_; have HO_8 := n1_; have HO204 := n2_; have HB := n3_; clear n0_ n1_ n2_ n3_; (try clear hb); (try clear hb2); (try clear hk); (try clear hi)) | (go_at_call 22; (with_reducible refine (impl_IsAllowed.calls k5 _ _ t176 t181 (wrap64 (t179 - 1)) false _ ?side1 ?side2 A73.out).mono ?_); (case side1 => repeat (first | exact (Kd.R_reads' HO_3.out).2.2 | (with_reducible refine Kd.C_alloc ?_ _) | (with_reducible refine Kd.C_drewN ?_ _) | (with_reducible refine Kd.C_drew ?_))); (case side2 => exact (Kd.R_reads' HO_3.out).2.1); rintro e w81 ⟨rfl, hb⟩; have n0_ := Aside0.mk (Kd.R_below (by (with_reducible repeat (first | apply Kd.R_alloc | apply Kd.R_drewN | apply Kd.R_drew)); exact HO_3.out) hb); have n1_ := Aside0.mk (Kd.R_below (by (with_reducible repeat (first | apply Kd.R_alloc | apply Kd.R_drewN | apply Kd.R_drew)); exact HO_8.out) hb); have n2_ := Aside0.mk (Kd.R_below (by (with_reducible repeat (first | apply Kd.R_alloc | apply Kd.R_drewN | apply Kd.R_drew)); exact HO204.out) hb); have n3_ := Aside0.mk (below_step (by repeat (first | (with_reducible first | exact HB.out | apply below_alloc | apply pw_below_drewN | apply below_drew1) | exact HB.out)) hb); clear HO_3 HO_8 HO204 HB; have HO_3 := n0_; have HO_8 := n1_; have HO204 := n2_; have HB := n3_; clear n0_ n1_ n2_ n3_; (try clear hb); (try clear hb2); (try clear hk); (try clear hi); obtain ⟨Ao82, co82, eo82⟩ := Kd.R_slice HO204.out; subst eo82) | (go_at_call 20; (with_reducible refine (impl_NightHours.calls k5 _ _ y202 t207 _ ?side1 ?side2 A75.out).mono ?_); (case side1 => repeat (first | exact (Kd.R_reads' HO204.out).2.2 | (with_reducible refine Kd.C_alloc ?_ _) | (with_reducible refine Kd.C_drewN ?_ _) | (with_reducible refine Kd.C_drew ?_))); (case side2 => exact (Kd.R_reads' HO204.out).2.1); rintro e w83 ⟨rfl, hb⟩; have n0_ := Aside0.mk (Kd.R_below (by (with_reducible repeat (first | apply Kd.R_alloc | apply Kd.R_drewN | apply Kd.R_drew)); exact HO_3.out) hb); have n1_ := Aside0.mk (Kd.R_below (by (with_reducible repeat (first | apply Kd.R_alloc | apply Kd.R_drewN | apply Kd.R_drew)); exact HO_8.out) hb); have n2_ := Aside0.mk (Kd.R_below (by (with_reducible repeat (first | apply Kd.R_alloc | apply Kd.R_drewN | apply Kd.R_drew)); exact HO204.out) hb); have n3_ := Aside0.mk (below_step (by repeat (first | (with_reducible first | exact HB.out | apply below_alloc | apply pw_below_drewN | apply below_drew1) | exact HB.out)) hb); clear HO_3 HO_8 HO204 HB; have HO_3 := n0_; have HO_8 := n1_; have HO204 := n2_; have HB := n3_; clear n0_ n1_ n2_ n3_; (try clear hb); (try clear hb2); (try clear hk); (try clear hi)) | (go_at_call 13; (with_reducible refine (impl_ShiftsOk.calls k5 _ _ t176 t208 _ ?side1 ?side2 A77.out).mono ?_); (case side1 => repeat (first | exact (Kd.R_reads' HO_3.out).2.2 | (with_reducible refine Kd.C_alloc ?_ _) | (with_reducible refine Kd.C_drewN ?_ _) | (with_reducible refine Kd.C_drew ?_))); (case side2 => exact (Kd.R_reads' HO_3.out).2.1); rintro e w84 ⟨rfl, hb⟩; have n0_ := Aside0.mk (Kd.R_below (by (with_reducible repeat (first | apply Kd.R_alloc | apply Kd.R_drewN | apply Kd.R_drew)); exact HO_3.out) hb); have n1_ := Aside0.mk (Kd.R_below (by (with_reducible repeat (first | apply Kd.R_alloc | apply Kd.R_drewN | apply Kd.R_drew)); exact HO_8.out) hb); have n2_ := Aside0.mk (Kd.R_below (by (with_reducible repeat (first | apply Kd.R_alloc | apply Kd.R_drewN | apply Kd.R_drew)); exact HO204.out) hb); have n3_ := Aside0.mk (below_step (by repeat (first | (with_reducible first | exact HB.out | apply below_alloc | apply pw_below_drewN | apply below_drew1) | exact HB.out)) hb); clear HO_3 HO_8 HO204 HB; have HO_3 := n0_; have HO_8 := n1_; have HO204 := n2_; have HB := n3_; clear n0_ n1_ n2_ n3_; (try clear hb); (try clear hb2); (try clear hk); (try clear hi))))
                     go_ret
                     exact ⟨by first | rfl | (simp [errW_none, errW_some] <;> rfl) | (simp [*, errW_none, errW_some] <;> rfl), by repeat (first | (with_reducible first | exact HB.out | apply below_alloc | apply pw_below_drewN | apply below_drew1) | exact HB.out)⟩
                    ·rw [if_neg c76] at H
                     have c76b0 : (t207 == 8) = false := beq_eq_false_iff_ne.mpr c76
                     have c76b1 : (t207 != 8) = true := bne_iff_ne.mpr c76
                     exact absurd (H.trans (congrArg some HRT.out)) (by simp)
                  ·replace c72 := Bool.eq_false_iff.mpr c72
                   subst c72
                   have H1 : (some false) = some r := by rw [if_neg (show ¬ (false = true) by decide)] at H; exact H
                   clear H
                   have H := H1
                   clear H1
                   exact absurd (H.trans (congrArg some HRT.out)) (by simp)
                 ·rw [if_neg c70] at H
                  have c70b0 : (x9_2 == t179) = false := beq_eq_false_iff_ne.mpr c70
                  have c70b1 : (x9_2 != t179) = true := bne_iff_ne.mpr c70
                  exact absurd (H.trans (congrArg some HRT.out)) (by simp)
/-- THE ONE PURE STATEMENT of laws_FnShifts. -/
def laws_FnShifts.Pure : Prop := ∀ (l0 : List Int), l0.length ≤ maxLen → l0.length * 1 ≤ 140737488351232 → (∀ x ∈ l0, (Lit.int .u8 x).wf = true) → ∃ k, laws_FnShifts.f k l0 = some true
theorem laws_FnShifts.walk (P : laws_FnShifts.Pure) (A0 : Option Addr) (c0 : Nat) (l0 : List Int) (w : World) (hr0 : Kd.C (Kd.int .u8) w A0 l0.length l0) (hc0 : l0.length ≤ c0) (y0 : l0.length ≤ maxLen) (y1 : l0.length * 1 ≤ 140737488351232) (y2 : (∀ x ∈ l0, (Lit.int .u8 x).wf = true)) :
  Calls Try.prog 8 #[.slice A0 l0.length c0] w fun e w' => e = .returned (.bool true) ∧ Below w.heap.size w w' := by
 obtain ⟨k, h⟩ := P l0 y0 y1 y2
 refine (laws_FnShifts.calls k A0 c0 l0 true w hr0 hc0 rfl h).mono ?_
 rintro e w' ⟨rfl, hd⟩
 exact ⟨rfl, hd⟩

end Go.Proofs.Ytdlolekpdophcaa.PES
