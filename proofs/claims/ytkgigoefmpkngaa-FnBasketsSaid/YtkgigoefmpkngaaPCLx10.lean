-- Written by a program of this session (wip/hprint.py, over the kit's print).
import Derived.Test.YtkgigoefmpkngaaPCLx0
import Derived.Test.YtkgigoefmpkngaaPCLx4
import Derived.Test.YtkgigoefmpkngaaPCLx7
import Derived.Test.YtkgigoefmpkngaaPCLx8
import Derived.Test.YtkgigoefmpkngaaPCLx9
namespace Go.Proofs.Ytkgigoefmpkngaa.PCL
open Go.RowKit Go.Proofs.YtkgigoefmpkngaaW.PrintWords Go.Proofs.YtkgigoefmpkngaaW.PrintLast Go.Proofs.YtkgigoefmpkngaaW.PrintMore
attribute [local go_sem] max2_int min2_int max_two min_two max_three min_three max_four min_four   -- for this text's walks alone
set_option linter.unusedVariables false
set_option linter.unusedSimpArgs false

/-! ### laws_FnBaskets: function 9 -/
mutual
def laws_FnBaskets.j0 : Nat → List (S49) → Int → Int → Int → Int → List (List Int) → Bool → Option (Bool)
 | 0, _, _, _, _, _, _, _ => none
 | k + 1, x3, x4, x5, x6, x7, x8, x78 => if x78 = true then (some false) else (laws_FnBaskets.l0 k x3 x4 x5 x6 x7 x8 0)
def laws_FnBaskets.l0 : Nat → List (S49) → Int → Int → Int → Int → List (List Int) → Int → Option (Bool)
 | 0, _, _, _, _, _, _, _ => none
 | k + 1, x3, x4, x5, x6, x7, x8, x10 => if x10 < (x8.length : Int) then (if 0 ≤ x10 then (if ((rd_L1 x8 x10).length : Int) = 2 then ((impl_CountWith.f k x3 (rd_L1 x8 x10)).bind fun t372 => (if t372 < x7 then (some false) else (if 0 < ((rd_L1 x8 x10).length : Int) then (if 1 < ((rd_L1 x8 x10).length : Int) then (if (rd (rd_L1 x8 x10) 0) ≥ (rd (rd_L1 x8 x10) 1) then (some false) else (laws_FnBaskets.l0 k x3 x4 x5 x6 x7 x8 (wrap64 (x10 + 1)))) else (none)) else (none)))) else (some false)) else (none)) else (if x4 < x5 then ((impl_CountWith.f k x3 (([x4, x5] : List Int))).bind fun t380 => (laws_FnBaskets.l1 k x3 x4 x5 x6 x7 x8 t380 false 0)) else (laws_FnBaskets.j3 k x3 x4 x5))
def laws_FnBaskets.j3 : Nat → List (S49) → Int → Int → Option (Bool)
 | 0, _, _, _ => none
 | k + 1, x3, x4, x5 => (impl_NextThing.f k x3 (([x4] : List Int))).bind fun t395 => (if t395 > 0 then ((some (([mn x4 t395, mx x4 t395] : List Int) : List Int)).bind fun y396 => (if t395 = x4 then (laws_FnBaskets.j4 k x3 x4 x5 y396 true) else ((impl_CountWith.f k x3 y396).bind fun t399 => (laws_FnBaskets.j4 k x3 x4 x5 y396 (decide (t399 < 1)))))) else ((impl_BasketsOk.f k x3).bind fun t416 => (if t416 = true then ((impl_CountWith.f k (([(⟨(([1, 4] : List Int))⟩ : S49)] : List (S49))) (([4] : List Int))).bind fun t426 => (some (t426 == 1))) else (some false))))
def laws_FnBaskets.j4 : Nat → List (S49) → Int → Int → List Int → Bool → Option (Bool)
 | 0, _, _, _, _, _ => none
 | k + 1, x3, x4, x5, x15, x205 => if x205 = true then (some false) else (if x5 = x4 then (laws_FnBaskets.j5 k x3 false) else ((impl_CountWith.f k x3 (([mn x4 x5, mx x4 x5] : List Int))).bind fun t403 => ((impl_CountWith.f k x3 x15).bind fun t404 => (laws_FnBaskets.j5 k x3 (decide (t403 > t404))))))
def laws_FnBaskets.j5 : Nat → List (S49) → Bool → Option (Bool)
 | 0, _, _ => none
 | k + 1, x3, x223 => if x223 = true then (some false) else ((impl_BasketsOk.f k x3).bind fun t405 => (if t405 = true then ((impl_CountWith.f k (([(⟨(([1, 4] : List Int))⟩ : S49)] : List (S49))) (([4] : List Int))).bind fun t415 => (some (t415 == 1))) else (some false)))
def laws_FnBaskets.l1 : Nat → List (S49) → Int → Int → Int → Int → List (List Int) → Int → Bool → Int → Option (Bool)
 | 0, _, _, _, _, _, _, _, _, _ => none
 | k + 1, x3, x4, x5, x6, x7, x8, x11, x12, x13 => if x13 < (x8.length : Int) then (if x12 = true then (laws_FnBaskets.l1 k x3 x4 x5 x6 x7 x8 x11 true (wrap64 (x13 + 1))) else (if 0 ≤ x13 then ((laws_sameInts.f k (rd_L1 x8 x13) (([x4, x5] : List Int))).bind fun t385 => (laws_FnBaskets.l1 k x3 x4 x5 x6 x7 x8 x11 t385 (wrap64 (x13 + 1)))) else (none))) else (if x11 > x6 then (some false) else ((impl_CountWith.f k x3 (([x5] : List Int))).bind fun t389 => (if x11 > t389 then (some false) else (if (x12 != (decide (x11 ≥ x7))) = true then (some false) else (if x6 > 0 then (if x6 = 0 then (none) else ((impl_FollowsFrom.f k x3 x4 x5 (wrap64 (Int.tdiv (wrap64 (100 * x11)) x6))).bind fun t390 => (if t390 = true then ((impl_FollowsFrom.f k x3 x4 x5 100).bind fun t391 => (if (t391 != (x11 == x6)) = true then (some false) else (laws_FnBaskets.j3 k x3 x4 x5))) else (some false)))) else (laws_FnBaskets.j3 k x3 x4 x5))))))
end
def laws_FnBaskets.f (k : Nat) (l0 : List Int) : Option (Bool) := (laws_big.f l0).bind fun t351 => (if t351 = true then (some true) else ((spec_DrawBaskets.f k l0).bind fun t352 => ((laws_at.f l0 0).bind fun t355 => ((laws_at.f l0 1).bind fun t356 => ((impl_CountWith.f k t352 (([wrap64 (1 + (Int.tmod t355 6))] : List Int))).bind fun t360 => ((laws_at.f l0 2).bind fun t361 => ((impl_CommonPairs.f k t352 (wrap64 (1 + (Int.tmod t361 4)))).bind fun t362 => ((impl_LargestCommon.f k t352 (wrap64 (1 + (Int.tmod t361 4)))).bind fun t365 => (if t360 < 0 then (laws_FnBaskets.j0 k t352 (wrap64 (1 + (Int.tmod t355 6))) (wrap64 (1 + (Int.tmod t356 6))) t360 (wrap64 (1 + (Int.tmod t361 4))) t362 true) else (if t360 > (t352.length : Int) then (laws_FnBaskets.j0 k t352 (wrap64 (1 + (Int.tmod t355 6))) (wrap64 (1 + (Int.tmod t356 6))) t360 (wrap64 (1 + (Int.tmod t361 4))) t362 true) else ((impl_CountWith.f k t352 ([] : List Int)).bind fun t368 => (if t368 = (t352.length : Int) then (if (t365.length : Int) > 0 then ((impl_CountWith.f k t352 t365).bind fun t369 => (if t369 < (wrap64 (1 + (Int.tmod t361 4))) then (laws_FnBaskets.j0 k t352 (wrap64 (1 + (Int.tmod t355 6))) (wrap64 (1 + (Int.tmod t356 6))) t360 (wrap64 (1 + (Int.tmod t361 4))) t362 true) else (if (t362.length : Int) > 0 then (laws_FnBaskets.j0 k t352 (wrap64 (1 + (Int.tmod t355 6))) (wrap64 (1 + (Int.tmod t356 6))) t360 (wrap64 (1 + (Int.tmod t361 4))) t362 (decide ((t365.length : Int) < 2))) else (laws_FnBaskets.j0 k t352 (wrap64 (1 + (Int.tmod t355 6))) (wrap64 (1 + (Int.tmod t356 6))) t360 (wrap64 (1 + (Int.tmod t361 4))) t362 false)))) else (if (t362.length : Int) > 0 then (laws_FnBaskets.j0 k t352 (wrap64 (1 + (Int.tmod t355 6))) (wrap64 (1 + (Int.tmod t356 6))) t360 (wrap64 (1 + (Int.tmod t361 4))) t362 (decide ((t365.length : Int) < 2))) else (laws_FnBaskets.j0 k t352 (wrap64 (1 + (Int.tmod t355 6))) (wrap64 (1 + (Int.tmod t356 6))) t360 (wrap64 (1 + (Int.tmod t361 4))) t362 false))) else (laws_FnBaskets.j0 k t352 (wrap64 (1 + (Int.tmod t355 6))) (wrap64 (1 + (Int.tmod t356 6))) t360 (wrap64 (1 + (Int.tmod t361 4))) t362 true)))))))))))))
theorem laws_FnBaskets.mono_l : ∀ k, (∀ y0 y1 y2 y3 y4 y5 y6, LeO (laws_FnBaskets.j0 k y0 y1 y2 y3 y4 y5 y6) (laws_FnBaskets.j0 (k + 1) y0 y1 y2 y3 y4 y5 y6)) ∧ (∀ y0 y1 y2 y3 y4 y5 y6, LeO (laws_FnBaskets.l0 k y0 y1 y2 y3 y4 y5 y6) (laws_FnBaskets.l0 (k + 1) y0 y1 y2 y3 y4 y5 y6)) ∧ (∀ y0 y1 y2, LeO (laws_FnBaskets.j3 k y0 y1 y2) (laws_FnBaskets.j3 (k + 1) y0 y1 y2)) ∧ (∀ y0 y1 y2 y3 y4, LeO (laws_FnBaskets.j4 k y0 y1 y2 y3 y4) (laws_FnBaskets.j4 (k + 1) y0 y1 y2 y3 y4)) ∧ (∀ y0 y1, LeO (laws_FnBaskets.j5 k y0 y1) (laws_FnBaskets.j5 (k + 1) y0 y1)) ∧ (∀ y0 y1 y2 y3 y4 y5 y6 y7 y8, LeO (laws_FnBaskets.l1 k y0 y1 y2 y3 y4 y5 y6 y7 y8) (laws_FnBaskets.l1 (k + 1) y0 y1 y2 y3 y4 y5 y6 y7 y8))
 | 0 => ⟨fun _ _ _ _ _ _ _ r h => by simp [laws_FnBaskets.j0] at h, fun _ _ _ _ _ _ _ r h => by simp [laws_FnBaskets.l0] at h, fun _ _ _ r h => by simp [laws_FnBaskets.j3] at h, fun _ _ _ _ _ r h => by simp [laws_FnBaskets.j4] at h, fun _ _ r h => by simp [laws_FnBaskets.j5] at h, fun _ _ _ _ _ _ _ _ _ r h => by simp [laws_FnBaskets.l1] at h⟩
 | k + 1 => by
  obtain ⟨ih0, ih1, ih2, ih3, ih4, ih5⟩ := laws_FnBaskets.mono_l k
  refine ⟨?_, ?_, ?_, ?_, ?_, ?_⟩
  ·intro y0 y1 y2 y3 y4 y5 y6
   unfold laws_FnBaskets.j0
   repeat' first
   | (with_reducible exact ih0 _ _ _ _ _ _ _)
   | (with_reducible exact ih1 _ _ _ _ _ _ _)
   | (with_reducible exact ih2 _ _ _)
   | (with_reducible exact ih3 _ _ _ _ _)
   | (with_reducible exact ih4 _ _)
   | (with_reducible exact ih5 _ _ _ _ _ _ _ _ _)
   | (with_reducible exact impl_BasketsOk.mono _ _)
   | (with_reducible exact impl_CommonPairs.mono _ _ _)
   | (with_reducible exact impl_CountWith.mono _ _ _)
   | (with_reducible exact impl_FollowsFrom.mono _ _ _ _ _)
   | (with_reducible exact impl_LargestCommon.mono _ _ _)
   | (with_reducible exact impl_NextThing.mono _ _ _)
   | (with_reducible exact laws_sameInts.mono _ _ _)
   | (with_reducible exact spec_DrawBaskets.mono _ _)
   | (with_reducible exact LeO.refl _)
   | (with_reducible exact LeO.none _)
   | (with_reducible refine LeO.ite ?_ ?_)
   | (with_reducible refine LeO.bind ?_ (fun _ => ?_))
   | exact ih0 _ _ _ _ _ _ _
   | exact ih1 _ _ _ _ _ _ _
   | exact ih2 _ _ _
   | exact ih3 _ _ _ _ _
   | exact ih4 _ _
   | exact ih5 _ _ _ _ _ _ _ _ _
   | exact impl_BasketsOk.mono _ _
   | exact impl_CommonPairs.mono _ _ _
   | exact impl_CountWith.mono _ _ _
   | exact impl_FollowsFrom.mono _ _ _ _ _
   | exact impl_LargestCommon.mono _ _ _
   | exact impl_NextThing.mono _ _ _
   | exact laws_sameInts.mono _ _ _
   | exact spec_DrawBaskets.mono _ _
   | exact LeO.none _
   | refine LeO.ite ?_ ?_
   | refine LeO.bind ?_ (fun _ => ?_)
  ·intro y0 y1 y2 y3 y4 y5 y6
   unfold laws_FnBaskets.l0
   repeat' first
   | (with_reducible exact ih0 _ _ _ _ _ _ _)
   | (with_reducible exact ih1 _ _ _ _ _ _ _)
   | (with_reducible exact ih2 _ _ _)
   | (with_reducible exact ih3 _ _ _ _ _)
   | (with_reducible exact ih4 _ _)
   | (with_reducible exact ih5 _ _ _ _ _ _ _ _ _)
   | (with_reducible exact impl_BasketsOk.mono _ _)
   | (with_reducible exact impl_CommonPairs.mono _ _ _)
   | (with_reducible exact impl_CountWith.mono _ _ _)
   | (with_reducible exact impl_FollowsFrom.mono _ _ _ _ _)
   | (with_reducible exact impl_LargestCommon.mono _ _ _)
   | (with_reducible exact impl_NextThing.mono _ _ _)
   | (with_reducible exact laws_sameInts.mono _ _ _)
   | (with_reducible exact spec_DrawBaskets.mono _ _)
   | (with_reducible exact LeO.refl _)
   | (with_reducible exact LeO.none _)
   | (with_reducible refine LeO.ite ?_ ?_)
   | (with_reducible refine LeO.bind ?_ (fun _ => ?_))
   | exact ih0 _ _ _ _ _ _ _
   | exact ih1 _ _ _ _ _ _ _
   | exact ih2 _ _ _
   | exact ih3 _ _ _ _ _
   | exact ih4 _ _
   | exact ih5 _ _ _ _ _ _ _ _ _
   | exact impl_BasketsOk.mono _ _
   | exact impl_CommonPairs.mono _ _ _
   | exact impl_CountWith.mono _ _ _
   | exact impl_FollowsFrom.mono _ _ _ _ _
   | exact impl_LargestCommon.mono _ _ _
   | exact impl_NextThing.mono _ _ _
   | exact laws_sameInts.mono _ _ _
   | exact spec_DrawBaskets.mono _ _
   | exact LeO.none _
   | refine LeO.ite ?_ ?_
   | refine LeO.bind ?_ (fun _ => ?_)
  ·intro y0 y1 y2
   unfold laws_FnBaskets.j3
   repeat' first
   | (with_reducible exact ih0 _ _ _ _ _ _ _)
   | (with_reducible exact ih1 _ _ _ _ _ _ _)
   | (with_reducible exact ih2 _ _ _)
   | (with_reducible exact ih3 _ _ _ _ _)
   | (with_reducible exact ih4 _ _)
   | (with_reducible exact ih5 _ _ _ _ _ _ _ _ _)
   | (with_reducible exact impl_BasketsOk.mono _ _)
   | (with_reducible exact impl_CommonPairs.mono _ _ _)
   | (with_reducible exact impl_CountWith.mono _ _ _)
   | (with_reducible exact impl_FollowsFrom.mono _ _ _ _ _)
   | (with_reducible exact impl_LargestCommon.mono _ _ _)
   | (with_reducible exact impl_NextThing.mono _ _ _)
   | (with_reducible exact laws_sameInts.mono _ _ _)
   | (with_reducible exact spec_DrawBaskets.mono _ _)
   | (with_reducible exact LeO.refl _)
   | (with_reducible exact LeO.none _)
   | (with_reducible refine LeO.ite ?_ ?_)
   | (with_reducible refine LeO.bind ?_ (fun _ => ?_))
   | exact ih0 _ _ _ _ _ _ _
   | exact ih1 _ _ _ _ _ _ _
   | exact ih2 _ _ _
   | exact ih3 _ _ _ _ _
   | exact ih4 _ _
   | exact ih5 _ _ _ _ _ _ _ _ _
   | exact impl_BasketsOk.mono _ _
   | exact impl_CommonPairs.mono _ _ _
   | exact impl_CountWith.mono _ _ _
   | exact impl_FollowsFrom.mono _ _ _ _ _
   | exact impl_LargestCommon.mono _ _ _
   | exact impl_NextThing.mono _ _ _
   | exact laws_sameInts.mono _ _ _
   | exact spec_DrawBaskets.mono _ _
   | exact LeO.none _
   | refine LeO.ite ?_ ?_
   | refine LeO.bind ?_ (fun _ => ?_)
  ·intro y0 y1 y2 y3 y4
   unfold laws_FnBaskets.j4
   repeat' first
   | (with_reducible exact ih0 _ _ _ _ _ _ _)
   | (with_reducible exact ih1 _ _ _ _ _ _ _)
   | (with_reducible exact ih2 _ _ _)
   | (with_reducible exact ih3 _ _ _ _ _)
   | (with_reducible exact ih4 _ _)
   | (with_reducible exact ih5 _ _ _ _ _ _ _ _ _)
   | (with_reducible exact impl_BasketsOk.mono _ _)
   | (with_reducible exact impl_CommonPairs.mono _ _ _)
   | (with_reducible exact impl_CountWith.mono _ _ _)
   | (with_reducible exact impl_FollowsFrom.mono _ _ _ _ _)
   | (with_reducible exact impl_LargestCommon.mono _ _ _)
   | (with_reducible exact impl_NextThing.mono _ _ _)
   | (with_reducible exact laws_sameInts.mono _ _ _)
   | (with_reducible exact spec_DrawBaskets.mono _ _)
   | (with_reducible exact LeO.refl _)
   | (with_reducible exact LeO.none _)
   | (with_reducible refine LeO.ite ?_ ?_)
   | (with_reducible refine LeO.bind ?_ (fun _ => ?_))
   | exact ih0 _ _ _ _ _ _ _
   | exact ih1 _ _ _ _ _ _ _
   | exact ih2 _ _ _
   | exact ih3 _ _ _ _ _
   | exact ih4 _ _
   | exact ih5 _ _ _ _ _ _ _ _ _
   | exact impl_BasketsOk.mono _ _
   | exact impl_CommonPairs.mono _ _ _
   | exact impl_CountWith.mono _ _ _
   | exact impl_FollowsFrom.mono _ _ _ _ _
   | exact impl_LargestCommon.mono _ _ _
   | exact impl_NextThing.mono _ _ _
   | exact laws_sameInts.mono _ _ _
   | exact spec_DrawBaskets.mono _ _
   | exact LeO.none _
   | refine LeO.ite ?_ ?_
   | refine LeO.bind ?_ (fun _ => ?_)
  ·intro y0 y1
   unfold laws_FnBaskets.j5
   repeat' first
   | (with_reducible exact ih0 _ _ _ _ _ _ _)
   | (with_reducible exact ih1 _ _ _ _ _ _ _)
   | (with_reducible exact ih2 _ _ _)
   | (with_reducible exact ih3 _ _ _ _ _)
   | (with_reducible exact ih4 _ _)
   | (with_reducible exact ih5 _ _ _ _ _ _ _ _ _)
   | (with_reducible exact impl_BasketsOk.mono _ _)
   | (with_reducible exact impl_CommonPairs.mono _ _ _)
   | (with_reducible exact impl_CountWith.mono _ _ _)
   | (with_reducible exact impl_FollowsFrom.mono _ _ _ _ _)
   | (with_reducible exact impl_LargestCommon.mono _ _ _)
   | (with_reducible exact impl_NextThing.mono _ _ _)
   | (with_reducible exact laws_sameInts.mono _ _ _)
   | (with_reducible exact spec_DrawBaskets.mono _ _)
   | (with_reducible exact LeO.refl _)
   | (with_reducible exact LeO.none _)
   | (with_reducible refine LeO.ite ?_ ?_)
   | (with_reducible refine LeO.bind ?_ (fun _ => ?_))
   | exact ih0 _ _ _ _ _ _ _
   | exact ih1 _ _ _ _ _ _ _
   | exact ih2 _ _ _
   | exact ih3 _ _ _ _ _
   | exact ih4 _ _
   | exact ih5 _ _ _ _ _ _ _ _ _
   | exact impl_BasketsOk.mono _ _
   | exact impl_CommonPairs.mono _ _ _
   | exact impl_CountWith.mono _ _ _
   | exact impl_FollowsFrom.mono _ _ _ _ _
   | exact impl_LargestCommon.mono _ _ _
   | exact impl_NextThing.mono _ _ _
   | exact laws_sameInts.mono _ _ _
   | exact spec_DrawBaskets.mono _ _
   | exact LeO.none _
   | refine LeO.ite ?_ ?_
   | refine LeO.bind ?_ (fun _ => ?_)
  ·intro y0 y1 y2 y3 y4 y5 y6 y7 y8
   unfold laws_FnBaskets.l1
   repeat' first
   | (with_reducible exact ih0 _ _ _ _ _ _ _)
   | (with_reducible exact ih1 _ _ _ _ _ _ _)
   | (with_reducible exact ih2 _ _ _)
   | (with_reducible exact ih3 _ _ _ _ _)
   | (with_reducible exact ih4 _ _)
   | (with_reducible exact ih5 _ _ _ _ _ _ _ _ _)
   | (with_reducible exact impl_BasketsOk.mono _ _)
   | (with_reducible exact impl_CommonPairs.mono _ _ _)
   | (with_reducible exact impl_CountWith.mono _ _ _)
   | (with_reducible exact impl_FollowsFrom.mono _ _ _ _ _)
   | (with_reducible exact impl_LargestCommon.mono _ _ _)
   | (with_reducible exact impl_NextThing.mono _ _ _)
   | (with_reducible exact laws_sameInts.mono _ _ _)
   | (with_reducible exact spec_DrawBaskets.mono _ _)
   | (with_reducible exact LeO.refl _)
   | (with_reducible exact LeO.none _)
   | (with_reducible refine LeO.ite ?_ ?_)
   | (with_reducible refine LeO.bind ?_ (fun _ => ?_))
   | exact ih0 _ _ _ _ _ _ _
   | exact ih1 _ _ _ _ _ _ _
   | exact ih2 _ _ _
   | exact ih3 _ _ _ _ _
   | exact ih4 _ _
   | exact ih5 _ _ _ _ _ _ _ _ _
   | exact impl_BasketsOk.mono _ _
   | exact impl_CommonPairs.mono _ _ _
   | exact impl_CountWith.mono _ _ _
   | exact impl_FollowsFrom.mono _ _ _ _ _
   | exact impl_LargestCommon.mono _ _ _
   | exact impl_NextThing.mono _ _ _
   | exact laws_sameInts.mono _ _ _
   | exact spec_DrawBaskets.mono _ _
   | exact LeO.none _
   | refine LeO.ite ?_ ?_
   | refine LeO.bind ?_ (fun _ => ?_)
theorem laws_FnBaskets.mono : ∀ a0 k, LeO (laws_FnBaskets.f k a0) (laws_FnBaskets.f (k + 1) a0) := by
 intro a0 k
 obtain ⟨ih0, ih1, ih2, ih3, ih4, ih5⟩ := laws_FnBaskets.mono_l k
 unfold laws_FnBaskets.f
 repeat' first
   | (with_reducible exact ih0 _ _ _ _ _ _ _)
   | (with_reducible exact ih1 _ _ _ _ _ _ _)
   | (with_reducible exact ih2 _ _ _)
   | (with_reducible exact ih3 _ _ _ _ _)
   | (with_reducible exact ih4 _ _)
   | (with_reducible exact ih5 _ _ _ _ _ _ _ _ _)
   | (with_reducible exact impl_BasketsOk.mono _ _)
   | (with_reducible exact impl_CommonPairs.mono _ _ _)
   | (with_reducible exact impl_CountWith.mono _ _ _)
   | (with_reducible exact impl_FollowsFrom.mono _ _ _ _ _)
   | (with_reducible exact impl_LargestCommon.mono _ _ _)
   | (with_reducible exact impl_NextThing.mono _ _ _)
   | (with_reducible exact laws_sameInts.mono _ _ _)
   | (with_reducible exact spec_DrawBaskets.mono _ _)
   | (with_reducible exact LeO.refl _)
   | (with_reducible exact LeO.none _)
   | (with_reducible refine LeO.ite ?_ ?_)
   | (with_reducible refine LeO.bind ?_ (fun _ => ?_))
   | exact ih0 _ _ _ _ _ _ _
   | exact ih1 _ _ _ _ _ _ _
   | exact ih2 _ _ _
   | exact ih3 _ _ _ _ _
   | exact ih4 _ _
   | exact ih5 _ _ _ _ _ _ _ _ _
   | exact impl_BasketsOk.mono _ _
   | exact impl_CommonPairs.mono _ _ _
   | exact impl_CountWith.mono _ _ _
   | exact impl_FollowsFrom.mono _ _ _ _ _
   | exact impl_LargestCommon.mono _ _ _
   | exact impl_NextThing.mono _ _ _
   | exact laws_sameInts.mono _ _ _
   | exact spec_DrawBaskets.mono _ _
   | exact LeO.none _
   | refine LeO.ite ?_ ?_
   | refine LeO.bind ?_ (fun _ => ?_)
theorem laws_FnBaskets.j0_no {k : Nat} {x3 : List (S49)} {x4 : Int} {x5 : Int} {x6 : Int} {x7 : Int} {x8 : List (List Int)} {r : Bool} (hr : r = true) (h : laws_FnBaskets.j0 k x3 x4 x5 x6 x7 x8 true = some r) : False := by
 subst hr
 cases k <;> simp [laws_FnBaskets.j0] at h
theorem laws_FnBaskets.j4_no {k : Nat} {x3 : List (S49)} {x4 : Int} {x5 : Int} {x15 : List Int} {r : Bool} (hr : r = true) (h : laws_FnBaskets.j4 k x3 x4 x5 x15 true = some r) : False := by
 subst hr
 cases k <;> simp [laws_FnBaskets.j4] at h
theorem laws_FnBaskets.j5_no {k : Nat} {x3 : List (S49)} {r : Bool} (hr : r = true) (h : laws_FnBaskets.j5 k x3 true = some r) : False := by
 subst hr
 cases k <;> simp [laws_FnBaskets.j5] at h
def laws_FnBaskets.T15 : Bool × List (List Nat × List Nat) := (true, [([], []), ([], []), ([0, 1], [0, 1]), ([2], [2]), ([3], [3]), ([4], [4]), ([5], [5]), ([6], [6]), ([6], [6]), ([6], [6]), ([8, 9, 6], [6, 8, 9]), ([10, 6], [6, 10]), ([7, 11, 6, 6], [6, 7, 11]), ([6], [6]), ([12, 13, 6], [6, 12, 13]), ([6, 14], [6, 14]), ([15, 12], [15]), ([16], [16]), ([16], [16]), ([17, 18, 16], [16, 17, 18]), ([19, 16], [16, 19]), ([20, 16], [16, 20]), ([21, 16], [16, 21]), ([16], [16]), ([16], [16]), ([23, 24, 16], [16, 23, 24]), ([25, 16], [16, 25]), ([26, 16], [16, 26]), ([27, 16], [16, 27]), ([22, 28, 16], [16, 22, 28]), ([16, 29], [16, 29])])
def laws_FnBaskets.B15 : List Nat := [0, 0, 3, 7, 15, 31, 63, 127, 127, 127, 895, 1919, 4095, 127, 16383, 32767, 65535, 131071, 131071, 524287, 1048575, 2097151, 4194303, 131071, 131071, 25296895, 58851327, 125960191, 260177919, 536870911, 1073741823]
theorem laws_FnBaskets.tab15 : rtab .any (opsOf Try.f9 15) = laws_FnBaskets.T15 := by kernel_rfl
theorem laws_FnBaskets.bits15 : waitsOk laws_FnBaskets.T15.2 laws_FnBaskets.B15 = true := by kernel_rfl
set_option maxHeartbeats 8000000 in
set_option maxRecDepth 100000 in
theorem laws_FnBaskets.calls (k : Nat) (A0 : Option Addr) (c0 : Nat) (l0 : List Int) (r : Bool) (w : World) (hr0 : Kd.C (Kd.int .u8) w A0 l0.length l0) (hc0 : l0.length ≤ c0) (hrt_ : r = true) (h : laws_FnBaskets.f k l0 = some r) :
  Calls Try.prog 9 #[.slice A0 l0.length c0] w fun e w' => e = .returned (.bool r) ∧ Below w.heap.size w w' := by
 have hu49 := Try.underlying49
 have HRT := Aside0.mk hrt_
 clear hrt_
 have HR0 := Aside0.mk hr0
 have HC0 := Aside0.mk hc0
 clear hr0 hc0
 have HB := Aside0.mk (Below.refl w.heap.size w)
 have H : ((laws_big.f l0).bind fun t351 => (if t351 = true then (some true) else ((spec_DrawBaskets.f k l0).bind fun t352 => ((laws_at.f l0 0).bind fun t355 => ((laws_at.f l0 1).bind fun t356 => ((impl_CountWith.f k t352 (([wrap64 (1 + (Int.tmod t355 6))] : List Int))).bind fun t360 => ((laws_at.f l0 2).bind fun t361 => ((impl_CommonPairs.f k t352 (wrap64 (1 + (Int.tmod t361 4)))).bind fun t362 => ((impl_LargestCommon.f k t352 (wrap64 (1 + (Int.tmod t361 4)))).bind fun t365 => (if t360 < 0 then (laws_FnBaskets.j0 k t352 (wrap64 (1 + (Int.tmod t355 6))) (wrap64 (1 + (Int.tmod t356 6))) t360 (wrap64 (1 + (Int.tmod t361 4))) t362 true) else (if t360 > (t352.length : Int) then (laws_FnBaskets.j0 k t352 (wrap64 (1 + (Int.tmod t355 6))) (wrap64 (1 + (Int.tmod t356 6))) t360 (wrap64 (1 + (Int.tmod t361 4))) t362 true) else ((impl_CountWith.f k t352 ([] : List Int)).bind fun t368 => (if t368 = (t352.length : Int) then (if (t365.length : Int) > 0 then ((impl_CountWith.f k t352 t365).bind fun t369 => (if t369 < (wrap64 (1 + (Int.tmod t361 4))) then (laws_FnBaskets.j0 k t352 (wrap64 (1 + (Int.tmod t355 6))) (wrap64 (1 + (Int.tmod t356 6))) t360 (wrap64 (1 + (Int.tmod t361 4))) t362 true) else (if (t362.length : Int) > 0 then (laws_FnBaskets.j0 k t352 (wrap64 (1 + (Int.tmod t355 6))) (wrap64 (1 + (Int.tmod t356 6))) t360 (wrap64 (1 + (Int.tmod t361 4))) t362 (decide ((t365.length : Int) < 2))) else (laws_FnBaskets.j0 k t352 (wrap64 (1 + (Int.tmod t355 6))) (wrap64 (1 + (Int.tmod t356 6))) t360 (wrap64 (1 + (Int.tmod t361 4))) t362 false)))) else (if (t362.length : Int) > 0 then (laws_FnBaskets.j0 k t352 (wrap64 (1 + (Int.tmod t355 6))) (wrap64 (1 + (Int.tmod t356 6))) t360 (wrap64 (1 + (Int.tmod t361 4))) t362 (decide ((t365.length : Int) < 2))) else (laws_FnBaskets.j0 k t352 (wrap64 (1 + (Int.tmod t355 6))) (wrap64 (1 + (Int.tmod t356 6))) t360 (wrap64 (1 + (Int.tmod t361 4))) t362 false))) else (laws_FnBaskets.j0 k t352 (wrap64 (1 + (Int.tmod t355 6))) (wrap64 (1 + (Int.tmod t356 6))) t360 (wrap64 (1 + (Int.tmod t361 4))) t362 true)))))))))))))) = some r := h
 clear h
 replace H := Option.bind_eq_some_iff.mp H
 obtain ⟨t351, A20, H⟩ := H
 replace H : (if t351 = true then (some true) else ((spec_DrawBaskets.f k l0).bind fun t352 => ((laws_at.f l0 0).bind fun t355 => ((laws_at.f l0 1).bind fun t356 => ((impl_CountWith.f k t352 (([wrap64 (1 + (Int.tmod t355 6))] : List Int))).bind fun t360 => ((laws_at.f l0 2).bind fun t361 => ((impl_CommonPairs.f k t352 (wrap64 (1 + (Int.tmod t361 4)))).bind fun t362 => ((impl_LargestCommon.f k t352 (wrap64 (1 + (Int.tmod t361 4)))).bind fun t365 => (if t360 < 0 then (laws_FnBaskets.j0 k t352 (wrap64 (1 + (Int.tmod t355 6))) (wrap64 (1 + (Int.tmod t356 6))) t360 (wrap64 (1 + (Int.tmod t361 4))) t362 true) else (if t360 > (t352.length : Int) then (laws_FnBaskets.j0 k t352 (wrap64 (1 + (Int.tmod t355 6))) (wrap64 (1 + (Int.tmod t356 6))) t360 (wrap64 (1 + (Int.tmod t361 4))) t362 true) else ((impl_CountWith.f k t352 ([] : List Int)).bind fun t368 => (if t368 = (t352.length : Int) then (if (t365.length : Int) > 0 then ((impl_CountWith.f k t352 t365).bind fun t369 => (if t369 < (wrap64 (1 + (Int.tmod t361 4))) then (laws_FnBaskets.j0 k t352 (wrap64 (1 + (Int.tmod t355 6))) (wrap64 (1 + (Int.tmod t356 6))) t360 (wrap64 (1 + (Int.tmod t361 4))) t362 true) else (if (t362.length : Int) > 0 then (laws_FnBaskets.j0 k t352 (wrap64 (1 + (Int.tmod t355 6))) (wrap64 (1 + (Int.tmod t356 6))) t360 (wrap64 (1 + (Int.tmod t361 4))) t362 (decide ((t365.length : Int) < 2))) else (laws_FnBaskets.j0 k t352 (wrap64 (1 + (Int.tmod t355 6))) (wrap64 (1 + (Int.tmod t356 6))) t360 (wrap64 (1 + (Int.tmod t361 4))) t362 false)))) else (if (t362.length : Int) > 0 then (laws_FnBaskets.j0 k t352 (wrap64 (1 + (Int.tmod t355 6))) (wrap64 (1 + (Int.tmod t356 6))) t360 (wrap64 (1 + (Int.tmod t361 4))) t362 (decide ((t365.length : Int) < 2))) else (laws_FnBaskets.j0 k t352 (wrap64 (1 + (Int.tmod t355 6))) (wrap64 (1 + (Int.tmod t356 6))) t360 (wrap64 (1 + (Int.tmod t361 4))) t362 false))) else (laws_FnBaskets.j0 k t352 (wrap64 (1 + (Int.tmod t355 6))) (wrap64 (1 + (Int.tmod t356 6))) t360 (wrap64 (1 + (Int.tmod t361 4))) t362 true))))))))))))) = some r := H
 have A2 := Aside0.mk A20
 clear A20
 by_cases c3 : t351 = true
 ·subst c3
  have H1 : (some true) = some r := by rw [if_pos rfl] at H; exact H
  clear H
  have H := H1
  clear H1
  obtain rfl := Option.some.inj H
  go_enter Try.func9, Try.ntmps9
  go_wp2_with (first | ((with_reducible refine gate_callee (f := 33) rfl ?_); refine goesL_ (some 17) rfl rfl Try.func33 (by kernel_rfl) rfl #[.slice A0 l0.length c0] rfl (by (try simp only [List.map_toArray, List.map_cons, List.map_nil]); first | done | rfl | (simp only [List.length_drop, List.length_take]; rfl)) ?_; (with_reducible refine (laws_big.calls _ _ l0 true _ ?side1 ?side2 A2.out).mono ?_); (case side1 => repeat (first | exact HR0.out | (with_reducible refine Kd.C_alloc ?_ _) | (with_reducible refine Kd.C_drewN ?_ _) | (with_reducible refine Kd.C_drew ?_))); (case side2 => exact HC0.out); rintro e w' ⟨rfl, ⟨nd, rfl⟩⟩; refine ⟨_, rfl, ?_⟩))
  go_ret
  exact ⟨by first | rfl | (simp [errW_none, errW_some] <;> rfl) | (simp [*, errW_none, errW_some] <;> rfl), by repeat (first | (with_reducible first | exact HB.out | apply below_alloc | apply pw_below_drewN | apply below_drew1) | exact HB.out)⟩
 ·replace c3 := Bool.eq_false_iff.mpr c3
  subst c3
  have H1 : ((spec_DrawBaskets.f k l0).bind fun t352 => ((laws_at.f l0 0).bind fun t355 => ((laws_at.f l0 1).bind fun t356 => ((impl_CountWith.f k t352 (([wrap64 (1 + (Int.tmod t355 6))] : List Int))).bind fun t360 => ((laws_at.f l0 2).bind fun t361 => ((impl_CommonPairs.f k t352 (wrap64 (1 + (Int.tmod t361 4)))).bind fun t362 => ((impl_LargestCommon.f k t352 (wrap64 (1 + (Int.tmod t361 4)))).bind fun t365 => (if t360 < 0 then (laws_FnBaskets.j0 k t352 (wrap64 (1 + (Int.tmod t355 6))) (wrap64 (1 + (Int.tmod t356 6))) t360 (wrap64 (1 + (Int.tmod t361 4))) t362 true) else (if t360 > (t352.length : Int) then (laws_FnBaskets.j0 k t352 (wrap64 (1 + (Int.tmod t355 6))) (wrap64 (1 + (Int.tmod t356 6))) t360 (wrap64 (1 + (Int.tmod t361 4))) t362 true) else ((impl_CountWith.f k t352 ([] : List Int)).bind fun t368 => (if t368 = (t352.length : Int) then (if (t365.length : Int) > 0 then ((impl_CountWith.f k t352 t365).bind fun t369 => (if t369 < (wrap64 (1 + (Int.tmod t361 4))) then (laws_FnBaskets.j0 k t352 (wrap64 (1 + (Int.tmod t355 6))) (wrap64 (1 + (Int.tmod t356 6))) t360 (wrap64 (1 + (Int.tmod t361 4))) t362 true) else (if (t362.length : Int) > 0 then (laws_FnBaskets.j0 k t352 (wrap64 (1 + (Int.tmod t355 6))) (wrap64 (1 + (Int.tmod t356 6))) t360 (wrap64 (1 + (Int.tmod t361 4))) t362 (decide ((t365.length : Int) < 2))) else (laws_FnBaskets.j0 k t352 (wrap64 (1 + (Int.tmod t355 6))) (wrap64 (1 + (Int.tmod t356 6))) t360 (wrap64 (1 + (Int.tmod t361 4))) t362 false)))) else (if (t362.length : Int) > 0 then (laws_FnBaskets.j0 k t352 (wrap64 (1 + (Int.tmod t355 6))) (wrap64 (1 + (Int.tmod t356 6))) t360 (wrap64 (1 + (Int.tmod t361 4))) t362 (decide ((t365.length : Int) < 2))) else (laws_FnBaskets.j0 k t352 (wrap64 (1 + (Int.tmod t355 6))) (wrap64 (1 + (Int.tmod t356 6))) t360 (wrap64 (1 + (Int.tmod t361 4))) t362 false))) else (laws_FnBaskets.j0 k t352 (wrap64 (1 + (Int.tmod t355 6))) (wrap64 (1 + (Int.tmod t356 6))) t360 (wrap64 (1 + (Int.tmod t361 4))) t362 true)))))))))))) = some r := by rw [if_neg (show ¬ (false = true) by decide)] at H; exact H
  clear H
  have H := H1
  clear H1
  replace H := Option.bind_eq_some_iff.mp H
  obtain ⟨t352, A40, H⟩ := H
  replace H : ((laws_at.f l0 0).bind fun t355 => ((laws_at.f l0 1).bind fun t356 => ((impl_CountWith.f k t352 (([wrap64 (1 + (Int.tmod t355 6))] : List Int))).bind fun t360 => ((laws_at.f l0 2).bind fun t361 => ((impl_CommonPairs.f k t352 (wrap64 (1 + (Int.tmod t361 4)))).bind fun t362 => ((impl_LargestCommon.f k t352 (wrap64 (1 + (Int.tmod t361 4)))).bind fun t365 => (if t360 < 0 then (laws_FnBaskets.j0 k t352 (wrap64 (1 + (Int.tmod t355 6))) (wrap64 (1 + (Int.tmod t356 6))) t360 (wrap64 (1 + (Int.tmod t361 4))) t362 true) else (if t360 > (t352.length : Int) then (laws_FnBaskets.j0 k t352 (wrap64 (1 + (Int.tmod t355 6))) (wrap64 (1 + (Int.tmod t356 6))) t360 (wrap64 (1 + (Int.tmod t361 4))) t362 true) else ((impl_CountWith.f k t352 ([] : List Int)).bind fun t368 => (if t368 = (t352.length : Int) then (if (t365.length : Int) > 0 then ((impl_CountWith.f k t352 t365).bind fun t369 => (if t369 < (wrap64 (1 + (Int.tmod t361 4))) then (laws_FnBaskets.j0 k t352 (wrap64 (1 + (Int.tmod t355 6))) (wrap64 (1 + (Int.tmod t356 6))) t360 (wrap64 (1 + (Int.tmod t361 4))) t362 true) else (if (t362.length : Int) > 0 then (laws_FnBaskets.j0 k t352 (wrap64 (1 + (Int.tmod t355 6))) (wrap64 (1 + (Int.tmod t356 6))) t360 (wrap64 (1 + (Int.tmod t361 4))) t362 (decide ((t365.length : Int) < 2))) else (laws_FnBaskets.j0 k t352 (wrap64 (1 + (Int.tmod t355 6))) (wrap64 (1 + (Int.tmod t356 6))) t360 (wrap64 (1 + (Int.tmod t361 4))) t362 false)))) else (if (t362.length : Int) > 0 then (laws_FnBaskets.j0 k t352 (wrap64 (1 + (Int.tmod t355 6))) (wrap64 (1 + (Int.tmod t356 6))) t360 (wrap64 (1 + (Int.tmod t361 4))) t362 (decide ((t365.length : Int) < 2))) else (laws_FnBaskets.j0 k t352 (wrap64 (1 + (Int.tmod t355 6))) (wrap64 (1 + (Int.tmod t356 6))) t360 (wrap64 (1 + (Int.tmod t361 4))) t362 false))) else (laws_FnBaskets.j0 k t352 (wrap64 (1 + (Int.tmod t355 6))) (wrap64 (1 + (Int.tmod t356 6))) t360 (wrap64 (1 + (Int.tmod t361 4))) t362 true))))))))))) = some r := H
  have A4 := Aside0.mk A40
  clear A40
  replace H := Option.bind_eq_some_iff.mp H
  obtain ⟨t355, A50, H⟩ := H
  replace H : ((laws_at.f l0 1).bind fun t356 => ((impl_CountWith.f k t352 (([wrap64 (1 + (Int.tmod t355 6))] : List Int))).bind fun t360 => ((laws_at.f l0 2).bind fun t361 => ((impl_CommonPairs.f k t352 (wrap64 (1 + (Int.tmod t361 4)))).bind fun t362 => ((impl_LargestCommon.f k t352 (wrap64 (1 + (Int.tmod t361 4)))).bind fun t365 => (if t360 < 0 then (laws_FnBaskets.j0 k t352 (wrap64 (1 + (Int.tmod t355 6))) (wrap64 (1 + (Int.tmod t356 6))) t360 (wrap64 (1 + (Int.tmod t361 4))) t362 true) else (if t360 > (t352.length : Int) then (laws_FnBaskets.j0 k t352 (wrap64 (1 + (Int.tmod t355 6))) (wrap64 (1 + (Int.tmod t356 6))) t360 (wrap64 (1 + (Int.tmod t361 4))) t362 true) else ((impl_CountWith.f k t352 ([] : List Int)).bind fun t368 => (if t368 = (t352.length : Int) then (if (t365.length : Int) > 0 then ((impl_CountWith.f k t352 t365).bind fun t369 => (if t369 < (wrap64 (1 + (Int.tmod t361 4))) then (laws_FnBaskets.j0 k t352 (wrap64 (1 + (Int.tmod t355 6))) (wrap64 (1 + (Int.tmod t356 6))) t360 (wrap64 (1 + (Int.tmod t361 4))) t362 true) else (if (t362.length : Int) > 0 then (laws_FnBaskets.j0 k t352 (wrap64 (1 + (Int.tmod t355 6))) (wrap64 (1 + (Int.tmod t356 6))) t360 (wrap64 (1 + (Int.tmod t361 4))) t362 (decide ((t365.length : Int) < 2))) else (laws_FnBaskets.j0 k t352 (wrap64 (1 + (Int.tmod t355 6))) (wrap64 (1 + (Int.tmod t356 6))) t360 (wrap64 (1 + (Int.tmod t361 4))) t362 false)))) else (if (t362.length : Int) > 0 then (laws_FnBaskets.j0 k t352 (wrap64 (1 + (Int.tmod t355 6))) (wrap64 (1 + (Int.tmod t356 6))) t360 (wrap64 (1 + (Int.tmod t361 4))) t362 (decide ((t365.length : Int) < 2))) else (laws_FnBaskets.j0 k t352 (wrap64 (1 + (Int.tmod t355 6))) (wrap64 (1 + (Int.tmod t356 6))) t360 (wrap64 (1 + (Int.tmod t361 4))) t362 false))) else (laws_FnBaskets.j0 k t352 (wrap64 (1 + (Int.tmod t355 6))) (wrap64 (1 + (Int.tmod t356 6))) t360 (wrap64 (1 + (Int.tmod t361 4))) t362 true)))))))))) = some r := H
  have A5 := Aside0.mk A50
  clear A50
  replace H := Option.bind_eq_some_iff.mp H
  obtain ⟨t356, A60, H⟩ := H
  replace H : ((impl_CountWith.f k t352 (([wrap64 (1 + (Int.tmod t355 6))] : List Int))).bind fun t360 => ((laws_at.f l0 2).bind fun t361 => ((impl_CommonPairs.f k t352 (wrap64 (1 + (Int.tmod t361 4)))).bind fun t362 => ((impl_LargestCommon.f k t352 (wrap64 (1 + (Int.tmod t361 4)))).bind fun t365 => (if t360 < 0 then (laws_FnBaskets.j0 k t352 (wrap64 (1 + (Int.tmod t355 6))) (wrap64 (1 + (Int.tmod t356 6))) t360 (wrap64 (1 + (Int.tmod t361 4))) t362 true) else (if t360 > (t352.length : Int) then (laws_FnBaskets.j0 k t352 (wrap64 (1 + (Int.tmod t355 6))) (wrap64 (1 + (Int.tmod t356 6))) t360 (wrap64 (1 + (Int.tmod t361 4))) t362 true) else ((impl_CountWith.f k t352 ([] : List Int)).bind fun t368 => (if t368 = (t352.length : Int) then (if (t365.length : Int) > 0 then ((impl_CountWith.f k t352 t365).bind fun t369 => (if t369 < (wrap64 (1 + (Int.tmod t361 4))) then (laws_FnBaskets.j0 k t352 (wrap64 (1 + (Int.tmod t355 6))) (wrap64 (1 + (Int.tmod t356 6))) t360 (wrap64 (1 + (Int.tmod t361 4))) t362 true) else (if (t362.length : Int) > 0 then (laws_FnBaskets.j0 k t352 (wrap64 (1 + (Int.tmod t355 6))) (wrap64 (1 + (Int.tmod t356 6))) t360 (wrap64 (1 + (Int.tmod t361 4))) t362 (decide ((t365.length : Int) < 2))) else (laws_FnBaskets.j0 k t352 (wrap64 (1 + (Int.tmod t355 6))) (wrap64 (1 + (Int.tmod t356 6))) t360 (wrap64 (1 + (Int.tmod t361 4))) t362 false)))) else (if (t362.length : Int) > 0 then (laws_FnBaskets.j0 k t352 (wrap64 (1 + (Int.tmod t355 6))) (wrap64 (1 + (Int.tmod t356 6))) t360 (wrap64 (1 + (Int.tmod t361 4))) t362 (decide ((t365.length : Int) < 2))) else (laws_FnBaskets.j0 k t352 (wrap64 (1 + (Int.tmod t355 6))) (wrap64 (1 + (Int.tmod t356 6))) t360 (wrap64 (1 + (Int.tmod t361 4))) t362 false))) else (laws_FnBaskets.j0 k t352 (wrap64 (1 + (Int.tmod t355 6))) (wrap64 (1 + (Int.tmod t356 6))) t360 (wrap64 (1 + (Int.tmod t361 4))) t362 true))))))))) = some r := H
  have A6 := Aside0.mk A60
  clear A60
  obtain ⟨y357, hy357⟩ : ∃ y_ : List Int, y_ = (([wrap64 (1 + (Int.tmod t355 6))] : List Int)) := ⟨_, rfl⟩
  replace H : ((impl_CountWith.f k t352 y357).bind fun t360 => ((laws_at.f l0 2).bind fun t361 => ((impl_CommonPairs.f k t352 (wrap64 (1 + (Int.tmod t361 4)))).bind fun t362 => ((impl_LargestCommon.f k t352 (wrap64 (1 + (Int.tmod t361 4)))).bind fun t365 => (if t360 < 0 then (laws_FnBaskets.j0 k t352 (wrap64 (1 + (Int.tmod t355 6))) (wrap64 (1 + (Int.tmod t356 6))) t360 (wrap64 (1 + (Int.tmod t361 4))) t362 true) else (if t360 > (t352.length : Int) then (laws_FnBaskets.j0 k t352 (wrap64 (1 + (Int.tmod t355 6))) (wrap64 (1 + (Int.tmod t356 6))) t360 (wrap64 (1 + (Int.tmod t361 4))) t362 true) else ((impl_CountWith.f k t352 ([] : List Int)).bind fun t368 => (if t368 = (t352.length : Int) then (if (t365.length : Int) > 0 then ((impl_CountWith.f k t352 t365).bind fun t369 => (if t369 < (wrap64 (1 + (Int.tmod t361 4))) then (laws_FnBaskets.j0 k t352 (wrap64 (1 + (Int.tmod t355 6))) (wrap64 (1 + (Int.tmod t356 6))) t360 (wrap64 (1 + (Int.tmod t361 4))) t362 true) else (if (t362.length : Int) > 0 then (laws_FnBaskets.j0 k t352 (wrap64 (1 + (Int.tmod t355 6))) (wrap64 (1 + (Int.tmod t356 6))) t360 (wrap64 (1 + (Int.tmod t361 4))) t362 (decide ((t365.length : Int) < 2))) else (laws_FnBaskets.j0 k t352 (wrap64 (1 + (Int.tmod t355 6))) (wrap64 (1 + (Int.tmod t356 6))) t360 (wrap64 (1 + (Int.tmod t361 4))) t362 false)))) else (if (t362.length : Int) > 0 then (laws_FnBaskets.j0 k t352 (wrap64 (1 + (Int.tmod t355 6))) (wrap64 (1 + (Int.tmod t356 6))) t360 (wrap64 (1 + (Int.tmod t361 4))) t362 (decide ((t365.length : Int) < 2))) else (laws_FnBaskets.j0 k t352 (wrap64 (1 + (Int.tmod t355 6))) (wrap64 (1 + (Int.tmod t356 6))) t360 (wrap64 (1 + (Int.tmod t361 4))) t362 false))) else (laws_FnBaskets.j0 k t352 (wrap64 (1 + (Int.tmod t355 6))) (wrap64 (1 + (Int.tmod t356 6))) t360 (wrap64 (1 + (Int.tmod t361 4))) t362 true))))))))) = some r := by first | (rw [hy357]; with_reducible exact H) | (have H2_ := (Option.bind_some _ _).symm.trans H; rw [hy357]; with_reducible exact H2_) | (have H2_ := (Option.bind_some _ _).symm.trans H; with_reducible exact H2_) | with_reducible exact H | (rw [hy357]; exact H) | exact H
  have Ny357 := Aside0.mk hy357
  clear hy357
  replace H := Option.bind_eq_some_iff.mp H
  obtain ⟨t360, A70, H⟩ := H
  replace H : ((laws_at.f l0 2).bind fun t361 => ((impl_CommonPairs.f k t352 (wrap64 (1 + (Int.tmod t361 4)))).bind fun t362 => ((impl_LargestCommon.f k t352 (wrap64 (1 + (Int.tmod t361 4)))).bind fun t365 => (if t360 < 0 then (laws_FnBaskets.j0 k t352 (wrap64 (1 + (Int.tmod t355 6))) (wrap64 (1 + (Int.tmod t356 6))) t360 (wrap64 (1 + (Int.tmod t361 4))) t362 true) else (if t360 > (t352.length : Int) then (laws_FnBaskets.j0 k t352 (wrap64 (1 + (Int.tmod t355 6))) (wrap64 (1 + (Int.tmod t356 6))) t360 (wrap64 (1 + (Int.tmod t361 4))) t362 true) else ((impl_CountWith.f k t352 ([] : List Int)).bind fun t368 => (if t368 = (t352.length : Int) then (if (t365.length : Int) > 0 then ((impl_CountWith.f k t352 t365).bind fun t369 => (if t369 < (wrap64 (1 + (Int.tmod t361 4))) then (laws_FnBaskets.j0 k t352 (wrap64 (1 + (Int.tmod t355 6))) (wrap64 (1 + (Int.tmod t356 6))) t360 (wrap64 (1 + (Int.tmod t361 4))) t362 true) else (if (t362.length : Int) > 0 then (laws_FnBaskets.j0 k t352 (wrap64 (1 + (Int.tmod t355 6))) (wrap64 (1 + (Int.tmod t356 6))) t360 (wrap64 (1 + (Int.tmod t361 4))) t362 (decide ((t365.length : Int) < 2))) else (laws_FnBaskets.j0 k t352 (wrap64 (1 + (Int.tmod t355 6))) (wrap64 (1 + (Int.tmod t356 6))) t360 (wrap64 (1 + (Int.tmod t361 4))) t362 false)))) else (if (t362.length : Int) > 0 then (laws_FnBaskets.j0 k t352 (wrap64 (1 + (Int.tmod t355 6))) (wrap64 (1 + (Int.tmod t356 6))) t360 (wrap64 (1 + (Int.tmod t361 4))) t362 (decide ((t365.length : Int) < 2))) else (laws_FnBaskets.j0 k t352 (wrap64 (1 + (Int.tmod t355 6))) (wrap64 (1 + (Int.tmod t356 6))) t360 (wrap64 (1 + (Int.tmod t361 4))) t362 false))) else (laws_FnBaskets.j0 k t352 (wrap64 (1 + (Int.tmod t355 6))) (wrap64 (1 + (Int.tmod t356 6))) t360 (wrap64 (1 + (Int.tmod t361 4))) t362 true)))))))) = some r := H
  have A7 := Aside0.mk A70
  clear A70
  replace H := Option.bind_eq_some_iff.mp H
  obtain ⟨t361, A80, H⟩ := H
  replace H : ((impl_CommonPairs.f k t352 (wrap64 (1 + (Int.tmod t361 4)))).bind fun t362 => ((impl_LargestCommon.f k t352 (wrap64 (1 + (Int.tmod t361 4)))).bind fun t365 => (if t360 < 0 then (laws_FnBaskets.j0 k t352 (wrap64 (1 + (Int.tmod t355 6))) (wrap64 (1 + (Int.tmod t356 6))) t360 (wrap64 (1 + (Int.tmod t361 4))) t362 true) else (if t360 > (t352.length : Int) then (laws_FnBaskets.j0 k t352 (wrap64 (1 + (Int.tmod t355 6))) (wrap64 (1 + (Int.tmod t356 6))) t360 (wrap64 (1 + (Int.tmod t361 4))) t362 true) else ((impl_CountWith.f k t352 ([] : List Int)).bind fun t368 => (if t368 = (t352.length : Int) then (if (t365.length : Int) > 0 then ((impl_CountWith.f k t352 t365).bind fun t369 => (if t369 < (wrap64 (1 + (Int.tmod t361 4))) then (laws_FnBaskets.j0 k t352 (wrap64 (1 + (Int.tmod t355 6))) (wrap64 (1 + (Int.tmod t356 6))) t360 (wrap64 (1 + (Int.tmod t361 4))) t362 true) else (if (t362.length : Int) > 0 then (laws_FnBaskets.j0 k t352 (wrap64 (1 + (Int.tmod t355 6))) (wrap64 (1 + (Int.tmod t356 6))) t360 (wrap64 (1 + (Int.tmod t361 4))) t362 (decide ((t365.length : Int) < 2))) else (laws_FnBaskets.j0 k t352 (wrap64 (1 + (Int.tmod t355 6))) (wrap64 (1 + (Int.tmod t356 6))) t360 (wrap64 (1 + (Int.tmod t361 4))) t362 false)))) else (if (t362.length : Int) > 0 then (laws_FnBaskets.j0 k t352 (wrap64 (1 + (Int.tmod t355 6))) (wrap64 (1 + (Int.tmod t356 6))) t360 (wrap64 (1 + (Int.tmod t361 4))) t362 (decide ((t365.length : Int) < 2))) else (laws_FnBaskets.j0 k t352 (wrap64 (1 + (Int.tmod t355 6))) (wrap64 (1 + (Int.tmod t356 6))) t360 (wrap64 (1 + (Int.tmod t361 4))) t362 false))) else (laws_FnBaskets.j0 k t352 (wrap64 (1 + (Int.tmod t355 6))) (wrap64 (1 + (Int.tmod t356 6))) t360 (wrap64 (1 + (Int.tmod t361 4))) t362 true))))))) = some r := H
  have A8 := Aside0.mk A80
  clear A80
  replace H := Option.bind_eq_some_iff.mp H
  obtain ⟨t362, A90, H⟩ := H
  replace H : ((impl_LargestCommon.f k t352 (wrap64 (1 + (Int.tmod t361 4)))).bind fun t365 => (if t360 < 0 then (laws_FnBaskets.j0 k t352 (wrap64 (1 + (Int.tmod t355 6))) (wrap64 (1 + (Int.tmod t356 6))) t360 (wrap64 (1 + (Int.tmod t361 4))) t362 true) else (if t360 > (t352.length : Int) then (laws_FnBaskets.j0 k t352 (wrap64 (1 + (Int.tmod t355 6))) (wrap64 (1 + (Int.tmod t356 6))) t360 (wrap64 (1 + (Int.tmod t361 4))) t362 true) else ((impl_CountWith.f k t352 ([] : List Int)).bind fun t368 => (if t368 = (t352.length : Int) then (if (t365.length : Int) > 0 then ((impl_CountWith.f k t352 t365).bind fun t369 => (if t369 < (wrap64 (1 + (Int.tmod t361 4))) then (laws_FnBaskets.j0 k t352 (wrap64 (1 + (Int.tmod t355 6))) (wrap64 (1 + (Int.tmod t356 6))) t360 (wrap64 (1 + (Int.tmod t361 4))) t362 true) else (if (t362.length : Int) > 0 then (laws_FnBaskets.j0 k t352 (wrap64 (1 + (Int.tmod t355 6))) (wrap64 (1 + (Int.tmod t356 6))) t360 (wrap64 (1 + (Int.tmod t361 4))) t362 (decide ((t365.length : Int) < 2))) else (laws_FnBaskets.j0 k t352 (wrap64 (1 + (Int.tmod t355 6))) (wrap64 (1 + (Int.tmod t356 6))) t360 (wrap64 (1 + (Int.tmod t361 4))) t362 false)))) else (if (t362.length : Int) > 0 then (laws_FnBaskets.j0 k t352 (wrap64 (1 + (Int.tmod t355 6))) (wrap64 (1 + (Int.tmod t356 6))) t360 (wrap64 (1 + (Int.tmod t361 4))) t362 (decide ((t365.length : Int) < 2))) else (laws_FnBaskets.j0 k t352 (wrap64 (1 + (Int.tmod t355 6))) (wrap64 (1 + (Int.tmod t356 6))) t360 (wrap64 (1 + (Int.tmod t361 4))) t362 false))) else (laws_FnBaskets.j0 k t352 (wrap64 (1 + (Int.tmod t355 6))) (wrap64 (1 + (Int.tmod t356 6))) t360 (wrap64 (1 + (Int.tmod t361 4))) t362 true)))))) = some r := H
  have A9 := Aside0.mk A90
  clear A90
  replace H := Option.bind_eq_some_iff.mp H
  obtain ⟨t365, A100, H⟩ := H
  replace H : (if t360 < 0 then (laws_FnBaskets.j0 k t352 (wrap64 (1 + (Int.tmod t355 6))) (wrap64 (1 + (Int.tmod t356 6))) t360 (wrap64 (1 + (Int.tmod t361 4))) t362 true) else (if t360 > (t352.length : Int) then (laws_FnBaskets.j0 k t352 (wrap64 (1 + (Int.tmod t355 6))) (wrap64 (1 + (Int.tmod t356 6))) t360 (wrap64 (1 + (Int.tmod t361 4))) t362 true) else ((impl_CountWith.f k t352 ([] : List Int)).bind fun t368 => (if t368 = (t352.length : Int) then (if (t365.length : Int) > 0 then ((impl_CountWith.f k t352 t365).bind fun t369 => (if t369 < (wrap64 (1 + (Int.tmod t361 4))) then (laws_FnBaskets.j0 k t352 (wrap64 (1 + (Int.tmod t355 6))) (wrap64 (1 + (Int.tmod t356 6))) t360 (wrap64 (1 + (Int.tmod t361 4))) t362 true) else (if (t362.length : Int) > 0 then (laws_FnBaskets.j0 k t352 (wrap64 (1 + (Int.tmod t355 6))) (wrap64 (1 + (Int.tmod t356 6))) t360 (wrap64 (1 + (Int.tmod t361 4))) t362 (decide ((t365.length : Int) < 2))) else (laws_FnBaskets.j0 k t352 (wrap64 (1 + (Int.tmod t355 6))) (wrap64 (1 + (Int.tmod t356 6))) t360 (wrap64 (1 + (Int.tmod t361 4))) t362 false)))) else (if (t362.length : Int) > 0 then (laws_FnBaskets.j0 k t352 (wrap64 (1 + (Int.tmod t355 6))) (wrap64 (1 + (Int.tmod t356 6))) t360 (wrap64 (1 + (Int.tmod t361 4))) t362 (decide ((t365.length : Int) < 2))) else (laws_FnBaskets.j0 k t352 (wrap64 (1 + (Int.tmod t355 6))) (wrap64 (1 + (Int.tmod t356 6))) t360 (wrap64 (1 + (Int.tmod t361 4))) t362 false))) else (laws_FnBaskets.j0 k t352 (wrap64 (1 + (Int.tmod t355 6))) (wrap64 (1 + (Int.tmod t356 6))) t360 (wrap64 (1 + (Int.tmod t361 4))) t362 true))))) = some r := H
  have A10 := Aside0.mk A100
  clear A100
  have HC11 := Aside0.mk H
  clear H
  go_enter Try.func9, Try.ntmps9
  go_upto_region 10 with (first | ((with_reducible refine gate_callee (f := 33) rfl ?_); refine goesL_ (some 17) rfl rfl Try.func33 (by kernel_rfl) rfl #[.slice A0 l0.length c0] rfl (by (try simp only [List.map_toArray, List.map_cons, List.map_nil]); first | done | rfl | (simp only [List.length_drop, List.length_take]; rfl)) ?_; (with_reducible refine (laws_big.calls _ _ l0 false _ ?side1 ?side2 A2.out).mono ?_); (case side1 => repeat (first | exact HR0.out | (with_reducible refine Kd.C_alloc ?_ _) | (with_reducible refine Kd.C_drewN ?_ _) | (with_reducible refine Kd.C_drew ?_))); (case side2 => exact HC0.out); rintro e w' ⟨rfl, ⟨nd, rfl⟩⟩; refine ⟨_, rfl, ?_⟩) | ((with_reducible refine gate_callee (f := 34) rfl ?_); refine goesL_ (some 19) rfl rfl Try.func34 (by kernel_rfl) rfl #[.slice A0 l0.length c0] rfl (by (try simp only [List.map_toArray, List.map_cons, List.map_nil]); first | done | rfl | (simp only [List.length_drop, List.length_take]; rfl)) ?_; (with_reducible refine (spec_DrawBaskets.calls k _ _ l0 t352 _ ?side1 ?side2 A4.out).mono ?_); (case side1 => repeat (first | exact HR0.out | (with_reducible refine Kd.C_alloc ?_ _) | (with_reducible refine Kd.C_drewN ?_ _) | (with_reducible refine Kd.C_drew ?_))); (case side2 => exact HC0.out); rintro e w12 ⟨v353, rfl, ho0, hb⟩; refine ⟨_, rfl, ?_⟩; have n0_ := Aside0.mk (Kd.N_lower (Kd.N_mono (ok' := fun k_ => True) (Kd.S_N (Kd.S_bound ho0)) (fun k_ hk_ => trivial)) (below_size (by repeat (first | (with_reducible first | exact HB.out | apply below_alloc | apply pw_below_drewN | apply below_drew1) | exact HB.out)))); have n1_ := Aside0.mk (below_step (by repeat (first | (with_reducible first | exact HB.out | apply below_alloc | apply pw_below_drewN | apply below_drew1) | exact HB.out)) hb); clear HB; have HO354 := n0_; have HB := n1_; clear n0_ n1_; (try clear hb); (try clear hb2); (try clear hk); (try clear hi); (try clear ho0)) | ((with_reducible refine gate_callee (f := 35) rfl ?_); refine goesL_ (some 21) rfl rfl Try.func35 (by kernel_rfl) rfl #[.slice A0 l0.length c0, .int .i64 0] rfl (by (try simp only [List.map_toArray, List.map_cons, List.map_nil]); first | done | rfl | (simp only [List.length_drop, List.length_take]; rfl)) ?_; (with_reducible refine (laws_at.calls _ _ l0 0 t355 _ ?side1 ?side2 A5.out).mono ?_); (case side1 => repeat (first | exact (Kd.C_below HR0.out HB.out) | (with_reducible refine Kd.C_alloc ?_ _) | (with_reducible refine Kd.C_drewN ?_ _) | (with_reducible refine Kd.C_drew ?_))); (case side2 => exact HC0.out); rintro e w' ⟨rfl, ⟨nd, rfl⟩⟩; refine ⟨_, rfl, ?_⟩) | ((with_reducible refine gate_callee (f := 35) rfl ?_); refine goesL_ (some 25) rfl rfl Try.func35 (by kernel_rfl) rfl #[.slice A0 l0.length c0, .int .i64 1] rfl (by (try simp only [List.map_toArray, List.map_cons, List.map_nil]); first | done | rfl | (simp only [List.length_drop, List.length_take]; rfl)) ?_; (with_reducible refine (laws_at.calls _ _ l0 1 t356 _ ?side1 ?side2 A6.out).mono ?_); (case side1 => repeat (first | exact (Kd.C_below HR0.out (by repeat (first | (with_reducible first | exact HB.out | apply below_alloc | apply pw_below_drewN | apply below_drew1) | exact HB.out))) | (with_reducible refine Kd.C_alloc ?_ _) | (with_reducible refine Kd.C_drewN ?_ _) | (with_reducible refine Kd.C_drew ?_))); (case side2 => exact HC0.out); rintro e w' ⟨rfl, ⟨nd, rfl⟩⟩; refine ⟨_, rfl, ?_⟩) | ((with_reducible refine gate_dst (N := 30) rfl ?_); (try (refine gate_guard (by rfl) ?_; dsimp only)); refine Kd.R_lit (Kd.int .i64) _ 3 ?hg (N := 30) ?hd (xs := ([wrap64 (1 + (Int.tmod t355 6))] : List Int)) (inner := [.int .i64 (wrap64 (1 + (Int.tmod t355 6)))]) (ok := fun _ => True) (okp := fun _ => True) ?hr ?hp (fun _ hk => hk) trivial (Below.refl _ _) (Nat.le_refl _) (by simp) ?_; (case hd => rfl); (case hg => rfl); (case hr => first | (go_simp; done) | (go_simp; rfl)); (case hp => exact (Reps.one (show Kd.M (Kd.int .i64) _ _ _ (wrap64 (1 + (Int.tmod t355 6))) [.int .i64 (wrap64 (1 + (Int.tmod t355 6)))] from rfl) (Reps.none _ _))); intro v358 w13 ho14 hb hg_ hnew_; clear hg_ hnew_; (first | rw [← Ny357.out] at ho14 | (simp only [Int.reduceToNat] at ho14; rw [← Ny357.out] at ho14)); have n0_ := Aside0.mk (Kd.N_elder' (by (with_reducible repeat (first | apply Kd.N_alloc | apply Kd.N_drewN | apply Kd.N_drew)); exact HO354.out) (Kd.R_base ho14) hb); have n1_ := Aside0.mk (Kd.R_lower ho14 (below_size (by repeat (first | (with_reducible first | exact HB.out | apply below_alloc | apply pw_below_drewN | apply below_drew1) | exact HB.out)))); have n2_ := Aside0.mk (below_step (by repeat (first | (with_reducible first | exact HB.out | apply below_alloc | apply pw_below_drewN | apply below_drew1) | exact HB.out)) hb); clear HO354 HB; have HO354 := n0_; have HO359 := n1_; have HB := n2_; clear n0_ n1_ n2_; clear hb ho14; obtain ⟨Ao15, co15, eo15⟩ := Kd.N_slice HO354.out; subst eo15; obtain ⟨Ao16, co16, eo16⟩ := Kd.R_slice HO359.out; subst eo16) | ((with_reducible refine gate_callee (f := 17) rfl ?_); refine goesL_ (some 31) rfl rfl Try.func17 (by kernel_rfl) rfl #[.slice Ao15 t352.length co15, .slice Ao16 y357.length co16] rfl (by (try simp only [List.map_toArray, List.map_cons, List.map_nil]); first | done | rfl | (simp only [List.length_drop, List.length_take]; rfl)) ?_; (with_reducible refine (impl_CountWith.calls k _ _ t352 _ _ y357 t360 _ ?side1 ?side2 ?side3 ?side4 A7.out).mono ?_); (case side1 => repeat (first | exact (Kd.N_reads' HO354.out).2.2 | (with_reducible refine Kd.C_alloc ?_ _) | (with_reducible refine Kd.C_drewN ?_ _) | (with_reducible refine Kd.C_drew ?_))); (case side2 => exact (Kd.N_reads' HO354.out).2.1); (case side3 => repeat (first | exact (Kd.R_reads' HO359.out).2.2 | (with_reducible refine Kd.C_alloc ?_ _) | (with_reducible refine Kd.C_drewN ?_ _) | (with_reducible refine Kd.C_drew ?_))); (case side4 => exact (Kd.R_reads' HO359.out).2.1); rintro e w17 ⟨rfl, hb⟩; refine ⟨_, rfl, ?_⟩; have n0_ := Aside0.mk (Kd.N_below (by (with_reducible repeat (first | apply Kd.N_alloc | apply Kd.N_drewN | apply Kd.N_drew)); exact HO354.out) hb); have n1_ := Aside0.mk (Kd.R_below (by (with_reducible repeat (first | apply Kd.R_alloc | apply Kd.R_drewN | apply Kd.R_drew)); exact HO359.out) hb); have n2_ := Aside0.mk (below_step (by repeat (first | (with_reducible first | exact HB.out | apply below_alloc | apply pw_below_drewN | apply below_drew1) | exact HB.out)) hb); clear HO354 HO359 HB; have HO354 := n0_; have HO359 := n1_; have HB := n2_; clear n0_ n1_ n2_; (try clear hb); (try clear hb2); (try clear hk); (try clear hi)) | ((with_reducible refine gate_callee (f := 35) rfl ?_); refine goesL_ (some 33) rfl rfl Try.func35 (by kernel_rfl) rfl #[.slice A0 l0.length c0, .int .i64 2] rfl (by (try simp only [List.map_toArray, List.map_cons, List.map_nil]); first | done | rfl | (simp only [List.length_drop, List.length_take]; rfl)) ?_; (with_reducible refine (laws_at.calls _ _ l0 2 t361 _ ?side1 ?side2 A8.out).mono ?_); (case side1 => repeat (first | exact (Kd.C_below HR0.out HB.out) | (with_reducible refine Kd.C_alloc ?_ _) | (with_reducible refine Kd.C_drewN ?_ _) | (with_reducible refine Kd.C_drew ?_))); (case side2 => exact HC0.out); rintro e w' ⟨rfl, ⟨nd, rfl⟩⟩; refine ⟨_, rfl, ?_⟩) | ((with_reducible refine gate_callee (f := 20) rfl ?_); refine goesL_ (some 38) rfl rfl Try.func20 (by kernel_rfl) rfl #[.slice Ao15 t352.length co15, .int .i64 (wrap64 (1 + (Int.tmod t361 4)))] rfl (by (try simp only [List.map_toArray, List.map_cons, List.map_nil]); first | done | rfl | (simp only [List.length_drop, List.length_take]; rfl)) ?_; (with_reducible refine (impl_CommonPairs.calls k _ _ t352 (wrap64 (1 + (Int.tmod t361 4))) t362 _ ?side1 ?side2 A9.out).mono ?_); (case side1 => repeat (first | exact (Kd.N_reads' HO354.out).2.2 | (with_reducible refine Kd.C_alloc ?_ _) | (with_reducible refine Kd.C_drewN ?_ _) | (with_reducible refine Kd.C_drew ?_))); (case side2 => exact (Kd.N_reads' HO354.out).2.1); rintro e w18 ⟨v363, rfl, ho0, hb⟩; refine ⟨_, rfl, ?_⟩; have n0_ := Aside0.mk (Kd.N_elder' (by (with_reducible repeat (first | apply Kd.N_alloc | apply Kd.N_drewN | apply Kd.N_drew)); exact HO354.out) (by first | exact Kd.N_base ho0 | exact Kd.S_base ho0) hb); have n1_ := Aside0.mk (Kd.R_below (by (with_reducible repeat (first | apply Kd.R_alloc | apply Kd.R_drewN | apply Kd.R_drew)); exact HO359.out) hb); have n2_ := Aside0.mk (Kd.N_lower (Kd.N_mono (ok' := fun k_ => some k_ ≠ (.slice Ao15 t352.length co15 : Value).ownBlock ∧ some k_ ≠ (.slice Ao16 y357.length co16 : Value).ownBlock) (Kd.S_N (Kd.S_bound ho0)) (fun k_ hk_ => ⟨(Kd.fresh' (Kd.N_lt (by (with_reducible repeat (first | apply Kd.N_alloc | apply Kd.N_drewN | apply Kd.N_drew)); exact HO354.out)) k_ hk_.2.1), (Kd.fresh' (Kd.R_lt (by (with_reducible repeat (first | apply Kd.R_alloc | apply Kd.R_drewN | apply Kd.R_drew)); exact HO359.out)) k_ hk_.2.1)⟩)) (below_size (by repeat (first | (with_reducible first | exact HB.out | apply below_alloc | apply pw_below_drewN | apply below_drew1) | exact HB.out)))); have n3_ := Aside0.mk (below_step (by repeat (first | (with_reducible first | exact HB.out | apply below_alloc | apply pw_below_drewN | apply below_drew1) | exact HB.out)) hb); clear HO354 HO359 HB; have HO354 := n0_; have HO359 := n1_; have HO364 := n2_; have HB := n3_; clear n0_ n1_ n2_ n3_; (try clear hb); (try clear hb2); (try clear hk); (try clear hi); (try clear ho0)) | ((with_reducible refine gate_callee (f := 26) rfl ?_); refine goesL_ (some 41) rfl rfl Try.func26 (by kernel_rfl) rfl #[.slice Ao15 t352.length co15, .int .i64 (wrap64 (1 + (Int.tmod t361 4)))] rfl (by (try simp only [List.map_toArray, List.map_cons, List.map_nil]); first | done | rfl | (simp only [List.length_drop, List.length_take]; rfl)) ?_; (with_reducible refine (impl_LargestCommon.calls k _ _ t352 (wrap64 (1 + (Int.tmod t361 4))) t365 _ ?side1 ?side2 A10.out).mono ?_); (case side1 => repeat (first | exact (Kd.N_reads' HO354.out).2.2 | (with_reducible refine Kd.C_alloc ?_ _) | (with_reducible refine Kd.C_drewN ?_ _) | (with_reducible refine Kd.C_drew ?_))); (case side2 => exact (Kd.N_reads' HO354.out).2.1); rintro e w19 ⟨v366, rfl, ho0, hb⟩; refine ⟨_, rfl, ?_⟩; have n0_ := Aside0.mk (Kd.N_elder' (by (with_reducible repeat (first | apply Kd.N_alloc | apply Kd.N_drewN | apply Kd.N_drew)); exact HO354.out) (Kd.R_base ho0) hb); have n1_ := Aside0.mk (Kd.R_elder' (by (with_reducible repeat (first | apply Kd.R_alloc | apply Kd.R_drewN | apply Kd.R_drew)); exact HO359.out) (Kd.R_base ho0) hb); have n2_ := Aside0.mk (Kd.N_elder' (by (with_reducible repeat (first | apply Kd.N_alloc | apply Kd.N_drewN | apply Kd.N_drew)); exact HO364.out) (Kd.R_base ho0) hb); have n3_ := Aside0.mk (Kd.R_lower (Kd.R_new' ho0 (Kd.R_lt (by (with_reducible repeat (first | apply Kd.R_alloc | apply Kd.R_drewN | apply Kd.R_drew)); exact HO359.out))) (below_size (by repeat (first | (with_reducible first | exact HB.out | apply below_alloc | apply pw_below_drewN | apply below_drew1) | exact HB.out)))); have n4_ := Aside0.mk (below_step (by repeat (first | (with_reducible first | exact HB.out | apply below_alloc | apply pw_below_drewN | apply below_drew1) | exact HB.out)) hb); clear HO354 HO359 HO364 HB; have HO354 := n0_; have HO359 := n1_; have HO364 := n2_; have HO367 := n3_; have HB := n4_; clear n0_ n1_ n2_ n3_ n4_; (try clear hb); (try clear hb2); (try clear hk); (try clear hi); (try clear ho0)))
  (try simp only [Act.put, List.setIfInBounds_toArray, List.set_cons_zero, List.set_cons_succ])
  go_cut [78] (fun v78 wc => ∃ (kq : Nat) (x78_10 : Bool), v78 = .bool x78_10 ∧ Aside0 (laws_FnBaskets.j0 kq t352 (wrap64 (1 + (Int.tmod t355 6))) (wrap64 (1 + (Int.tmod t356 6))) t360 (wrap64 (1 + (Int.tmod t361 4))) t362 x78_10 = some r) ∧ Aside0 (kq ≤ k) ∧ Aside0 (Kd.N k49 49 wc w.heap.size (fun k_ => some k_ ≠ (v363 : Value).ownBlock) (.slice Ao15 t352.length co15) t352) ∧ Aside0 (Kd.N (Kd.slice 3 (Kd.int .i64)) 29 wc w.heap.size (fun k_ => some k_ ≠ ((.slice Ao15 t352.length co15) : Value).ownBlock) v363 t362) ∧ Aside0 (Below w.heap.size w wc))
  case first => as_aux_lemma =>
   have H := HC11.out
   clear HC11
   by_cases c20 : t360 < 0
   ·rw [if_pos c20] at H
    have c20b0 : decide (t360 < 0) = true := decide_eq_true c20
    clear c20
    (first | rw [c20b0] | (simp only [i64_w, i32_w]; rw [c20b0]) | skip)
    exact (laws_FnBaskets.j0_no HRT.out H).elim
   ·rw [if_neg c20] at H
    have c20b0 : decide (t360 < 0) = false := decide_eq_false c20
    clear c20
    (first | rw [c20b0] | (simp only [i64_w, i32_w]; rw [c20b0]) | skip)
    by_cases c21 : t360 > (t352.length : Int)
    ·rw [if_pos c21] at H
     have c21b0 : decide ((t352.length : Int) < t360) = true := decide_eq_true c21
     clear c21
     exact (laws_FnBaskets.j0_no HRT.out H).elim
    ·rw [if_neg c21] at H
     have c21b0 : decide ((t352.length : Int) < t360) = false := decide_eq_false c21
     clear c21
     replace H := Option.bind_eq_some_iff.mp H
     obtain ⟨t368, A220, H⟩ := H
     replace H : (if t368 = (t352.length : Int) then (if (t365.length : Int) > 0 then ((impl_CountWith.f k t352 t365).bind fun t369 => (if t369 < (wrap64 (1 + (Int.tmod t361 4))) then (laws_FnBaskets.j0 k t352 (wrap64 (1 + (Int.tmod t355 6))) (wrap64 (1 + (Int.tmod t356 6))) t360 (wrap64 (1 + (Int.tmod t361 4))) t362 true) else (if (t362.length : Int) > 0 then (laws_FnBaskets.j0 k t352 (wrap64 (1 + (Int.tmod t355 6))) (wrap64 (1 + (Int.tmod t356 6))) t360 (wrap64 (1 + (Int.tmod t361 4))) t362 (decide ((t365.length : Int) < 2))) else (laws_FnBaskets.j0 k t352 (wrap64 (1 + (Int.tmod t355 6))) (wrap64 (1 + (Int.tmod t356 6))) t360 (wrap64 (1 + (Int.tmod t361 4))) t362 false)))) else (if (t362.length : Int) > 0 then (laws_FnBaskets.j0 k t352 (wrap64 (1 + (Int.tmod t355 6))) (wrap64 (1 + (Int.tmod t356 6))) t360 (wrap64 (1 + (Int.tmod t361 4))) t362 (decide ((t365.length : Int) < 2))) else (laws_FnBaskets.j0 k t352 (wrap64 (1 + (Int.tmod t355 6))) (wrap64 (1 + (Int.tmod t356 6))) t360 (wrap64 (1 + (Int.tmod t361 4))) t362 false))) else (laws_FnBaskets.j0 k t352 (wrap64 (1 + (Int.tmod t355 6))) (wrap64 (1 + (Int.tmod t356 6))) t360 (wrap64 (1 + (Int.tmod t361 4))) t362 true)) = some r := H
     have A22 := Aside0.mk A220
     clear A220
     by_cases c23 : t368 = (t352.length : Int)
     ·rw [if_pos c23] at H
      have c23b0 : (t368 == (t352.length : Int)) = true := beq_iff_eq.mpr c23
      have c23b1 : (t368 != (t352.length : Int)) = false := bne_eq_false_iff_eq.mpr c23
      clear c23
      by_cases c24 : (t365.length : Int) > 0
      ·rw [if_pos c24] at H
       have c24b0 : decide (0 < (t365.length : Int)) = true := decide_eq_true c24
       have c24b1 : decide (0 < t365.length) = true := decide_eq_true (by omega)
       clear c24
       replace H := Option.bind_eq_some_iff.mp H
       obtain ⟨t369, A250, H⟩ := H
       replace H : (if t369 < (wrap64 (1 + (Int.tmod t361 4))) then (laws_FnBaskets.j0 k t352 (wrap64 (1 + (Int.tmod t355 6))) (wrap64 (1 + (Int.tmod t356 6))) t360 (wrap64 (1 + (Int.tmod t361 4))) t362 true) else (if (t362.length : Int) > 0 then (laws_FnBaskets.j0 k t352 (wrap64 (1 + (Int.tmod t355 6))) (wrap64 (1 + (Int.tmod t356 6))) t360 (wrap64 (1 + (Int.tmod t361 4))) t362 (decide ((t365.length : Int) < 2))) else (laws_FnBaskets.j0 k t352 (wrap64 (1 + (Int.tmod t355 6))) (wrap64 (1 + (Int.tmod t356 6))) t360 (wrap64 (1 + (Int.tmod t361 4))) t362 false))) = some r := H
       have A25 := Aside0.mk A250
       clear A250
       by_cases c26 : t369 < (wrap64 (1 + (Int.tmod t361 4)))
       ·rw [if_pos c26] at H
        have c26b0 : decide (t369 < (wrap64 (1 + (Int.tmod t361 4)))) = true := decide_eq_true c26
        clear c26
        exact (laws_FnBaskets.j0_no HRT.out H).elim
       ·rw [if_neg c26] at H
        have c26b0 : decide (t369 < (wrap64 (1 + (Int.tmod t361 4)))) = false := decide_eq_false c26
        clear c26
        by_cases c27 : (t362.length : Int) > 0
        ·rw [if_pos c27] at H
         have c27b0 : decide (0 < (t362.length : Int)) = true := decide_eq_true c27
         have c27b1 : decide (0 < t362.length) = true := decide_eq_true (by omega)
         clear c27
         have H' := Aside0.mk H
         clear H
         go_wp2_with (first | (go_at_call 17; refine calls_of_args (args' := #[_, .slice none ([] : List Int).length 0]) (by rfl) ?_; (with_reducible refine (impl_CountWith.calls k _ _ t352 none 0 ([] : List Int) t368 _ ?side1 ?side2 ?side3 ?side4 A22.out).mono ?_); (case side1 => repeat (first | exact (Kd.N_reads' HO354.out).2.2 | (with_reducible refine Kd.C_alloc ?_ _) | (with_reducible refine Kd.C_drewN ?_ _) | (with_reducible refine Kd.C_drew ?_))); (case side2 => exact (Kd.N_reads' HO354.out).2.1); (case side3 => exact Kd.C_nil _ _); (case side4 => exact Nat.le_refl _); rintro e w28 ⟨rfl, hb⟩; have n0_ := Aside0.mk (Kd.N_below (by (with_reducible repeat (first | apply Kd.N_alloc | apply Kd.N_drewN | apply Kd.N_drew)); exact HO354.out) hb); have n1_ := Aside0.mk (Kd.R_below (by (with_reducible repeat (first | apply Kd.R_alloc | apply Kd.R_drewN | apply Kd.R_drew)); exact HO359.out) hb); have n2_ := Aside0.mk (Kd.N_below (by (with_reducible repeat (first | apply Kd.N_alloc | apply Kd.N_drewN | apply Kd.N_drew)); exact HO364.out) hb); have n3_ := Aside0.mk (Kd.R_below (by (with_reducible repeat (first | apply Kd.R_alloc | apply Kd.R_drewN | apply Kd.R_drew)); exact HO367.out) hb); have n4_ := Aside0.mk (below_step (by repeat (first | (with_reducible first | exact HB.out | apply below_alloc | apply pw_below_drewN | apply below_drew1) | exact HB.out)) hb); clear HO354 HO359 HO364 HO367 HB; have HO354 := n0_; have HO359 := n1_; have HO364 := n2_; have HO367 := n3_; have HB := n4_; clear n0_ n1_ n2_ n3_ n4_; (try clear hb); (try clear hb2); (try clear hk); (try clear hi); obtain ⟨Ao29, co29, eo29⟩ := Kd.R_slice HO367.out; subst eo29) | (go_at_call 17; (with_reducible refine (impl_CountWith.calls k _ _ t352 _ _ t365 t369 _ ?side1 ?side2 ?side3 ?side4 A25.out).mono ?_); (case side1 => repeat (first | exact (Kd.N_reads' HO354.out).2.2 | (with_reducible refine Kd.C_alloc ?_ _) | (with_reducible refine Kd.C_drewN ?_ _) | (with_reducible refine Kd.C_drew ?_))); (case side2 => exact (Kd.N_reads' HO354.out).2.1); (case side3 => repeat (first | exact (Kd.R_reads' HO367.out).2.2 | (with_reducible refine Kd.C_alloc ?_ _) | (with_reducible refine Kd.C_drewN ?_ _) | (with_reducible refine Kd.C_drew ?_))); (case side4 => exact (Kd.R_reads' HO367.out).2.1); rintro e w30 ⟨rfl, hb⟩; have n0_ := Aside0.mk (Kd.N_below (by (with_reducible repeat (first | apply Kd.N_alloc | apply Kd.N_drewN | apply Kd.N_drew)); exact HO354.out) hb); have n1_ := Aside0.mk (Kd.R_below (by (with_reducible repeat (first | apply Kd.R_alloc | apply Kd.R_drewN | apply Kd.R_drew)); exact HO359.out) hb); have n2_ := Aside0.mk (Kd.N_below (by (with_reducible repeat (first | apply Kd.N_alloc | apply Kd.N_drewN | apply Kd.N_drew)); exact HO364.out) hb); have n3_ := Aside0.mk (Kd.R_below (by (with_reducible repeat (first | apply Kd.R_alloc | apply Kd.R_drewN | apply Kd.R_drew)); exact HO367.out) hb); have n4_ := Aside0.mk (below_step (by repeat (first | (with_reducible first | exact HB.out | apply below_alloc | apply pw_below_drewN | apply below_drew1) | exact HB.out)) hb); clear HO354 HO359 HO364 HO367 HB; have HO354 := n0_; have HO359 := n1_; have HO364 := n2_; have HO367 := n3_; have HB := n4_; clear n0_ n1_ n2_ n3_ n4_; (try clear hb); (try clear hb2); (try clear hk); (try clear hi); obtain ⟨Ao31, co31, eo31⟩ := Kd.N_slice HO364.out; subst eo31))
         go_meet
         case rel => exact ⟨_, (decide ((t365.length : Int) < 2)), (by first | rfl | (simp; done) | (simp [*]; done)), H', ⟨by first | omega | exact Nat.le_refl _⟩, ⟨by (with_reducible repeat (first | apply Kd.N_alloc | apply Kd.N_drewN | apply Kd.N_drew)); exact Kd.N_mono HO354.out (fun _ hk => hk.1.2)⟩, ⟨by (with_reducible repeat (first | apply Kd.N_alloc | apply Kd.N_drewN | apply Kd.N_drew)); exact Kd.N_mono HO364.out (fun _ hk => hk.1.1)⟩, ⟨by repeat (first | (with_reducible first | exact HB.out | apply below_alloc | apply pw_below_drewN | apply below_drew1) | exact HB.out)⟩⟩
        ·rw [if_neg c27] at H
         have c27b0 : decide (0 < (t362.length : Int)) = false := decide_eq_false c27
         have c27b1 : decide (0 < t362.length) = false := decide_eq_false (by omega)
         clear c27
         have H' := Aside0.mk H
         clear H
         go_wp2_with (first | (go_at_call 17; refine calls_of_args (args' := #[_, .slice none ([] : List Int).length 0]) (by rfl) ?_; (with_reducible refine (impl_CountWith.calls k _ _ t352 none 0 ([] : List Int) t368 _ ?side1 ?side2 ?side3 ?side4 A22.out).mono ?_); (case side1 => repeat (first | exact (Kd.N_reads' HO354.out).2.2 | (with_reducible refine Kd.C_alloc ?_ _) | (with_reducible refine Kd.C_drewN ?_ _) | (with_reducible refine Kd.C_drew ?_))); (case side2 => exact (Kd.N_reads' HO354.out).2.1); (case side3 => exact Kd.C_nil _ _); (case side4 => exact Nat.le_refl _); rintro e w32 ⟨rfl, hb⟩; have n0_ := Aside0.mk (Kd.N_below (by (with_reducible repeat (first | apply Kd.N_alloc | apply Kd.N_drewN | apply Kd.N_drew)); exact HO354.out) hb); have n1_ := Aside0.mk (Kd.R_below (by (with_reducible repeat (first | apply Kd.R_alloc | apply Kd.R_drewN | apply Kd.R_drew)); exact HO359.out) hb); have n2_ := Aside0.mk (Kd.N_below (by (with_reducible repeat (first | apply Kd.N_alloc | apply Kd.N_drewN | apply Kd.N_drew)); exact HO364.out) hb); have n3_ := Aside0.mk (Kd.R_below (by (with_reducible repeat (first | apply Kd.R_alloc | apply Kd.R_drewN | apply Kd.R_drew)); exact HO367.out) hb); have n4_ := Aside0.mk (below_step (by repeat (first | (with_reducible first | exact HB.out | apply below_alloc | apply pw_below_drewN | apply below_drew1) | exact HB.out)) hb); clear HO354 HO359 HO364 HO367 HB; have HO354 := n0_; have HO359 := n1_; have HO364 := n2_; have HO367 := n3_; have HB := n4_; clear n0_ n1_ n2_ n3_ n4_; (try clear hb); (try clear hb2); (try clear hk); (try clear hi); obtain ⟨Ao33, co33, eo33⟩ := Kd.R_slice HO367.out; subst eo33) | (go_at_call 17; (with_reducible refine (impl_CountWith.calls k _ _ t352 _ _ t365 t369 _ ?side1 ?side2 ?side3 ?side4 A25.out).mono ?_); (case side1 => repeat (first | exact (Kd.N_reads' HO354.out).2.2 | (with_reducible refine Kd.C_alloc ?_ _) | (with_reducible refine Kd.C_drewN ?_ _) | (with_reducible refine Kd.C_drew ?_))); (case side2 => exact (Kd.N_reads' HO354.out).2.1); (case side3 => repeat (first | exact (Kd.R_reads' HO367.out).2.2 | (with_reducible refine Kd.C_alloc ?_ _) | (with_reducible refine Kd.C_drewN ?_ _) | (with_reducible refine Kd.C_drew ?_))); (case side4 => exact (Kd.R_reads' HO367.out).2.1); rintro e w34 ⟨rfl, hb⟩; have n0_ := Aside0.mk (Kd.N_below (by (with_reducible repeat (first | apply Kd.N_alloc | apply Kd.N_drewN | apply Kd.N_drew)); exact HO354.out) hb); have n1_ := Aside0.mk (Kd.R_below (by (with_reducible repeat (first | apply Kd.R_alloc | apply Kd.R_drewN | apply Kd.R_drew)); exact HO359.out) hb); have n2_ := Aside0.mk (Kd.N_below (by (with_reducible repeat (first | apply Kd.N_alloc | apply Kd.N_drewN | apply Kd.N_drew)); exact HO364.out) hb); have n3_ := Aside0.mk (Kd.R_below (by (with_reducible repeat (first | apply Kd.R_alloc | apply Kd.R_drewN | apply Kd.R_drew)); exact HO367.out) hb); have n4_ := Aside0.mk (below_step (by repeat (first | (with_reducible first | exact HB.out | apply below_alloc | apply pw_below_drewN | apply below_drew1) | exact HB.out)) hb); clear HO354 HO359 HO364 HO367 HB; have HO354 := n0_; have HO359 := n1_; have HO364 := n2_; have HO367 := n3_; have HB := n4_; clear n0_ n1_ n2_ n3_ n4_; (try clear hb); (try clear hb2); (try clear hk); (try clear hi); obtain ⟨Ao35, co35, eo35⟩ := Kd.N_slice HO364.out; subst eo35))
         go_meet
         case rel => exact ⟨_, (false), (by first | rfl | (simp; done) | (simp [*]; done)), H', ⟨by first | omega | exact Nat.le_refl _⟩, ⟨by (with_reducible repeat (first | apply Kd.N_alloc | apply Kd.N_drewN | apply Kd.N_drew)); exact Kd.N_mono HO354.out (fun _ hk => hk.1.2)⟩, ⟨by (with_reducible repeat (first | apply Kd.N_alloc | apply Kd.N_drewN | apply Kd.N_drew)); exact Kd.N_mono HO364.out (fun _ hk => hk.1.1)⟩, ⟨by repeat (first | (with_reducible first | exact HB.out | apply below_alloc | apply pw_below_drewN | apply below_drew1) | exact HB.out)⟩⟩
      ·rw [if_neg c24] at H
       have c24b0 : decide (0 < (t365.length : Int)) = false := decide_eq_false c24
       have c24b1 : decide (0 < t365.length) = false := decide_eq_false (by omega)
       clear c24
       by_cases c36 : (t362.length : Int) > 0
       ·rw [if_pos c36] at H
        have c36b0 : decide (0 < (t362.length : Int)) = true := decide_eq_true c36
        have c36b1 : decide (0 < t362.length) = true := decide_eq_true (by omega)
        clear c36
        have H' := Aside0.mk H
        clear H
        go_wp2_with (first | (go_at_call 17; refine calls_of_args (args' := #[_, .slice none ([] : List Int).length 0]) (by rfl) ?_; (with_reducible refine (impl_CountWith.calls k _ _ t352 none 0 ([] : List Int) t368 _ ?side1 ?side2 ?side3 ?side4 A22.out).mono ?_); (case side1 => repeat (first | exact (Kd.N_reads' HO354.out).2.2 | (with_reducible refine Kd.C_alloc ?_ _) | (with_reducible refine Kd.C_drewN ?_ _) | (with_reducible refine Kd.C_drew ?_))); (case side2 => exact (Kd.N_reads' HO354.out).2.1); (case side3 => exact Kd.C_nil _ _); (case side4 => exact Nat.le_refl _); rintro e w37 ⟨rfl, hb⟩; have n0_ := Aside0.mk (Kd.N_below (by (with_reducible repeat (first | apply Kd.N_alloc | apply Kd.N_drewN | apply Kd.N_drew)); exact HO354.out) hb); have n1_ := Aside0.mk (Kd.R_below (by (with_reducible repeat (first | apply Kd.R_alloc | apply Kd.R_drewN | apply Kd.R_drew)); exact HO359.out) hb); have n2_ := Aside0.mk (Kd.N_below (by (with_reducible repeat (first | apply Kd.N_alloc | apply Kd.N_drewN | apply Kd.N_drew)); exact HO364.out) hb); have n3_ := Aside0.mk (Kd.R_below (by (with_reducible repeat (first | apply Kd.R_alloc | apply Kd.R_drewN | apply Kd.R_drew)); exact HO367.out) hb); have n4_ := Aside0.mk (below_step (by repeat (first | (with_reducible first | exact HB.out | apply below_alloc | apply pw_below_drewN | apply below_drew1) | exact HB.out)) hb); clear HO354 HO359 HO364 HO367 HB; have HO354 := n0_; have HO359 := n1_; have HO364 := n2_; have HO367 := n3_; have HB := n4_; clear n0_ n1_ n2_ n3_ n4_; (try clear hb); (try clear hb2); (try clear hk); (try clear hi); obtain ⟨Ao38, co38, eo38⟩ := Kd.R_slice HO367.out; subst eo38; obtain ⟨Ao39, co39, eo39⟩ := Kd.N_slice HO364.out; subst eo39))
        go_meet
        case rel => exact ⟨_, (decide ((t365.length : Int) < 2)), (by first | rfl | (simp; done) | (simp [*]; done)), H', ⟨by first | omega | exact Nat.le_refl _⟩, ⟨by (with_reducible repeat (first | apply Kd.N_alloc | apply Kd.N_drewN | apply Kd.N_drew)); exact Kd.N_mono HO354.out (fun _ hk => hk.1.2)⟩, ⟨by (with_reducible repeat (first | apply Kd.N_alloc | apply Kd.N_drewN | apply Kd.N_drew)); exact Kd.N_mono HO364.out (fun _ hk => hk.1.1)⟩, ⟨by repeat (first | (with_reducible first | exact HB.out | apply below_alloc | apply pw_below_drewN | apply below_drew1) | exact HB.out)⟩⟩
       ·rw [if_neg c36] at H
        have c36b0 : decide (0 < (t362.length : Int)) = false := decide_eq_false c36
        have c36b1 : decide (0 < t362.length) = false := decide_eq_false (by omega)
        clear c36
        have H' := Aside0.mk H
        clear H
        go_wp2_with (first | (go_at_call 17; refine calls_of_args (args' := #[_, .slice none ([] : List Int).length 0]) (by rfl) ?_; (with_reducible refine (impl_CountWith.calls k _ _ t352 none 0 ([] : List Int) t368 _ ?side1 ?side2 ?side3 ?side4 A22.out).mono ?_); (case side1 => repeat (first | exact (Kd.N_reads' HO354.out).2.2 | (with_reducible refine Kd.C_alloc ?_ _) | (with_reducible refine Kd.C_drewN ?_ _) | (with_reducible refine Kd.C_drew ?_))); (case side2 => exact (Kd.N_reads' HO354.out).2.1); (case side3 => exact Kd.C_nil _ _); (case side4 => exact Nat.le_refl _); rintro e w40 ⟨rfl, hb⟩; have n0_ := Aside0.mk (Kd.N_below (by (with_reducible repeat (first | apply Kd.N_alloc | apply Kd.N_drewN | apply Kd.N_drew)); exact HO354.out) hb); have n1_ := Aside0.mk (Kd.R_below (by (with_reducible repeat (first | apply Kd.R_alloc | apply Kd.R_drewN | apply Kd.R_drew)); exact HO359.out) hb); have n2_ := Aside0.mk (Kd.N_below (by (with_reducible repeat (first | apply Kd.N_alloc | apply Kd.N_drewN | apply Kd.N_drew)); exact HO364.out) hb); have n3_ := Aside0.mk (Kd.R_below (by (with_reducible repeat (first | apply Kd.R_alloc | apply Kd.R_drewN | apply Kd.R_drew)); exact HO367.out) hb); have n4_ := Aside0.mk (below_step (by repeat (first | (with_reducible first | exact HB.out | apply below_alloc | apply pw_below_drewN | apply below_drew1) | exact HB.out)) hb); clear HO354 HO359 HO364 HO367 HB; have HO354 := n0_; have HO359 := n1_; have HO364 := n2_; have HO367 := n3_; have HB := n4_; clear n0_ n1_ n2_ n3_ n4_; (try clear hb); (try clear hb2); (try clear hk); (try clear hi); obtain ⟨Ao41, co41, eo41⟩ := Kd.R_slice HO367.out; subst eo41; obtain ⟨Ao42, co42, eo42⟩ := Kd.N_slice HO364.out; subst eo42))
        go_meet
        case rel => exact ⟨_, (false), (by first | rfl | (simp; done) | (simp [*]; done)), H', ⟨by first | omega | exact Nat.le_refl _⟩, ⟨by (with_reducible repeat (first | apply Kd.N_alloc | apply Kd.N_drewN | apply Kd.N_drew)); exact Kd.N_mono HO354.out (fun _ hk => hk.1.2)⟩, ⟨by (with_reducible repeat (first | apply Kd.N_alloc | apply Kd.N_drewN | apply Kd.N_drew)); exact Kd.N_mono HO364.out (fun _ hk => hk.1.1)⟩, ⟨by repeat (first | (with_reducible first | exact HB.out | apply below_alloc | apply pw_below_drewN | apply below_drew1) | exact HB.out)⟩⟩
     ·rw [if_neg c23] at H
      have c23b0 : (t368 == (t352.length : Int)) = false := beq_eq_false_iff_ne.mpr c23
      have c23b1 : (t368 != (t352.length : Int)) = true := bne_iff_ne.mpr c23
      exact (laws_FnBaskets.j0_no HRT.out H).elim
  case rest => as_aux_lemma =>
   clear HC11
   try clear c1
   try clear c2
   try clear p2
   try clear c3
   try clear p6
   try clear c9
   try clear c17
   try clear c20
   try clear c20b0
   try clear c21
   try clear c21b0
   try clear c23
   try clear c23b0
   try clear c23b1
   try clear c24
   try clear c24b0
   try clear c24b1
   try clear c26
   try clear c26b0
   try clear c27
   try clear c27b0
   try clear c27b1
   try clear c33
   try clear c34
   try clear c35
   try clear c36
   try clear c36b0
   try clear c36b1
   obtain ⟨kq, x78_10, rfl, HA, HJ10, HO_3, HO_8, HB⟩ := hcut
   cases kq with
   | zero => exact absurd HA.out (by simp [laws_FnBaskets.j0])
   | succ kj10 =>
    have H := HA.out
    clear HA
    simp only [laws_FnBaskets.j0] at H
    by_cases c43 : x78_10 = true
    ·subst c43
     have H1 : (some false) = some r := by rw [if_pos rfl] at H; exact H
     clear H
     have H := H1
     clear H1
     exact absurd (H.trans (congrArg some HRT.out)) (by simp)
    ·replace c43 := Bool.eq_false_iff.mpr c43
     subst c43
     have H1 : (laws_FnBaskets.l0 kj10 t352 (wrap64 (1 + (Int.tmod t355 6))) (wrap64 (1 + (Int.tmod t356 6))) t360 (wrap64 (1 + (Int.tmod t361 4))) t362 0) = some r := by rw [if_neg (show ¬ (false = true) by decide)] at H; exact H
     clear H
     have H := H1
     clear H1
     have H' := Aside0.mk H
     clear H
     go_wp2
     go_loopg [10] kj10 (fun kq v10 w' => ∃ (x10_2 : Int), v10 = .int .i64 x10_2 ∧ Aside0 (laws_FnBaskets.l0 kq t352 (wrap64 (1 + (Int.tmod t355 6))) (wrap64 (1 + (Int.tmod t356 6))) t360 (wrap64 (1 + (Int.tmod t361 4))) t362 x10_2 = some r) ∧ Aside0 (kq ≤ kj10) ∧ Aside0 (Kd.N k49 49 w' w.heap.size (fun k_ => some k_ ≠ (v363 : Value).ownBlock) (.slice Ao15 t352.length co15) t352) ∧ Aside0 (Kd.N (Kd.slice 3 (Kd.int .i64)) 29 w' w.heap.size (fun k_ => some k_ ≠ ((.slice Ao15 t352.length co15) : Value).ownBlock) v363 t362) ∧ Aside0 (Below w.heap.size w w'))
     case atStart => exact ⟨(0), (by first | rfl | (simp; done) | (simp [*]; done)), H', ⟨Nat.le_refl _⟩, ⟨by (with_reducible repeat (first | apply Kd.N_alloc | apply Kd.N_drewN | apply Kd.N_drew)); exact HO_3.out⟩, ⟨by (with_reducible repeat (first | apply Kd.N_alloc | apply Kd.N_drewN | apply Kd.N_drew)); exact HO_8.out⟩, ⟨by repeat (first | (with_reducible first | exact HB.out | apply below_alloc | apply pw_below_drewN | apply below_drew1) | exact HB.out)⟩⟩
     case round => as_aux_lemma =>
      clear H'
      try clear c1
      try clear c2
      try clear p2
      try clear c3
      try clear c4
      try clear p6
      try clear c9
      try clear c17
      try clear c20
      try clear c20b0
      try clear c21
      try clear c21b0
      try clear c23
      try clear c23b0
      try clear c23b1
      try clear c24
      try clear c24b0
      try clear c24b1
      try clear c26
      try clear c26b0
      try clear c27
      try clear c27b0
      try clear c27b1
      try clear c33
      try clear c34
      try clear c35
      try clear c36
      try clear c36b0
      try clear c36b1
      try clear c43
      try clear p2
      try clear p6
      obtain ⟨x10_2, rfl, HA, HK2, HO_3, HO_8, HB⟩ := hrel
      cases gk with
      | zero => exact absurd HA.out (by simp [laws_FnBaskets.l0])
      | succ k2 =>
       have H := HA.out
       clear HA
       simp only [laws_FnBaskets.l0] at H
       by_cases c44 : x10_2 < (t362.length : Int)
       ·rw [if_pos c44] at H
        have c44b0 : decide (x10_2 < (t362.length : Int)) = true := decide_eq_true c44
        clear c44
        by_cases c45 : 0 ≤ x10_2
        ·rw [if_pos c45] at H
         have c45b0 : decide (0 ≤ x10_2) = true := decide_eq_true c45
         clear c45
         by_cases c46 : ((rd_L1 t362 x10_2).length : Int) = 2
         ·rw [if_pos c46] at H
          have c46b0 : (((rd_L1 t362 x10_2).length : Int) == 2) = true := beq_iff_eq.mpr c46
          have c46b1 : (((rd_L1 t362 x10_2).length : Int) != 2) = false := bne_eq_false_iff_eq.mpr c46
          clear c46
          replace H := Option.bind_eq_some_iff.mp H
          obtain ⟨t372, A470, H⟩ := H
          replace H : (if t372 < (wrap64 (1 + (Int.tmod t361 4))) then (some false) else (if 0 < ((rd_L1 t362 x10_2).length : Int) then (if 1 < ((rd_L1 t362 x10_2).length : Int) then (if (rd (rd_L1 t362 x10_2) 0) ≥ (rd (rd_L1 t362 x10_2) 1) then (some false) else (laws_FnBaskets.l0 k2 t352 (wrap64 (1 + (Int.tmod t355 6))) (wrap64 (1 + (Int.tmod t356 6))) t360 (wrap64 (1 + (Int.tmod t361 4))) t362 (wrap64 (x10_2 + 1)))) else (none)) else (none))) = some r := H
          have A47 := Aside0.mk A470
          clear A470
          by_cases c48 : t372 < (wrap64 (1 + (Int.tmod t361 4)))
          ·rw [if_pos c48] at H
           have c48b0 : decide (t372 < (wrap64 (1 + (Int.tmod t361 4)))) = true := decide_eq_true c48
           clear c48
           exact absurd (H.trans (congrArg some HRT.out)) (by simp)
          ·rw [if_neg c48] at H
           have c48b0 : decide (t372 < (wrap64 (1 + (Int.tmod t361 4)))) = false := decide_eq_false c48
           clear c48
           by_cases c49 : 0 < ((rd_L1 t362 x10_2).length : Int)
           ·rw [if_pos c49] at H
            have c49b0 : decide (0 < ((rd_L1 t362 x10_2).length : Int)) = true := decide_eq_true c49
            have c49b1 : decide (0 < (rd_L1 t362 x10_2).length) = true := decide_eq_true (by omega)
            clear c49
            by_cases c50 : 1 < ((rd_L1 t362 x10_2).length : Int)
            ·rw [if_pos c50] at H
             have c50b0 : decide (1 < ((rd_L1 t362 x10_2).length : Int)) = true := decide_eq_true c50
             have c50b1 : decide (1 < (rd_L1 t362 x10_2).length) = true := decide_eq_true (by omega)
             clear c50
             by_cases c51 : (rd (rd_L1 t362 x10_2) 0) ≥ (rd (rd_L1 t362 x10_2) 1)
             ·rw [if_pos c51] at H
              have c51b0 : decide ((rd (rd_L1 t362 x10_2) 1) ≤ (rd (rd_L1 t362 x10_2) 0)) = true := decide_eq_true c51
              clear c51
              exact absurd (H.trans (congrArg some HRT.out)) (by simp)
             ·rw [if_neg c51] at H
              have c51b0 : decide ((rd (rd_L1 t362 x10_2) 1) ≤ (rd (rd_L1 t362 x10_2) 0)) = false := decide_eq_false c51
              clear c51
              have H' := Aside0.mk H
              clear H
              obtain ⟨Ao52, co52, eo52⟩ := Kd.N_slice HO_8.out
              subst eo52
              try go_wp2
              have n0_ := Aside0.mk (Kd.N_drew HO_3.out)
              have n1_ := Aside0.mk (Kd.N_drew HO_8.out)
              have n2_ := Aside0.mk (below_drew1 HB.out)
              clear HO_3
              clear HO_8
              clear HB
              have HO_3 := n0_
              have HO_8 := n1_
              have HB := n2_
              clear n0_ n1_ n2_
              have p370 : 0 ≤ (x10_2 : Int) := of_decide_eq_true (by first | (with_reducible assumption) | assumption)
              have q370 : x10_2 < (t362.length : Int) := of_decide_eq_true (by first | (with_reducible assumption) | assumption)
              obtain ⟨ad370, A370_0, c370_0, e370, hx370_0, hl370_0, hi370_0⟩ := at_L1 (Kd.N_reads' HO_8.out).2.2 x10_2 p370 q370
              cases e370
              obtain ⟨ce370, hce370, hMe370, hcc370⟩ := Kd.N_get HO_8.out [] x10_2 p370 (by first | exact q370 | exact of_decide_eq_true (by first | (with_reducible assumption) | assumption) | (have e_ := (Kd.N_reads' HO_8.out).1; omega))
              obtain ⟨ua370_0, uc370_0, rfl, ul370_0, ge370_0⟩ := Kd.FK_slice_open hMe370
              have hv370_0 := hcc370 0 _ rfl
              rw [Nat.add_zero, show ((Kd.slice 3 (Kd.int .i64))).sz = 1 from rfl, Nat.mul_one] at hv370_0
              replace hv370_0 := Option.some.inj (hv370_0.symm.trans hx370_0)
              injection hv370_0 with hva_ hvn_ hvc_
              rw [hva_] at ge370_0
              rw [hvc_] at ul370_0
              have HL370_0 := Aside0.mk (show Kd.V (Kd.int .i64) 3 _ w.heap.size _ _ (rd_L1 t362 x10_2) from Kd.V_mk ul370_0 ge370_0)
              clear hva_ hvn_ hvc_ ge370_0 ul370_0
              clear hcc370 hce370
              have HR370_0 := Aside0.mk hi370_0
              have HC370_0 := Aside0.mk hl370_0
              clear hi370_0 hl370_0
              replace p370 := eq_true p370
              replace q370 := eq_true q370
              have p371 : 0 ≤ (x10_2 : Int) := of_decide_eq_true (by first | (with_reducible assumption) | assumption)
              have q371 : x10_2 < (t362.length : Int) := of_decide_eq_true (by first | (with_reducible assumption) | assumption)
              obtain ⟨ad371, A371_0, c371_0, e371, hx371_0, hl371_0, hi371_0⟩ := at_L1 (Kd.N_reads' HO_8.out).2.2 x10_2 p371 q371
              obtain rfl : ad370 = ad371 := (by injection e371)
              obtain ⟨ce371, hce371, hMe371, hcc371⟩ := Kd.N_get HO_8.out [] x10_2 p371 (by first | exact q371 | exact of_decide_eq_true (by first | (with_reducible assumption) | assumption) | (have e_ := (Kd.N_reads' HO_8.out).1; omega))
              obtain ⟨ua371_0, uc371_0, rfl, ul371_0, ge371_0⟩ := Kd.FK_slice_open hMe371
              have hv371_0 := hcc371 0 _ rfl
              rw [Nat.add_zero, show ((Kd.slice 3 (Kd.int .i64))).sz = 1 from rfl, Nat.mul_one] at hv371_0
              replace hv371_0 := Option.some.inj (hv371_0.symm.trans hx371_0)
              injection hv371_0 with hva_ hvn_ hvc_
              rw [hva_] at ge371_0
              rw [hvc_] at ul371_0
              have HL371_0 := Aside0.mk (show Kd.V (Kd.int .i64) 3 _ w.heap.size _ _ (rd_L1 t362 x10_2) from Kd.V_mk ul371_0 ge371_0)
              clear hva_ hvn_ hvc_ ge371_0 ul371_0
              clear hcc371 hce371
              have HR371_0 := Aside0.mk hi371_0
              have HC371_0 := Aside0.mk hl371_0
              clear hi371_0 hl371_0
              replace p371 := eq_true p371
              replace q371 := eq_true q371
              have ea_ := Option.some.inj (hx370_0.symm.trans hx371_0)
              injection ea_ with ea_ en_ ec_
              subst ea_
              subst ec_
              clear en_
              have p373 : 0 ≤ (x10_2 : Int) := of_decide_eq_true (by first | (with_reducible assumption) | assumption)
              have q373 : x10_2 < (t362.length : Int) := of_decide_eq_true (by first | (with_reducible assumption) | assumption)
              obtain ⟨ad373, A373_0, c373_0, e373, hx373_0, hl373_0, hi373_0⟩ := at_L1 (Kd.N_reads' HO_8.out).2.2 x10_2 p373 q373
              obtain rfl : ad370 = ad373 := (by injection e373)
              obtain ⟨ce373, hce373, hMe373, hcc373⟩ := Kd.N_get HO_8.out [] x10_2 p373 (by first | exact q373 | exact of_decide_eq_true (by first | (with_reducible assumption) | assumption) | (have e_ := (Kd.N_reads' HO_8.out).1; omega))
              obtain ⟨ua373_0, uc373_0, rfl, ul373_0, ge373_0⟩ := Kd.FK_slice_open hMe373
              have hv373_0 := hcc373 0 _ rfl
              rw [Nat.add_zero, show ((Kd.slice 3 (Kd.int .i64))).sz = 1 from rfl, Nat.mul_one] at hv373_0
              replace hv373_0 := Option.some.inj (hv373_0.symm.trans hx373_0)
              injection hv373_0 with hva_ hvn_ hvc_
              rw [hva_] at ge373_0
              rw [hvc_] at ul373_0
              have HL373_0 := Aside0.mk (show Kd.V (Kd.int .i64) 3 _ w.heap.size _ _ (rd_L1 t362 x10_2) from Kd.V_mk ul373_0 ge373_0)
              clear hva_ hvn_ hvc_ ge373_0 ul373_0
              clear hcc373 hce373
              have HR373_0 := Aside0.mk hi373_0
              have HC373_0 := Aside0.mk hl373_0
              clear hi373_0 hl373_0
              replace p373 := eq_true p373
              replace q373 := eq_true q373
              have p375 : 0 ≤ (x10_2 : Int) := of_decide_eq_true (by first | (with_reducible assumption) | assumption)
              have q375 : x10_2 < (t362.length : Int) := of_decide_eq_true (by first | (with_reducible assumption) | assumption)
              obtain ⟨ad375, A375_0, c375_0, e375, hx375_0, hl375_0, hi375_0⟩ := at_L1 (Kd.N_reads' HO_8.out).2.2 x10_2 p375 q375
              obtain rfl : ad370 = ad375 := (by injection e375)
              obtain ⟨ce375, hce375, hMe375, hcc375⟩ := Kd.N_get HO_8.out [] x10_2 p375 (by first | exact q375 | exact of_decide_eq_true (by first | (with_reducible assumption) | assumption) | (have e_ := (Kd.N_reads' HO_8.out).1; omega))
              obtain ⟨ua375_0, uc375_0, rfl, ul375_0, ge375_0⟩ := Kd.FK_slice_open hMe375
              have hv375_0 := hcc375 0 _ rfl
              rw [Nat.add_zero, show ((Kd.slice 3 (Kd.int .i64))).sz = 1 from rfl, Nat.mul_one] at hv375_0
              replace hv375_0 := Option.some.inj (hv375_0.symm.trans hx375_0)
              injection hv375_0 with hva_ hvn_ hvc_
              rw [hva_] at ge375_0
              rw [hvc_] at ul375_0
              have HL375_0 := Aside0.mk (show Kd.V (Kd.int .i64) 3 _ w.heap.size _ _ (rd_L1 t362 x10_2) from Kd.V_mk ul375_0 ge375_0)
              clear hva_ hvn_ hvc_ ge375_0 ul375_0
              clear hcc375 hce375
              have HR375_0 := Aside0.mk hi375_0
              have HC375_0 := Aside0.mk hl375_0
              clear hi375_0 hl375_0
              replace p375 := eq_true p375
              replace q375 := eq_true q375
              have ea_ := Option.some.inj (hx373_0.symm.trans hx375_0)
              injection ea_ with ea_ en_ ec_
              subst ea_
              subst ec_
              clear en_
              have ea_ := Option.some.inj (hx370_0.symm.trans hx373_0)
              injection ea_ with ea_ en_ ec_
              subst ea_
              subst ec_
              clear en_
              have p374 : 0 ≤ (0 : Int) := (by omega)
              have q374 : 0 < ((rd_L1 t362 x10_2).length : Int) := of_decide_eq_true (by first | (with_reducible assumption) | assumption)
              obtain ⟨ad374, e374, hx374_0⟩ := Kd.at_int (by repeat (first | (with_reducible exact HR373_0.out) | (with_reducible refine Kd.C_alloc ?_ _) | (with_reducible refine Kd.C_drewN ?_ _) | (with_reducible refine Kd.C_drew ?_) | exact HR373_0.out)) 0 p374 q374
              cases e374
              have qi374 : (0 < (rd_L1 t362 x10_2).length) = True := eq_true (by omega)
              (try rw [show ((0 : Int)).toNat = 0 from rfl] at hx374_0)
              (try rw [Addr.add_zero'] at hx374_0)
              replace p374 := eq_true p374
              replace q374 := eq_true q374
              have p376 : 0 ≤ (1 : Int) := (by omega)
              have q376 : 1 < ((rd_L1 t362 x10_2).length : Int) := of_decide_eq_true (by first | (with_reducible assumption) | assumption)
              obtain ⟨ad376, e376, hx376_0⟩ := Kd.at_int (by repeat (first | (with_reducible exact HR375_0.out) | (with_reducible refine Kd.C_alloc ?_ _) | (with_reducible refine Kd.C_drewN ?_ _) | (with_reducible refine Kd.C_drew ?_) | exact HR375_0.out)) 1 p376 q376
              have ee376 : ad376 = ad374 := (Option.some.inj e376).symm
              (try rw [ee376] at hx376_0)
              clear ee376 e376
              (try simp only [show (1 : Int).toNat = 1 from rfl, Nat.reduceMul, Nat.reduceEqDiff, Go.Addr.add, ↓reduceIte] at hx376_0)
              have qi376 : (1 < (rd_L1 t362 x10_2).length) = True := eq_true (by omega)
              (try rw [show ((1 : Int)).toNat = 1 from rfl] at hx376_0)
              replace p376 := eq_true p376
              replace q376 := eq_true q376
              refine start_ (n := 31) (S := fun w' => w'.cell? (ad370.add (x10_2).toNat) = some (.slice (some ad374) (rd_L1 t362 x10_2).length c370_0) ∧ w'.cell? (ad370.add (x10_2).toNat) = some (.slice (some ad374) (rd_L1 t362 x10_2).length c370_0) ∧ w'.cell? (ad370.add (x10_2).toNat) = some (.slice (some ad374) (rd_L1 t362 x10_2).length c370_0) ∧ w'.cell? ad374 = some (.int .i64 (rd (rd_L1 t362 x10_2) 0)) ∧ w'.cell? (ad370.add (x10_2).toNat) = some (.slice (some ad374) (rd_L1 t362 x10_2).length c370_0) ∧ w'.cell? ⟨ad374.block, ad374.off + 1, none⟩ = some (.int .i64 (rd (rd_L1 t362 x10_2) 1))) (ds := []) #[false, false, false, false, false, false, false, false, false, false, false, false, false, false, false, false, false, false, false, false, false, false, false, false, false, false, false, false, false, false, false] (by kernel_rfl) rfl rfl ⟨hx370_0, hx371_0, hx373_0, hx374_0, hx375_0, hx376_0⟩ (fun hHeld => ?_); refine with_tabW laws_FnBaskets.tab15 laws_FnBaskets.bits15 (fun HT_ HW_ => ?_)
              generalize wr.drew = w53 at HO_3 HO_8 HB HL370_0 HL371_0 HL373_0 HL375_0 HR370_0 HR371_0 HR373_0 HR375_0 hx370_0 hx371_0 hx373_0 hx374_0 hx375_0 hx376_0 hHeld ⊢
              refine pure_ (i := 0) (N := some 85) (v := ?_) (a' := ?_) #[true, false, false, false, false, false, false, false, false, false, false, false, false, false, false, false, false, false, false, false, false, false, false, false, false, false, false, false, false, false, false] rfl rfl (any_of HT_.out (by kernel_rfl)) (fun _ _ _ h => h) (Or.inl ⟨by rfl, ?_⟩) ?_ ?_
              rotate_left
              ·intro w'
               go_simp
               with_reducible rfl
              rotate_left
              ·simp only [Act.put, List.setIfInBounds_toArray, List.set_cons_zero, List.set_cons_succ, i64_w, i32_w]
               rfl
              refine pure_ (i := 1) (N := some 86) (v := ?_) (a' := ?_) #[true, true, false, false, false, false, false, false, false, false, false, false, false, false, false, false, false, false, false, false, false, false, false, false, false, false, false, false, false, false, false] rfl rfl (any_of HT_.out (by kernel_rfl)) (fun _ _ _ h => h) (Or.inl ⟨by rfl, ?_⟩) ?_ ?_
              rotate_left
              ·intro w'
               go_simp
               with_reducible rfl
              rotate_left
              ·simp only [Act.put, List.setIfInBounds_toArray, List.set_cons_zero, List.set_cons_succ, i64_w, i32_w]
               rfl
              refine pure_ (i := 2) (N := some 87) (v := ?_) (a' := ?_) #[true, true, true, false, false, false, false, false, false, false, false, false, false, false, false, false, false, false, false, false, false, false, false, false, false, false, false, false, false, false, false] rfl rfl (any_of HT_.out (by kernel_rfl)) (fun _ _ _ h => h) (Or.inl ⟨by rfl, ?_⟩) ?_ ?_
              rotate_left
              ·intro w'
               go_simp
               with_reducible rfl
              rotate_left
              ·simp only [Act.put, List.setIfInBounds_toArray, List.set_cons_zero, List.set_cons_succ, i64_w, i32_w]
               rfl
              refine take_ (i := 3) (N := some 88) (v := ?_) (a' := ?_) #[true, true, true, true, false, false, false, false, false, false, false, false, false, false, false, false, false, false, false, false, false, false, false, false, false, false, false, false, false, false, false] rfl rfl (take_ofW HT_.out HW_.out (by kernel_rfl)) (fun _ _ _ h => h) (Or.inl ⟨by rfl, ?_⟩) hHeld ?_ ?_
              rotate_left
              ·rintro w' ⟨s0, s1, s2, s3, s4, s5⟩
               go_simp
               with_reducible rfl
              rotate_left
              ·simp only [Act.put, List.setIfInBounds_toArray, List.set_cons_zero, List.set_cons_succ, i64_w, i32_w]
               rfl
              refine pure_ (i := 4) (N := some 89) (v := ?_) (a' := ?_) #[true, true, true, true, true, false, false, false, false, false, false, false, false, false, false, false, false, false, false, false, false, false, false, false, false, false, false, false, false, false, false] rfl rfl (any_of HT_.out (by kernel_rfl)) (fun _ _ _ h => h) (Or.inl ⟨by rfl, ?_⟩) ?_ ?_
              rotate_left
              ·intro w'
               go_simp
               with_reducible rfl
              rotate_left
              ·simp only [Act.put, List.setIfInBounds_toArray, List.set_cons_zero, List.set_cons_succ, i64_w, i32_w]
               rfl
              refine pure_ (i := 5) (N := some 90) (v := ?_) (a' := ?_) #[true, true, true, true, true, true, false, false, false, false, false, false, false, false, false, false, false, false, false, false, false, false, false, false, false, false, false, false, false, false, false] rfl rfl (any_of HT_.out (by kernel_rfl)) (fun _ _ _ h => h) (Or.inl ⟨by rfl, ?_⟩) ?_ ?_
              rotate_left
              ·intro w'
               go_simp
               with_reducible rfl
              rotate_left
              ·simp only [Act.put, List.setIfInBounds_toArray, List.set_cons_zero, List.set_cons_succ, i64_w, i32_w]
               rfl
              refine pure_ (i := 6) (N := some 91) (v := ?_) (a' := ?_) #[true, true, true, true, true, true, true, false, false, false, false, false, false, false, false, false, false, false, false, false, false, false, false, false, false, false, false, false, false, false, false] rfl rfl (any_of HT_.out (by kernel_rfl)) (fun _ _ _ h => h) (Or.inl ⟨by rfl, ?_⟩) ?_ ?_
              rotate_left
              ·intro w'
               go_simp
               with_reducible rfl
              rotate_left
              ·simp only [Act.put, List.setIfInBounds_toArray, List.set_cons_zero, List.set_cons_succ, i64_w, i32_w]
               rfl
              refine pure_ (i := 7) (N := some 92) (v := ?_) (a' := ?_) #[true, true, true, true, true, true, true, true, false, false, false, false, false, false, false, false, false, false, false, false, false, false, false, false, false, false, false, false, false, false, false] rfl rfl (any_of HT_.out (by kernel_rfl)) (fun _ _ _ h => h) (Or.inl ⟨by rfl, ?_⟩) ?_ ?_
              rotate_left
              ·intro w'
               go_simp
               with_reducible rfl
              rotate_left
              ·simp only [Act.put, List.setIfInBounds_toArray, List.set_cons_zero, List.set_cons_succ, i64_w, i32_w]
               rfl
              refine pure_ (i := 8) (N := some 93) (v := ?_) (a' := ?_) #[true, true, true, true, true, true, true, true, true, false, false, false, false, false, false, false, false, false, false, false, false, false, false, false, false, false, false, false, false, false, false] rfl rfl (any_of HT_.out (by kernel_rfl)) (fun _ _ _ h => h) (Or.inl ⟨by rfl, ?_⟩) ?_ ?_
              rotate_left
              ·intro w'
               go_simp
               with_reducible rfl
              rotate_left
              ·simp only [Act.put, List.setIfInBounds_toArray, List.set_cons_zero, List.set_cons_succ, i64_w, i32_w]
               rfl
              refine pure_ (i := 9) (N := some 94) (v := ?_) (a' := ?_) #[true, true, true, true, true, true, true, true, true, true, false, false, false, false, false, false, false, false, false, false, false, false, false, false, false, false, false, false, false, false, false] rfl rfl (any_of HT_.out (by kernel_rfl)) (fun _ _ _ h => h) (Or.inl ⟨by rfl, ?_⟩) ?_ ?_
              rotate_left
              ·intro w'
               go_simp
               with_reducible rfl
              rotate_left
              ·simp only [Act.put, List.setIfInBounds_toArray, List.set_cons_zero, List.set_cons_succ, i64_w, i32_w]
               rfl
              refine pure_ (i := 10) (N := some 95) (v := ?_) (a' := ?_) #[true, true, true, true, true, true, true, true, true, true, true, false, false, false, false, false, false, false, false, false, false, false, false, false, false, false, false, false, false, false, false] rfl rfl (any_of HT_.out (by kernel_rfl)) (fun _ _ _ h => h) (Or.inl ⟨by rfl, ?_⟩) ?_ ?_
              rotate_left
              ·intro w'
               go_simp
               with_reducible rfl
              rotate_left
              ·simp only [Act.put, List.setIfInBounds_toArray, List.set_cons_zero, List.set_cons_succ, i64_w, i32_w]
               rfl
              refine pure_ (i := 13) (N := some 98) (v := ?_) (a' := ?_) #[true, true, true, true, true, true, true, true, true, true, true, false, false, true, false, false, false, false, false, false, false, false, false, false, false, false, false, false, false, false, false] rfl rfl (any_of HT_.out (by kernel_rfl)) (fun _ _ _ h => h) (Or.inl ⟨by rfl, ?_⟩) ?_ ?_
              rotate_left
              ·intro w'
               go_simp
               with_reducible rfl
              rotate_left
              ·simp only [Act.put, List.setIfInBounds_toArray, List.set_cons_zero, List.set_cons_succ, i64_w, i32_w]
               rfl
              refine take_ (i := 11) (N := some 96) (v := ?_) (a' := ?_) #[true, true, true, true, true, true, true, true, true, true, true, true, false, true, false, false, false, false, false, false, false, false, false, false, false, false, false, false, false, false, false] rfl rfl (take_ofW HT_.out HW_.out (by kernel_rfl)) (fun _ _ _ h => h) (Or.inl ⟨by rfl, ?_⟩) hHeld ?_ ?_
              rotate_left
              ·rintro w' ⟨s0, s1, s2, s3, s4, s5⟩
               go_simp
               with_reducible rfl
              rotate_left
              ·simp only [Act.put, List.setIfInBounds_toArray, List.set_cons_zero, List.set_cons_succ, i64_w, i32_w]
               rfl
              refine one_ (i := 12) (N := some 97) #[true, true, true, true, true, true, true, true, true, true, true, true, true, true, false, false, false, false, false, false, false, false, false, false, false, false, false, false, false, false, false] rfl rfl (one_of HT_.out (by kernel_rfl)) (by decide) (fun K hK => ?_)
              refine goes_ Try.func17 (by kernel_rfl) rfl #[.slice Ao15 t352.length co15, .slice (some ad374) (rd_L1 t362 x10_2).length c370_0] (by rfl) rfl rfl (by (try simp only [List.map_toArray, List.map_cons, List.map_nil]); first | done | rfl | (simp only [List.length_drop, List.length_take]; rfl)) ?_
              with_reducible refine (impl_CountWith.calls k2 _ _ t352 _ _ (rd_L1 t362 x10_2) t372 _ ?side1 ?side2 ?side3 ?side4 A47.out).mono ?_
              (case side1 => repeat (first | exact (Kd.N_reads' HO_3.out).2.2 | (with_reducible refine Kd.C_alloc ?_ _) | (with_reducible refine Kd.C_drewN ?_ _) | (with_reducible refine Kd.C_drew ?_)))
              (case side2 => exact (Kd.N_reads' HO_3.out).2.1)
              (case side3 => repeat (first | exact (by repeat (first | (with_reducible exact HR371_0.out) | (with_reducible refine Kd.C_alloc ?_ _) | (with_reducible refine Kd.C_drewN ?_ _) | (with_reducible refine Kd.C_drew ?_) | exact HR371_0.out)) | (with_reducible refine Kd.C_alloc ?_ _) | (with_reducible refine Kd.C_drewN ?_ _) | (with_reducible refine Kd.C_drew ?_)))
              (case side4 => exact HC371_0.out)
              rintro e w54 ⟨rfl, hb⟩
              have HS0_ := (hb.cell (World.block_lt_of_cell? _ _ (hHeld.1))).trans (hHeld.1)
              have HS1_ := (hb.cell (World.block_lt_of_cell? _ _ (hHeld.2.1))).trans (hHeld.2.1)
              have HS2_ := (hb.cell (World.block_lt_of_cell? _ _ (hHeld.2.2.1))).trans (hHeld.2.2.1)
              have HS3_ := (hb.cell (World.block_lt_of_cell? _ _ (hHeld.2.2.2.1))).trans (hHeld.2.2.2.1)
              have HS4_ := (hb.cell (World.block_lt_of_cell? _ _ (hHeld.2.2.2.2.1))).trans (hHeld.2.2.2.2.1)
              have HS5_ := (hb.cell (World.block_lt_of_cell? _ _ (hHeld.2.2.2.2.2))).trans (hHeld.2.2.2.2.2)
              refine ⟨_, rfl, ?_⟩
              have n0_ := Aside0.mk (Kd.N_below (by (with_reducible repeat (first | apply Kd.N_alloc | apply Kd.N_drewN | apply Kd.N_drew)); exact HO_3.out) hb)
              have n1_ := Aside0.mk (Kd.N_below (by (with_reducible repeat (first | apply Kd.N_alloc | apply Kd.N_drewN | apply Kd.N_drew)); exact HO_8.out) hb)
              have n2_ := Aside0.mk (Kd.V_below (by (with_reducible repeat (first | apply Kd.V_alloc | apply Kd.V_drewN | apply Kd.V_drew)); exact HL370_0.out) hb)
              have n3_ := Aside0.mk (Kd.V_below (by (with_reducible repeat (first | apply Kd.V_alloc | apply Kd.V_drewN | apply Kd.V_drew)); exact HL371_0.out) hb)
              have n4_ := Aside0.mk (Kd.C_below (by repeat (first | (with_reducible exact HR370_0.out) | (with_reducible refine Kd.C_alloc ?_ _) | (with_reducible refine Kd.C_drewN ?_ _) | (with_reducible refine Kd.C_drew ?_) | exact HR370_0.out)) hb)
              have n5_ := Aside0.mk (Kd.C_below (by repeat (first | (with_reducible exact HR371_0.out) | (with_reducible refine Kd.C_alloc ?_ _) | (with_reducible refine Kd.C_drewN ?_ _) | (with_reducible refine Kd.C_drew ?_) | exact HR371_0.out)) hb)
              have n6_ := Aside0.mk (below_step (by repeat (first | (with_reducible first | exact HB.out | apply below_alloc | apply pw_below_drewN | apply below_drew1) | exact HB.out)) hb)
              clear HO_3
              clear HO_8
              clear HL370_0
              clear HL371_0
              clear HR370_0
              clear HR371_0
              clear HB
              have HO_3 := n0_
              have HO_8 := n1_
              have HL370_0 := n2_
              have HL371_0 := n3_
              have HR370_0 := n4_
              have HR371_0 := n5_
              have HB := n6_
              clear n0_ n1_ n2_ n3_ n4_ n5_ n6_
              (try clear hb)
              (try clear hb2)
              (try clear hk)
              (try clear hi)
              refine hK.out _ _ ⟨HS0_, HS1_, HS2_, HS3_, HS4_, HS5_⟩ (fun hHeld => ?_)
              clear hK K
              refine norm_ (a' := ?_) ?_ ?_
              rotate_left
              ·show Act.put _ (some 97) _ = _
               simp only [Act.put, List.setIfInBounds_toArray, List.set_cons_zero, List.set_cons_succ, i64_w, i32_w]
               rfl
              refine pure_ (i := 14) (N := some 99) (v := ?_) (a' := ?_) #[true, true, true, true, true, true, true, true, true, true, true, true, true, true, true, false, false, false, false, false, false, false, false, false, false, false, false, false, false, false, false] rfl rfl (any_of HT_.out (by kernel_rfl)) (fun _ _ _ h => h) (Or.inl ⟨by rfl, ?_⟩) ?_ ?_
              rotate_left
              ·intro w'
               go_simp
               with_reducible rfl
              rotate_left
              ·simp only [Act.put, List.setIfInBounds_toArray, List.set_cons_zero, List.set_cons_succ, i64_w, i32_w]
               rfl
              refine pure_ (i := 15) (N := some 100) (v := ?_) (a' := ?_) #[true, true, true, true, true, true, true, true, true, true, true, true, true, true, true, true, false, false, false, false, false, false, false, false, false, false, false, false, false, false, false] rfl rfl (any_of HT_.out (by kernel_rfl)) (fun _ _ _ h => h) (Or.inl ⟨by rfl, ?_⟩) ?_ ?_
              rotate_left
              ·intro w'
               go_simp
               with_reducible rfl
              rotate_left
              ·simp only [Act.put, List.setIfInBounds_toArray, List.set_cons_zero, List.set_cons_succ, i64_w, i32_w]
               rfl
              refine pure_ (i := 16) (N := some 101) (v := ?_) (a' := ?_) #[true, true, true, true, true, true, true, true, true, true, true, true, true, true, true, true, true, false, false, false, false, false, false, false, false, false, false, false, false, false, false] rfl rfl (any_of HT_.out (by kernel_rfl)) (fun _ _ _ h => h) (Or.inl ⟨by rfl, ?_⟩) ?_ ?_
              rotate_left
              ·intro w'
               go_simp
               with_reducible rfl
              rotate_left
              ·simp only [Act.put, List.setIfInBounds_toArray, List.set_cons_zero, List.set_cons_succ, i64_w, i32_w]
               rfl
              refine pure_ (i := 17) (N := some 102) (v := ?_) (a' := ?_) #[true, true, true, true, true, true, true, true, true, true, true, true, true, true, true, true, true, true, false, false, false, false, false, false, false, false, false, false, false, false, false] rfl rfl (any_of HT_.out (by kernel_rfl)) (fun _ _ _ h => h) (Or.inl ⟨by rfl, ?_⟩) ?_ ?_
              rotate_left
              ·intro w'
               go_simp
               with_reducible rfl
              rotate_left
              ·simp only [Act.put, List.setIfInBounds_toArray, List.set_cons_zero, List.set_cons_succ, i64_w, i32_w]
               rfl
              refine pure_ (i := 18) (N := some 103) (v := ?_) (a' := ?_) #[true, true, true, true, true, true, true, true, true, true, true, true, true, true, true, true, true, true, true, false, false, false, false, false, false, false, false, false, false, false, false] rfl rfl (any_of HT_.out (by kernel_rfl)) (fun _ _ _ h => h) (Or.inl ⟨by rfl, ?_⟩) ?_ ?_
              rotate_left
              ·intro w'
               go_simp
               with_reducible rfl
              rotate_left
              ·simp only [Act.put, List.setIfInBounds_toArray, List.set_cons_zero, List.set_cons_succ, i64_w, i32_w]
               rfl
              refine pure_ (i := 19) (N := some 104) (v := ?_) (a' := ?_) #[true, true, true, true, true, true, true, true, true, true, true, true, true, true, true, true, true, true, true, true, false, false, false, false, false, false, false, false, false, false, false] rfl rfl (any_of HT_.out (by kernel_rfl)) (fun _ _ _ h => h) (Or.inl ⟨by rfl, ?_⟩) ?_ ?_
              rotate_left
              ·intro w'
               go_simp
               with_reducible rfl
              rotate_left
              ·simp only [Act.put, List.setIfInBounds_toArray, List.set_cons_zero, List.set_cons_succ, i64_w, i32_w]
               rfl
              refine pure_ (i := 23) (N := some 108) (v := ?_) (a' := ?_) #[true, true, true, true, true, true, true, true, true, true, true, true, true, true, true, true, true, true, true, true, false, false, false, true, false, false, false, false, false, false, false] rfl rfl (any_of HT_.out (by kernel_rfl)) (fun _ _ _ h => h) (Or.inl ⟨by rfl, ?_⟩) ?_ ?_
              rotate_left
              ·intro w'
               go_simp
               with_reducible rfl
              rotate_left
              ·simp only [Act.put, List.setIfInBounds_toArray, List.set_cons_zero, List.set_cons_succ, i64_w, i32_w]
               rfl
              refine pure_ (i := 24) (N := some 109) (v := ?_) (a' := ?_) #[true, true, true, true, true, true, true, true, true, true, true, true, true, true, true, true, true, true, true, true, false, false, false, true, true, false, false, false, false, false, false] rfl rfl (any_of HT_.out (by kernel_rfl)) (fun _ _ _ h => h) (Or.inl ⟨by rfl, ?_⟩) ?_ ?_
              rotate_left
              ·intro w'
               go_simp
               with_reducible rfl
              rotate_left
              ·simp only [Act.put, List.setIfInBounds_toArray, List.set_cons_zero, List.set_cons_succ, i64_w, i32_w]
               rfl
              refine pure_ (i := 25) (N := some 110) (v := ?_) (a' := ?_) #[true, true, true, true, true, true, true, true, true, true, true, true, true, true, true, true, true, true, true, true, false, false, false, true, true, true, false, false, false, false, false] rfl rfl (any_of HT_.out (by kernel_rfl)) (fun _ _ _ h => h) (Or.inl ⟨by rfl, ?_⟩) ?_ ?_
              rotate_left
              ·intro w'
               go_simp
               with_reducible rfl
              rotate_left
              ·simp only [Act.put, List.setIfInBounds_toArray, List.set_cons_zero, List.set_cons_succ, i64_w, i32_w]
               rfl
              refine take_ (i := 20) (N := some 105) (v := ?_) (a' := ?_) #[true, true, true, true, true, true, true, true, true, true, true, true, true, true, true, true, true, true, true, true, true, false, false, true, true, true, false, false, false, false, false] rfl rfl (take_ofW HT_.out HW_.out (by kernel_rfl)) (fun _ _ _ h => h) (Or.inl ⟨by rfl, ?_⟩) hHeld ?_ ?_
              rotate_left
              ·rintro w' ⟨s0, s1, s2, s3, s4, s5⟩
               go_simp
               with_reducible rfl
              rotate_left
              ·simp only [Act.put, List.setIfInBounds_toArray, List.set_cons_zero, List.set_cons_succ, i64_w, i32_w]
               rfl
              refine pure_ (i := 21) (N := some 106) (v := ?_) (a' := ?_) #[true, true, true, true, true, true, true, true, true, true, true, true, true, true, true, true, true, true, true, true, true, true, false, true, true, true, false, false, false, false, false] rfl rfl (any_of HT_.out (by kernel_rfl)) (fun _ _ _ h => h) (Or.inl ⟨by rfl, ?_⟩) ?_ ?_
              rotate_left
              ·intro w'
               go_simp
               with_reducible rfl
              rotate_left
              ·simp only [Act.put, List.setIfInBounds_toArray, List.set_cons_zero, List.set_cons_succ, i64_w, i32_w]
               rfl
              refine take_ (i := 22) (N := some 107) (v := ?_) (a' := ?_) #[true, true, true, true, true, true, true, true, true, true, true, true, true, true, true, true, true, true, true, true, true, true, true, true, true, true, false, false, false, false, false] rfl rfl (take_ofW HT_.out HW_.out (by kernel_rfl)) (fun _ _ _ h => h) (Or.inl ⟨by rfl, ?_⟩) hHeld ?_ ?_
              rotate_left
              ·rintro w' ⟨s0, s1, s2, s3, s4, s5⟩
               go_simp
               with_reducible rfl
              rotate_left
              ·simp only [Act.put, List.setIfInBounds_toArray, List.set_cons_zero, List.set_cons_succ, i64_w, i32_w]
               rfl
              refine take_ (i := 26) (N := some 111) (v := ?_) (a' := ?_) #[true, true, true, true, true, true, true, true, true, true, true, true, true, true, true, true, true, true, true, true, true, true, true, true, true, true, true, false, false, false, false] rfl rfl (take_ofW HT_.out HW_.out (by kernel_rfl)) (fun _ _ _ h => h) (Or.inl ⟨by rfl, ?_⟩) hHeld ?_ ?_
              rotate_left
              ·rintro w' ⟨s0, s1, s2, s3, s4, s5⟩
               go_simp
               with_reducible rfl
              rotate_left
              ·simp only [Act.put, List.setIfInBounds_toArray, List.set_cons_zero, List.set_cons_succ, i64_w, i32_w]
               rfl
              refine pure_ (i := 27) (N := some 112) (v := ?_) (a' := ?_) #[true, true, true, true, true, true, true, true, true, true, true, true, true, true, true, true, true, true, true, true, true, true, true, true, true, true, true, true, false, false, false] rfl rfl (any_of HT_.out (by kernel_rfl)) (fun _ _ _ h => h) (Or.inl ⟨by rfl, ?_⟩) ?_ ?_
              rotate_left
              ·intro w'
               go_simp
               with_reducible rfl
              rotate_left
              ·simp only [Act.put, List.setIfInBounds_toArray, List.set_cons_zero, List.set_cons_succ, i64_w, i32_w]
               rfl
              refine take_ (i := 28) (N := some 113) (v := ?_) (a' := ?_) #[true, true, true, true, true, true, true, true, true, true, true, true, true, true, true, true, true, true, true, true, true, true, true, true, true, true, true, true, true, false, false] rfl rfl (take_ofW HT_.out HW_.out (by kernel_rfl)) (fun _ _ _ h => h) (Or.inl ⟨by rfl, ?_⟩) hHeld ?_ ?_
              rotate_left
              ·rintro w' ⟨s0, s1, s2, s3, s4, s5⟩
               go_simp
               with_reducible rfl
              rotate_left
              ·simp only [Act.put, List.setIfInBounds_toArray, List.set_cons_zero, List.set_cons_succ, i64_w, i32_w]
               rfl
              refine pure_ (i := 29) (N := some 114) (v := ?_) (a' := ?_) #[true, true, true, true, true, true, true, true, true, true, true, true, true, true, true, true, true, true, true, true, true, true, true, true, true, true, true, true, true, true, false] rfl rfl (any_of HT_.out (by kernel_rfl)) (fun _ _ _ h => h) (Or.inl ⟨by rfl, ?_⟩) ?_ ?_
              rotate_left
              ·intro w'
               go_simp
               with_reducible rfl
              rotate_left
              ·simp only [Act.put, List.setIfInBounds_toArray, List.set_cons_zero, List.set_cons_succ, i64_w, i32_w]
               rfl
              refine pure_ (i := 30) (N := some 115) (v := ?_) (a' := ?_) #[true, true, true, true, true, true, true, true, true, true, true, true, true, true, true, true, true, true, true, true, true, true, true, true, true, true, true, true, true, true, true] rfl rfl (any_of HT_.out (by kernel_rfl)) (fun _ _ _ h => h) (Or.inl ⟨by rfl, ?_⟩) ?_ ?_
              rotate_left
              ·intro w'
               go_simp
               with_reducible rfl
              rotate_left
              ·simp only [Act.put, List.setIfInBounds_toArray, List.set_cons_zero, List.set_cons_succ, i64_w, i32_w]
               rfl
              refine done_ (done_of HT_.out (by kernel_rfl)) ?_
              try go_wp2
              go_roundg k2
              case measure => have := HJ10.out; have := HK2.out; omega
              case rel => exact ⟨(wrap64 (x10_2 + 1)), (by first | rfl | (simp; done) | (simp [*]; done)), H', ⟨by have := HJ10.out; have := HK2.out; omega⟩, ⟨by (with_reducible repeat (first | apply Kd.N_alloc | apply Kd.N_drewN | apply Kd.N_drew)); exact HO_3.out⟩, ⟨by (with_reducible repeat (first | apply Kd.N_alloc | apply Kd.N_drewN | apply Kd.N_drew)); exact HO_8.out⟩, ⟨by repeat (first | (with_reducible first | exact HB.out | apply below_alloc | apply pw_below_drewN | apply below_drew1) | exact HB.out)⟩⟩
            ·rw [if_neg c50] at H
             exact absurd H (by simp)
           ·rw [if_neg c49] at H
            exact absurd H (by simp)
         ·rw [if_neg c46] at H
          have c46b0 : (((rd_L1 t362 x10_2).length : Int) == 2) = false := beq_eq_false_iff_ne.mpr c46
          have c46b1 : (((rd_L1 t362 x10_2).length : Int) != 2) = true := bne_iff_ne.mpr c46
          exact absurd (H.trans (congrArg some HRT.out)) (by simp)
        ·rw [if_neg c45] at H
         exact absurd H (by simp)
       ·rw [if_neg c44] at H
        have c44b0 : decide (x10_2 < (t362.length : Int)) = false := decide_eq_false c44
        clear c44
        have HC55 := Aside0.mk H
        clear H
        obtain ⟨Ao56, co56, eo56⟩ := Kd.N_slice HO_8.out
        subst eo56
        go_upto_if 118 with (fail)
        go_cut [] (fun wc => ∃ (kq : Nat), Aside0 (laws_FnBaskets.j3 kq t352 (wrap64 (1 + (Int.tmod t355 6))) (wrap64 (1 + (Int.tmod t356 6))) = some r) ∧ Aside0 (kq ≤ k2) ∧ Aside0 (Kd.N k49 49 wc w.heap.size (fun _ => True) (.slice Ao15 t352.length co15) t352) ∧ Aside0 (Below w.heap.size w wc))
        case first => as_aux_lemma =>
         have H := HC55.out
         clear HC55
         by_cases c57 : (wrap64 (1 + (Int.tmod t355 6))) < (wrap64 (1 + (Int.tmod t356 6)))
         ·rw [if_pos c57] at H
          have c57b0 : decide ((wrap64 (1 + (Int.tmod t355 6))) < (wrap64 (1 + (Int.tmod t356 6)))) = true := decide_eq_true c57
          clear c57
          (first | rw [c57b0] | (simp only [i64_w, i32_w]; rw [c57b0]) | skip)
          obtain ⟨y377, hy377⟩ : ∃ y_ : List Int, y_ = (([(wrap64 (1 + (Int.tmod t355 6))), (wrap64 (1 + (Int.tmod t356 6)))] : List Int)) := ⟨_, rfl⟩
          replace H : ((impl_CountWith.f k2 t352 y377).bind fun t380 => (laws_FnBaskets.l1 k2 t352 (wrap64 (1 + (Int.tmod t355 6))) (wrap64 (1 + (Int.tmod t356 6))) t360 (wrap64 (1 + (Int.tmod t361 4))) t362 t380 false 0)) = some r := by first | (rw [hy377]; with_reducible exact H) | (have H2_ := (Option.bind_some _ _).symm.trans H; rw [hy377]; with_reducible exact H2_) | (have H2_ := (Option.bind_some _ _).symm.trans H; with_reducible exact H2_) | with_reducible exact H | (rw [hy377]; exact H) | exact H
          have Ny377 := Aside0.mk hy377
          clear hy377
          replace H := Option.bind_eq_some_iff.mp H
          obtain ⟨t380, A580, H⟩ := H
          replace H : (laws_FnBaskets.l1 k2 t352 (wrap64 (1 + (Int.tmod t355 6))) (wrap64 (1 + (Int.tmod t356 6))) t360 (wrap64 (1 + (Int.tmod t361 4))) t362 t380 false 0) = some r := H
          have A58 := Aside0.mk A580
          clear A580
          have H' := Aside0.mk H
          clear H
          go_wp2_with (first | ((with_reducible refine gate_dst (N := 122) rfl ?_); (try (refine gate_guard (by rfl) ?_; dsimp only)); refine Kd.R_lit (Kd.int .i64) _ 3 ?hg (N := 122) ?hd (xs := ([(wrap64 (1 + (Int.tmod t355 6))), (wrap64 (1 + (Int.tmod t356 6)))] : List Int)) (inner := [.int .i64 (wrap64 (1 + (Int.tmod t355 6))), .int .i64 (wrap64 (1 + (Int.tmod t356 6)))]) (ok := fun _ => True) (okp := fun _ => True) ?hr ?hp (fun _ hk => hk) trivial (Below.refl _ _) (Nat.le_refl _) (by simp) ?_; (case hd => rfl); (case hg => rfl); (case hr => first | (go_simp; done) | (go_simp; rfl)); (case hp => exact (Reps.one (show Kd.M (Kd.int .i64) _ _ _ (wrap64 (1 + (Int.tmod t355 6))) [.int .i64 (wrap64 (1 + (Int.tmod t355 6)))] from rfl) (Reps.one (show Kd.M (Kd.int .i64) _ _ _ (wrap64 (1 + (Int.tmod t356 6))) [.int .i64 (wrap64 (1 + (Int.tmod t356 6)))] from rfl) (Reps.none _ _)))); intro v378 w59 ho60 hb hg_ hnew_; clear hg_ hnew_; (first | rw [← Ny377.out] at ho60 | (simp only [Int.reduceToNat] at ho60; rw [← Ny377.out] at ho60)); have n0_ := Aside0.mk (Kd.N_elder' (by (with_reducible repeat (first | apply Kd.N_alloc | apply Kd.N_drewN | apply Kd.N_drew)); exact HO_3.out) (Kd.R_base ho60) hb); have n1_ := Aside0.mk (Kd.N_elder' (by (with_reducible repeat (first | apply Kd.N_alloc | apply Kd.N_drewN | apply Kd.N_drew)); exact HO_8.out) (Kd.R_base ho60) hb); have n2_ := Aside0.mk (Kd.R_lower ho60 (below_size (by repeat (first | (with_reducible first | exact HB.out | apply below_alloc | apply pw_below_drewN | apply below_drew1) | exact HB.out)))); have n3_ := Aside0.mk (below_step (by repeat (first | (with_reducible first | exact HB.out | apply below_alloc | apply pw_below_drewN | apply below_drew1) | exact HB.out)) hb); clear HO_3 HO_8 HB; have HO_3 := n0_; have HO_8 := n1_; have HO379 := n2_; have HB := n3_; clear n0_ n1_ n2_ n3_; clear hb ho60; obtain ⟨Ao61, co61, eo61⟩ := Kd.R_slice HO379.out; subst eo61) | ((with_reducible refine gate_callee (f := 17) rfl ?_); refine goesL_ (some 123) rfl rfl Try.func17 (by kernel_rfl) rfl #[.slice Ao15 t352.length co15, .slice Ao61 y377.length co61] rfl (by (try simp only [List.map_toArray, List.map_cons, List.map_nil]); first | done | rfl | (simp only [List.length_drop, List.length_take]; rfl)) ?_; (with_reducible refine (impl_CountWith.calls k2 _ _ t352 _ _ y377 t380 _ ?side1 ?side2 ?side3 ?side4 A58.out).mono ?_); (case side1 => repeat (first | exact (Kd.N_reads' HO_3.out).2.2 | (with_reducible refine Kd.C_alloc ?_ _) | (with_reducible refine Kd.C_drewN ?_ _) | (with_reducible refine Kd.C_drew ?_))); (case side2 => exact (Kd.N_reads' HO_3.out).2.1); (case side3 => repeat (first | exact (Kd.R_reads' HO379.out).2.2 | (with_reducible refine Kd.C_alloc ?_ _) | (with_reducible refine Kd.C_drewN ?_ _) | (with_reducible refine Kd.C_drew ?_))); (case side4 => exact (Kd.R_reads' HO379.out).2.1); rintro e w62 ⟨rfl, hb⟩; refine ⟨_, rfl, ?_⟩; have n0_ := Aside0.mk (Kd.N_below (by (with_reducible repeat (first | apply Kd.N_alloc | apply Kd.N_drewN | apply Kd.N_drew)); exact HO_3.out) hb); have n1_ := Aside0.mk (Kd.N_below (by (with_reducible repeat (first | apply Kd.N_alloc | apply Kd.N_drewN | apply Kd.N_drew)); exact HO_8.out) hb); have n2_ := Aside0.mk (Kd.R_below (by (with_reducible repeat (first | apply Kd.R_alloc | apply Kd.R_drewN | apply Kd.R_drew)); exact HO379.out) hb); have n3_ := Aside0.mk (below_step (by repeat (first | (with_reducible first | exact HB.out | apply below_alloc | apply pw_below_drewN | apply below_drew1) | exact HB.out)) hb); clear HO_3 HO_8 HO379 HB; have HO_3 := n0_; have HO_8 := n1_; have HO379 := n2_; have HB := n3_; clear n0_ n1_ n2_ n3_; (try clear hb); (try clear hb2); (try clear hk); (try clear hi)))
          go_loopg [12, 13] k2 (fun kq v12 v13 w' => ∃ (x12_3 : Bool) (x13_3 : Int), v12 = .bool x12_3 ∧ v13 = .int .i64 x13_3 ∧ Aside0 (laws_FnBaskets.l1 kq t352 (wrap64 (1 + (Int.tmod t355 6))) (wrap64 (1 + (Int.tmod t356 6))) t360 (wrap64 (1 + (Int.tmod t361 4))) t362 t380 x12_3 x13_3 = some r) ∧ Aside0 (kq ≤ k2) ∧ Aside0 (Kd.N k49 49 w' w.heap.size (fun k_ => some k_ ≠ ((.slice Ao56 t362.length co56) : Value).ownBlock) (.slice Ao15 t352.length co15) t352) ∧ Aside0 (Kd.N (Kd.slice 3 (Kd.int .i64)) 29 w' w.heap.size (fun k_ => some k_ ≠ ((.slice Ao15 t352.length co15) : Value).ownBlock) (.slice Ao56 t362.length co56) t362) ∧ Aside0 (Below w.heap.size w w'))
          case atStart => exact ⟨(false), (0), (by first | rfl | (simp; done) | (simp [*]; done)), (by first | rfl | (simp; done) | (simp [*]; done)), H', ⟨Nat.le_refl _⟩, ⟨by (with_reducible repeat (first | apply Kd.N_alloc | apply Kd.N_drewN | apply Kd.N_drew)); exact Kd.N_mono HO_3.out (fun _ hk => hk.1)⟩, ⟨by (with_reducible repeat (first | apply Kd.N_alloc | apply Kd.N_drewN | apply Kd.N_drew)); exact Kd.N_mono HO_8.out (fun _ hk => hk.1)⟩, ⟨by repeat (first | (with_reducible first | exact HB.out | apply below_alloc | apply pw_below_drewN | apply below_drew1) | exact HB.out)⟩⟩
          case round => as_aux_lemma =>
           clear H'
           try clear c1
           try clear c2
           try clear p2
           try clear c3
           try clear p3
           try clear q3
           try clear hx3
           try clear qi3
           try clear c4
           try clear c5
           try clear p6
           try clear c9
           try clear c17
           try clear c20
           try clear c20b0
           try clear c21
           try clear c21b0
           try clear c23
           try clear c23b0
           try clear c23b1
           try clear c24
           try clear c24b0
           try clear c24b1
           try clear c26
           try clear c26b0
           try clear c27
           try clear c27b0
           try clear c27b1
           try clear c33
           try clear c34
           try clear c35
           try clear c36
           try clear c36b0
           try clear c36b1
           try clear c37
           try clear p37
           try clear q37
           try clear hx37
           try clear qi37
           try clear c43
           try clear c44
           try clear c44b0
           try clear c45
           try clear c45b0
           try clear c46
           try clear c46b0
           try clear c46b1
           try clear c48
           try clear c48b0
           try clear c49
           try clear c49b0
           try clear c49b1
           try clear c50
           try clear c50b0
           try clear c50b1
           try clear c51
           try clear c51b0
           try clear c57
           try clear c57b0
           try clear hx370_0
           try clear hx371_0
           try clear hx373_0
           try clear hx374_0
           try clear hx375_0
           try clear hx376_0
           try clear p2
           try clear p370
           try clear p371
           try clear p373
           try clear p374
           try clear p375
           try clear p376
           try clear p6
           try clear q370
           try clear q371
           try clear q373
           try clear q374
           try clear q375
           try clear q376
           obtain ⟨x12_3, x13_3, rfl, rfl, HA, HK3, HO_3, HO_8, HB⟩ := hrel
           cases gk with
           | zero => exact absurd HA.out (by simp [laws_FnBaskets.l1])
           | succ k3 =>
            have H := HA.out
            clear HA
            simp only [laws_FnBaskets.l1] at H
            by_cases c63 : x13_3 < (t362.length : Int)
            ·rw [if_pos c63] at H
             have c63b0 : decide (x13_3 < (t362.length : Int)) = true := decide_eq_true c63
             clear c63
             by_cases c64 : x12_3 = true
             ·subst c64
              have H1 : (laws_FnBaskets.l1 k3 t352 (wrap64 (1 + (Int.tmod t355 6))) (wrap64 (1 + (Int.tmod t356 6))) t360 (wrap64 (1 + (Int.tmod t361 4))) t362 t380 true (wrap64 (x13_3 + 1))) = some r := by rw [if_pos rfl] at H; exact H
              clear H
              have H := H1
              clear H1
              have H' := Aside0.mk H
              clear H
              go_wp2
              go_roundg k3
              case measure => have := HJ10.out; have := HK2.out; have := HK3.out; omega
              case rel => exact ⟨(true), (wrap64 (x13_3 + 1)), (by first | rfl | (simp; done) | (simp [*]; done)), (by first | rfl | (simp; done) | (simp [*]; done)), H', ⟨by have := HJ10.out; have := HK2.out; have := HK3.out; omega⟩, ⟨by (with_reducible repeat (first | apply Kd.N_alloc | apply Kd.N_drewN | apply Kd.N_drew)); exact HO_3.out⟩, ⟨by (with_reducible repeat (first | apply Kd.N_alloc | apply Kd.N_drewN | apply Kd.N_drew)); exact HO_8.out⟩, ⟨by repeat (first | (with_reducible first | exact HB.out | apply below_alloc | apply pw_below_drewN | apply below_drew1) | exact HB.out)⟩⟩
             ·replace c64 := Bool.eq_false_iff.mpr c64
              subst c64
              have H1 : (if 0 ≤ x13_3 then ((laws_sameInts.f k3 (rd_L1 t362 x13_3) (([(wrap64 (1 + (Int.tmod t355 6))), (wrap64 (1 + (Int.tmod t356 6)))] : List Int))).bind fun t385 => (laws_FnBaskets.l1 k3 t352 (wrap64 (1 + (Int.tmod t355 6))) (wrap64 (1 + (Int.tmod t356 6))) t360 (wrap64 (1 + (Int.tmod t361 4))) t362 t380 t385 (wrap64 (x13_3 + 1)))) else (none)) = some r := by rw [if_neg (show ¬ (false = true) by decide)] at H; exact H
              clear H
              have H := H1
              clear H1
              by_cases c65 : 0 ≤ x13_3
              ·rw [if_pos c65] at H
               have c65b0 : decide (0 ≤ x13_3) = true := decide_eq_true c65
               clear c65
               obtain ⟨y382, hy382⟩ : ∃ y_ : List Int, y_ = (([(wrap64 (1 + (Int.tmod t355 6))), (wrap64 (1 + (Int.tmod t356 6)))] : List Int)) := ⟨_, rfl⟩
               replace H : ((laws_sameInts.f k3 (rd_L1 t362 x13_3) y382).bind fun t385 => (laws_FnBaskets.l1 k3 t352 (wrap64 (1 + (Int.tmod t355 6))) (wrap64 (1 + (Int.tmod t356 6))) t360 (wrap64 (1 + (Int.tmod t361 4))) t362 t380 t385 (wrap64 (x13_3 + 1)))) = some r := by first | (rw [hy382]; with_reducible exact H) | (have H2_ := (Option.bind_some _ _).symm.trans H; rw [hy382]; with_reducible exact H2_) | (have H2_ := (Option.bind_some _ _).symm.trans H; with_reducible exact H2_) | with_reducible exact H | (rw [hy382]; exact H) | exact H
               have Ny382 := Aside0.mk hy382
               clear hy382
               replace H := Option.bind_eq_some_iff.mp H
               obtain ⟨t385, A660, H⟩ := H
               replace H : (laws_FnBaskets.l1 k3 t352 (wrap64 (1 + (Int.tmod t355 6))) (wrap64 (1 + (Int.tmod t356 6))) t360 (wrap64 (1 + (Int.tmod t361 4))) t362 t380 t385 (wrap64 (x13_3 + 1))) = some r := H
               have A66 := Aside0.mk A660
               clear A660
               have H' := Aside0.mk H
               clear H
               have p381 : 0 ≤ (x13_3 : Int) := of_decide_eq_true (by first | (with_reducible assumption) | assumption)
               have q381 : x13_3 < (t362.length : Int) := of_decide_eq_true (by first | (with_reducible assumption) | assumption)
               obtain ⟨ad381, A381_0, c381_0, e381, hx381_0, hl381_0, hi381_0⟩ := at_L1 (Kd.N_reads' HO_8.out).2.2 x13_3 p381 q381
               cases e381
               obtain ⟨ce381, hce381, hMe381, hcc381⟩ := Kd.N_get HO_8.out [] x13_3 p381 (by first | exact q381 | exact of_decide_eq_true (by first | (with_reducible assumption) | assumption) | (have e_ := (Kd.N_reads' HO_8.out).1; omega))
               obtain ⟨ua381_0, uc381_0, rfl, ul381_0, ge381_0⟩ := Kd.FK_slice_open hMe381
               have hv381_0 := hcc381 0 _ rfl
               rw [Nat.add_zero, show ((Kd.slice 3 (Kd.int .i64))).sz = 1 from rfl, Nat.mul_one] at hv381_0
               replace hv381_0 := Option.some.inj (hv381_0.symm.trans hx381_0)
               injection hv381_0 with hva_ hvn_ hvc_
               rw [hva_] at ge381_0
               rw [hvc_] at ul381_0
               have HL381_0 := Aside0.mk (show Kd.V (Kd.int .i64) 3 _ w.heap.size _ _ (rd_L1 t362 x13_3) from Kd.V_mk ul381_0 ge381_0)
               clear hva_ hvn_ hvc_ ge381_0 ul381_0
               clear hcc381 hce381
               have HR381_0 := Aside0.mk hi381_0
               have HC381_0 := Aside0.mk hl381_0
               clear hi381_0 hl381_0
               replace p381 := eq_true p381
               replace q381 := eq_true q381
               go_wp2_with (first | ((with_reducible refine gate_dst (N := 138) rfl ?_); (try (refine gate_guard (by rfl) ?_; dsimp only)); refine Kd.R_lit (Kd.int .i64) _ 3 ?hg (N := 138) ?hd (xs := ([(wrap64 (1 + (Int.tmod t355 6))), (wrap64 (1 + (Int.tmod t356 6)))] : List Int)) (inner := [.int .i64 (wrap64 (1 + (Int.tmod t355 6))), .int .i64 (wrap64 (1 + (Int.tmod t356 6)))]) (ok := fun _ => True) (okp := fun _ => True) ?hr ?hp (fun _ hk => hk) trivial (Below.refl _ _) (Nat.le_refl _) (by simp) ?_; (case hd => rfl); (case hg => rfl); (case hr => first | (go_simp; done) | (go_simp; rfl)); (case hp => exact (Reps.one (show Kd.M (Kd.int .i64) _ _ _ (wrap64 (1 + (Int.tmod t355 6))) [.int .i64 (wrap64 (1 + (Int.tmod t355 6)))] from rfl) (Reps.one (show Kd.M (Kd.int .i64) _ _ _ (wrap64 (1 + (Int.tmod t356 6))) [.int .i64 (wrap64 (1 + (Int.tmod t356 6)))] from rfl) (Reps.none _ _)))); intro v383 w67 ho68 hb hg_ hnew_; clear hg_ hnew_; (first | rw [← Ny382.out] at ho68 | (simp only [Int.reduceToNat] at ho68; rw [← Ny382.out] at ho68)); have n0_ := Aside0.mk (Kd.N_elder' (by (with_reducible repeat (first | apply Kd.N_alloc | apply Kd.N_drewN | apply Kd.N_drew)); exact HO_3.out) (Kd.R_base ho68) hb); have n1_ := Aside0.mk (Kd.N_elder' (by (with_reducible repeat (first | apply Kd.N_alloc | apply Kd.N_drewN | apply Kd.N_drew)); exact HO_8.out) (Kd.R_base ho68) hb); have n2_ := Aside0.mk (Kd.V_elder' (by (with_reducible repeat (first | apply Kd.V_alloc | apply Kd.V_drewN | apply Kd.V_drew)); exact HL381_0.out) (Kd.R_base ho68) hb); have n3_ := Aside0.mk (Kd.R_lower ho68 (below_size (by repeat (first | (with_reducible first | exact HB.out | apply below_alloc | apply pw_below_drewN | apply below_drew1) | exact HB.out)))); have n4_ := Aside0.mk (Kd.C_below (by repeat (first | (with_reducible exact HR381_0.out) | (with_reducible refine Kd.C_alloc ?_ _) | (with_reducible refine Kd.C_drewN ?_ _) | (with_reducible refine Kd.C_drew ?_) | exact HR381_0.out)) hb); have n5_ := Aside0.mk (below_step (by repeat (first | (with_reducible first | exact HB.out | apply below_alloc | apply pw_below_drewN | apply below_drew1) | exact HB.out)) hb); clear HO_3 HO_8 HL381_0 HR381_0 HB; have HO_3 := n0_; have HO_8 := n1_; have HL381_0 := n2_; have HO384 := n3_; have HR381_0 := n4_; have HB := n5_; clear n0_ n1_ n2_ n3_ n4_ n5_; clear hb ho68; obtain ⟨Ao69, co69, eo69⟩ := Kd.R_slice HO384.out; subst eo69) | (go_at_call 36; (with_reducible refine (laws_sameInts.calls k3 _ _ (rd_L1 t362 x13_3) _ _ y382 t385 _ ?side1 ?side2 ?side3 ?side4 A66.out).mono ?_); (case side1 => repeat (first | exact (by repeat (first | (with_reducible exact HR381_0.out) | (with_reducible refine Kd.C_alloc ?_ _) | (with_reducible refine Kd.C_drewN ?_ _) | (with_reducible refine Kd.C_drew ?_) | exact HR381_0.out)) | (with_reducible refine Kd.C_alloc ?_ _) | (with_reducible refine Kd.C_drewN ?_ _) | (with_reducible refine Kd.C_drew ?_))); (case side2 => exact HC381_0.out); (case side3 => repeat (first | exact (Kd.R_reads' HO384.out).2.2 | (with_reducible refine Kd.C_alloc ?_ _) | (with_reducible refine Kd.C_drewN ?_ _) | (with_reducible refine Kd.C_drew ?_))); (case side4 => exact (Kd.R_reads' HO384.out).2.1); rintro e w' ⟨rfl, ⟨nd, rfl⟩⟩))
               go_roundg k3
               case measure => have := HJ10.out; have := HK2.out; have := HK3.out; omega
               case rel => exact ⟨(t385), (wrap64 (x13_3 + 1)), (by first | rfl | (simp; done) | (simp [*]; done)), (by first | rfl | (simp; done) | (simp [*]; done)), H', ⟨by have := HJ10.out; have := HK2.out; have := HK3.out; omega⟩, ⟨by (with_reducible repeat (first | apply Kd.N_alloc | apply Kd.N_drewN | apply Kd.N_drew)); exact Kd.N_mono HO_3.out (fun _ hk => hk.1)⟩, ⟨by (with_reducible repeat (first | apply Kd.N_alloc | apply Kd.N_drewN | apply Kd.N_drew)); exact Kd.N_mono HO_8.out (fun _ hk => hk.1)⟩, ⟨by repeat (first | (with_reducible first | exact HB.out | apply below_alloc | apply pw_below_drewN | apply below_drew1) | exact HB.out)⟩⟩
              ·rw [if_neg c65] at H
               exact absurd H (by simp)
            ·rw [if_neg c63] at H
             have c63b0 : decide (x13_3 < (t362.length : Int)) = false := decide_eq_false c63
             clear c63
             by_cases c70 : t380 > t360
             ·rw [if_pos c70] at H
              have c70b0 : decide (t360 < t380) = true := decide_eq_true c70
              clear c70
              exact absurd (H.trans (congrArg some HRT.out)) (by simp)
             ·rw [if_neg c70] at H
              have c70b0 : decide (t360 < t380) = false := decide_eq_false c70
              clear c70
              obtain ⟨y386, hy386⟩ : ∃ y_ : List Int, y_ = (([(wrap64 (1 + (Int.tmod t356 6)))] : List Int)) := ⟨_, rfl⟩
              replace H : ((impl_CountWith.f k3 t352 y386).bind fun t389 => (if t380 > t389 then (some false) else (if (x12_3 != (decide (t380 ≥ (wrap64 (1 + (Int.tmod t361 4)))))) = true then (some false) else (if t360 > 0 then (if t360 = 0 then (none) else ((impl_FollowsFrom.f k3 t352 (wrap64 (1 + (Int.tmod t355 6))) (wrap64 (1 + (Int.tmod t356 6))) (wrap64 (Int.tdiv (wrap64 (100 * t380)) t360))).bind fun t390 => (if t390 = true then ((impl_FollowsFrom.f k3 t352 (wrap64 (1 + (Int.tmod t355 6))) (wrap64 (1 + (Int.tmod t356 6))) 100).bind fun t391 => (if (t391 != (t380 == t360)) = true then (some false) else (laws_FnBaskets.j3 k3 t352 (wrap64 (1 + (Int.tmod t355 6))) (wrap64 (1 + (Int.tmod t356 6)))))) else (some false)))) else (laws_FnBaskets.j3 k3 t352 (wrap64 (1 + (Int.tmod t355 6))) (wrap64 (1 + (Int.tmod t356 6)))))))) = some r := by first | (rw [hy386]; with_reducible exact H) | (have H2_ := (Option.bind_some _ _).symm.trans H; rw [hy386]; with_reducible exact H2_) | (have H2_ := (Option.bind_some _ _).symm.trans H; with_reducible exact H2_) | with_reducible exact H | (rw [hy386]; exact H) | exact H
              have Ny386 := Aside0.mk hy386
              clear hy386
              replace H := Option.bind_eq_some_iff.mp H
              obtain ⟨t389, A710, H⟩ := H
              replace H : (if t380 > t389 then (some false) else (if (x12_3 != (decide (t380 ≥ (wrap64 (1 + (Int.tmod t361 4)))))) = true then (some false) else (if t360 > 0 then (if t360 = 0 then (none) else ((impl_FollowsFrom.f k3 t352 (wrap64 (1 + (Int.tmod t355 6))) (wrap64 (1 + (Int.tmod t356 6))) (wrap64 (Int.tdiv (wrap64 (100 * t380)) t360))).bind fun t390 => (if t390 = true then ((impl_FollowsFrom.f k3 t352 (wrap64 (1 + (Int.tmod t355 6))) (wrap64 (1 + (Int.tmod t356 6))) 100).bind fun t391 => (if (t391 != (t380 == t360)) = true then (some false) else (laws_FnBaskets.j3 k3 t352 (wrap64 (1 + (Int.tmod t355 6))) (wrap64 (1 + (Int.tmod t356 6)))))) else (some false)))) else (laws_FnBaskets.j3 k3 t352 (wrap64 (1 + (Int.tmod t355 6))) (wrap64 (1 + (Int.tmod t356 6))))))) = some r := H
              have A71 := Aside0.mk A710
              clear A710
              by_cases c72 : t380 > t389
              ·rw [if_pos c72] at H
               have c72b0 : decide (t389 < t380) = true := decide_eq_true c72
               clear c72
               exact absurd (H.trans (congrArg some HRT.out)) (by simp)
              ·rw [if_neg c72] at H
               have c72b0 : decide (t389 < t380) = false := decide_eq_false c72
               clear c72
               by_cases c73 : (x12_3 != (decide (t380 ≥ (wrap64 (1 + (Int.tmod t361 4)))))) = true
               ·rw [if_pos c73] at H
                have c73b0 : (x12_3 != (decide (t380 ≥ (wrap64 (1 + (Int.tmod t361 4)))))) = true := c73
                (try (have c73b1 : decide (x12_3 = (decide (t380 ≥ (wrap64 (1 + (Int.tmod t361 4)))))) = false := by simpa using c73))
                (try (have c73b2 : (x12_3 == (decide (t380 ≥ (wrap64 (1 + (Int.tmod t361 4)))))) = false := by simpa using c73))
                (try (have c73b3 : ¬ (x12_3 = (decide (t380 ≥ (wrap64 (1 + (Int.tmod t361 4)))))) := by simpa using c73))
                clear c73
                exact absurd (H.trans (congrArg some HRT.out)) (by simp)
               ·rw [if_neg c73] at H
                have c73b0 : (x12_3 != (decide (t380 ≥ (wrap64 (1 + (Int.tmod t361 4)))))) = false := by simpa using c73
                (try (have c73b1 : decide (x12_3 = (decide (t380 ≥ (wrap64 (1 + (Int.tmod t361 4)))))) = true := by simpa using c73))
                (try (have c73b2 : (x12_3 == (decide (t380 ≥ (wrap64 (1 + (Int.tmod t361 4)))))) = true := by simpa using c73))
                clear c73
                by_cases c74 : t360 > 0
                ·rw [if_pos c74] at H
                 have c74b0 : decide (0 < t360) = true := decide_eq_true c74
                 clear c74
                 by_cases c75 : t360 = 0
                 ·rw [if_pos c75] at H
                  exact absurd H (by simp)
                 ·rw [if_neg c75] at H
                  have c75b0 : (t360 == 0) = false := beq_eq_false_iff_ne.mpr c75
                  have c75b1 : (t360 != 0) = true := bne_iff_ne.mpr c75
                  replace H := Option.bind_eq_some_iff.mp H
                  obtain ⟨t390, A760, H⟩ := H
                  replace H : (if t390 = true then ((impl_FollowsFrom.f k3 t352 (wrap64 (1 + (Int.tmod t355 6))) (wrap64 (1 + (Int.tmod t356 6))) 100).bind fun t391 => (if (t391 != (t380 == t360)) = true then (some false) else (laws_FnBaskets.j3 k3 t352 (wrap64 (1 + (Int.tmod t355 6))) (wrap64 (1 + (Int.tmod t356 6)))))) else (some false)) = some r := H
                  have A76 := Aside0.mk A760
                  clear A760
                  by_cases c77 : t390 = true
                  ·subst c77
                   have H1 : ((impl_FollowsFrom.f k3 t352 (wrap64 (1 + (Int.tmod t355 6))) (wrap64 (1 + (Int.tmod t356 6))) 100).bind fun t391 => (if (t391 != (t380 == t360)) = true then (some false) else (laws_FnBaskets.j3 k3 t352 (wrap64 (1 + (Int.tmod t355 6))) (wrap64 (1 + (Int.tmod t356 6)))))) = some r := by rw [if_pos rfl] at H; exact H
                   clear H
                   have H := H1
                   clear H1
                   replace H := Option.bind_eq_some_iff.mp H
                   obtain ⟨t391, A780, H⟩ := H
                   replace H : (if (t391 != (t380 == t360)) = true then (some false) else (laws_FnBaskets.j3 k3 t352 (wrap64 (1 + (Int.tmod t355 6))) (wrap64 (1 + (Int.tmod t356 6))))) = some r := H
                   have A78 := Aside0.mk A780
                   clear A780
                   by_cases c79 : (t391 != (t380 == t360)) = true
                   ·rw [if_pos c79] at H
                    have c79b0 : (t391 != (t380 == t360)) = true := c79
                    (try (have c79b1 : decide (t391 = (t380 == t360)) = false := by simpa using c79))
                    (try (have c79b2 : (t391 == (t380 == t360)) = false := by simpa using c79))
                    (try (have c79b3 : ¬ (t391 = (t380 == t360)) := by simpa using c79))
                    clear c79
                    exact absurd (H.trans (congrArg some HRT.out)) (by simp)
                   ·rw [if_neg c79] at H
                    have c79b0 : (t391 != (t380 == t360)) = false := by simpa using c79
                    (try (have c79b1 : decide (t391 = (t380 == t360)) = true := by simpa using c79))
                    (try (have c79b2 : (t391 == (t380 == t360)) = true := by simpa using c79))
                    clear c79
                    have H' := Aside0.mk H
                    clear H
                    go_wp2_with (first | ((with_reducible refine gate_dst (N := 148) rfl ?_); (try (refine gate_guard (by rfl) ?_; dsimp only)); refine Kd.R_lit (Kd.int .i64) _ 3 ?hg (N := 148) ?hd (xs := ([(wrap64 (1 + (Int.tmod t356 6)))] : List Int)) (inner := [.int .i64 (wrap64 (1 + (Int.tmod t356 6)))]) (ok := fun _ => True) (okp := fun _ => True) ?hr ?hp (fun _ hk => hk) trivial (Below.refl _ _) (Nat.le_refl _) (by simp) ?_; (case hd => rfl); (case hg => rfl); (case hr => first | (go_simp; done) | (go_simp; rfl)); (case hp => exact (Reps.one (show Kd.M (Kd.int .i64) _ _ _ (wrap64 (1 + (Int.tmod t356 6))) [.int .i64 (wrap64 (1 + (Int.tmod t356 6)))] from rfl) (Reps.none _ _))); intro v387 w80 ho81 hb hg_ hnew_; clear hg_ hnew_; (first | rw [← Ny386.out] at ho81 | (simp only [Int.reduceToNat] at ho81; rw [← Ny386.out] at ho81)); have n0_ := Aside0.mk (Kd.N_elder' (by (with_reducible repeat (first | apply Kd.N_alloc | apply Kd.N_drewN | apply Kd.N_drew)); exact HO_3.out) (Kd.R_base ho81) hb); have n1_ := Aside0.mk (Kd.N_elder' (by (with_reducible repeat (first | apply Kd.N_alloc | apply Kd.N_drewN | apply Kd.N_drew)); exact HO_8.out) (Kd.R_base ho81) hb); have n2_ := Aside0.mk (Kd.R_lower ho81 (below_size (by repeat (first | (with_reducible first | exact HB.out | apply below_alloc | apply pw_below_drewN | apply below_drew1) | exact HB.out)))); have n3_ := Aside0.mk (below_step (by repeat (first | (with_reducible first | exact HB.out | apply below_alloc | apply pw_below_drewN | apply below_drew1) | exact HB.out)) hb); clear HO_3 HO_8 HB; have HO_3 := n0_; have HO_8 := n1_; have HO388 := n2_; have HB := n3_; clear n0_ n1_ n2_ n3_; clear hb ho81; obtain ⟨Ao82, co82, eo82⟩ := Kd.R_slice HO388.out; subst eo82) | (go_at_call 17; (with_reducible refine (impl_CountWith.calls k3 _ _ t352 _ _ y386 t389 _ ?side1 ?side2 ?side3 ?side4 A71.out).mono ?_); (case side1 => repeat (first | exact (Kd.N_reads' HO_3.out).2.2 | (with_reducible refine Kd.C_alloc ?_ _) | (with_reducible refine Kd.C_drewN ?_ _) | (with_reducible refine Kd.C_drew ?_))); (case side2 => exact (Kd.N_reads' HO_3.out).2.1); (case side3 => repeat (first | exact (Kd.R_reads' HO388.out).2.2 | (with_reducible refine Kd.C_alloc ?_ _) | (with_reducible refine Kd.C_drewN ?_ _) | (with_reducible refine Kd.C_drew ?_))); (case side4 => exact (Kd.R_reads' HO388.out).2.1); rintro e w83 ⟨rfl, hb⟩; have n0_ := Aside0.mk (Kd.N_below (by (with_reducible repeat (first | apply Kd.N_alloc | apply Kd.N_drewN | apply Kd.N_drew)); exact HO_3.out) hb); have n1_ := Aside0.mk (Kd.N_below (by (with_reducible repeat (first | apply Kd.N_alloc | apply Kd.N_drewN | apply Kd.N_drew)); exact HO_8.out) hb); have n2_ := Aside0.mk (Kd.R_below (by (with_reducible repeat (first | apply Kd.R_alloc | apply Kd.R_drewN | apply Kd.R_drew)); exact HO388.out) hb); have n3_ := Aside0.mk (below_step (by repeat (first | (with_reducible first | exact HB.out | apply below_alloc | apply pw_below_drewN | apply below_drew1) | exact HB.out)) hb); clear HO_3 HO_8 HO388 HB; have HO_3 := n0_; have HO_8 := n1_; have HO388 := n2_; have HB := n3_; clear n0_ n1_ n2_ n3_; (try clear hb); (try clear hb2); (try clear hk); (try clear hi)) | (go_at_call 30; (with_reducible refine (impl_FollowsFrom.calls k3 _ _ t352 (wrap64 (1 + (Int.tmod t355 6))) (wrap64 (1 + (Int.tmod t356 6))) (wrap64 (Int.tdiv (wrap64 (100 * t380)) t360)) true _ ?side1 ?side2 A76.out).mono ?_); (case side1 => repeat (first | exact (Kd.N_reads' HO_3.out).2.2 | (with_reducible refine Kd.C_alloc ?_ _) | (with_reducible refine Kd.C_drewN ?_ _) | (with_reducible refine Kd.C_drew ?_))); (case side2 => exact (Kd.N_reads' HO_3.out).2.1); rintro e w84 ⟨rfl, hb⟩; have n0_ := Aside0.mk (Kd.N_below (by (with_reducible repeat (first | apply Kd.N_alloc | apply Kd.N_drewN | apply Kd.N_drew)); exact HO_3.out) hb); have n1_ := Aside0.mk (Kd.N_below (by (with_reducible repeat (first | apply Kd.N_alloc | apply Kd.N_drewN | apply Kd.N_drew)); exact HO_8.out) hb); have n2_ := Aside0.mk (Kd.R_below (by (with_reducible repeat (first | apply Kd.R_alloc | apply Kd.R_drewN | apply Kd.R_drew)); exact HO388.out) hb); have n3_ := Aside0.mk (below_step (by repeat (first | (with_reducible first | exact HB.out | apply below_alloc | apply pw_below_drewN | apply below_drew1) | exact HB.out)) hb); clear HO_3 HO_8 HO388 HB; have HO_3 := n0_; have HO_8 := n1_; have HO388 := n2_; have HB := n3_; clear n0_ n1_ n2_ n3_; (try clear hb); (try clear hb2); (try clear hk); (try clear hi)) | (go_at_call 30; (with_reducible refine (impl_FollowsFrom.calls k3 _ _ t352 (wrap64 (1 + (Int.tmod t355 6))) (wrap64 (1 + (Int.tmod t356 6))) 100 t391 _ ?side1 ?side2 A78.out).mono ?_); (case side1 => repeat (first | exact (Kd.N_reads' HO_3.out).2.2 | (with_reducible refine Kd.C_alloc ?_ _) | (with_reducible refine Kd.C_drewN ?_ _) | (with_reducible refine Kd.C_drew ?_))); (case side2 => exact (Kd.N_reads' HO_3.out).2.1); rintro e w85 ⟨rfl, hb⟩; have n0_ := Aside0.mk (Kd.N_below (by (with_reducible repeat (first | apply Kd.N_alloc | apply Kd.N_drewN | apply Kd.N_drew)); exact HO_3.out) hb); have n1_ := Aside0.mk (Kd.N_below (by (with_reducible repeat (first | apply Kd.N_alloc | apply Kd.N_drewN | apply Kd.N_drew)); exact HO_8.out) hb); have n2_ := Aside0.mk (Kd.R_below (by (with_reducible repeat (first | apply Kd.R_alloc | apply Kd.R_drewN | apply Kd.R_drew)); exact HO388.out) hb); have n3_ := Aside0.mk (below_step (by repeat (first | (with_reducible first | exact HB.out | apply below_alloc | apply pw_below_drewN | apply below_drew1) | exact HB.out)) hb); clear HO_3 HO_8 HO388 HB; have HO_3 := n0_; have HO_8 := n1_; have HO388 := n2_; have HB := n3_; clear n0_ n1_ n2_ n3_; (try clear hb); (try clear hb2); (try clear hk); (try clear hi)))
                    go_meet
                    case rel => exact ⟨_, H', ⟨by have := HJ10.out; have := HK2.out; have := HK3.out; first | omega | exact Nat.le_refl _⟩, ⟨by (with_reducible repeat (first | apply Kd.N_alloc | apply Kd.N_drewN | apply Kd.N_drew)); exact Kd.N_mono HO_3.out (fun _ hk => trivial)⟩, ⟨by repeat (first | (with_reducible first | exact HB.out | apply below_alloc | apply pw_below_drewN | apply below_drew1) | exact HB.out)⟩⟩
                  ·replace c77 := Bool.eq_false_iff.mpr c77
                   subst c77
                   have H1 : (some false) = some r := by rw [if_neg (show ¬ (false = true) by decide)] at H; exact H
                   clear H
                   have H := H1
                   clear H1
                   exact absurd (H.trans (congrArg some HRT.out)) (by simp)
                ·rw [if_neg c74] at H
                 have c74b0 : decide (0 < t360) = false := decide_eq_false c74
                 clear c74
                 have H' := Aside0.mk H
                 clear H
                 go_wp2_with (first | ((with_reducible refine gate_dst (N := 148) rfl ?_); (try (refine gate_guard (by rfl) ?_; dsimp only)); refine Kd.R_lit (Kd.int .i64) _ 3 ?hg (N := 148) ?hd (xs := ([(wrap64 (1 + (Int.tmod t356 6)))] : List Int)) (inner := [.int .i64 (wrap64 (1 + (Int.tmod t356 6)))]) (ok := fun _ => True) (okp := fun _ => True) ?hr ?hp (fun _ hk => hk) trivial (Below.refl _ _) (Nat.le_refl _) (by simp) ?_; (case hd => rfl); (case hg => rfl); (case hr => first | (go_simp; done) | (go_simp; rfl)); (case hp => exact (Reps.one (show Kd.M (Kd.int .i64) _ _ _ (wrap64 (1 + (Int.tmod t356 6))) [.int .i64 (wrap64 (1 + (Int.tmod t356 6)))] from rfl) (Reps.none _ _))); intro v387 w86 ho87 hb hg_ hnew_; clear hg_ hnew_; (first | rw [← Ny386.out] at ho87 | (simp only [Int.reduceToNat] at ho87; rw [← Ny386.out] at ho87)); have n0_ := Aside0.mk (Kd.N_elder' (by (with_reducible repeat (first | apply Kd.N_alloc | apply Kd.N_drewN | apply Kd.N_drew)); exact HO_3.out) (Kd.R_base ho87) hb); have n1_ := Aside0.mk (Kd.N_elder' (by (with_reducible repeat (first | apply Kd.N_alloc | apply Kd.N_drewN | apply Kd.N_drew)); exact HO_8.out) (Kd.R_base ho87) hb); have n2_ := Aside0.mk (Kd.R_lower ho87 (below_size (by repeat (first | (with_reducible first | exact HB.out | apply below_alloc | apply pw_below_drewN | apply below_drew1) | exact HB.out)))); have n3_ := Aside0.mk (below_step (by repeat (first | (with_reducible first | exact HB.out | apply below_alloc | apply pw_below_drewN | apply below_drew1) | exact HB.out)) hb); clear HO_3 HO_8 HB; have HO_3 := n0_; have HO_8 := n1_; have HO388 := n2_; have HB := n3_; clear n0_ n1_ n2_ n3_; clear hb ho87; obtain ⟨Ao88, co88, eo88⟩ := Kd.R_slice HO388.out; subst eo88) | (go_at_call 17; (with_reducible refine (impl_CountWith.calls k3 _ _ t352 _ _ y386 t389 _ ?side1 ?side2 ?side3 ?side4 A71.out).mono ?_); (case side1 => repeat (first | exact (Kd.N_reads' HO_3.out).2.2 | (with_reducible refine Kd.C_alloc ?_ _) | (with_reducible refine Kd.C_drewN ?_ _) | (with_reducible refine Kd.C_drew ?_))); (case side2 => exact (Kd.N_reads' HO_3.out).2.1); (case side3 => repeat (first | exact (Kd.R_reads' HO388.out).2.2 | (with_reducible refine Kd.C_alloc ?_ _) | (with_reducible refine Kd.C_drewN ?_ _) | (with_reducible refine Kd.C_drew ?_))); (case side4 => exact (Kd.R_reads' HO388.out).2.1); rintro e w89 ⟨rfl, hb⟩; have n0_ := Aside0.mk (Kd.N_below (by (with_reducible repeat (first | apply Kd.N_alloc | apply Kd.N_drewN | apply Kd.N_drew)); exact HO_3.out) hb); have n1_ := Aside0.mk (Kd.N_below (by (with_reducible repeat (first | apply Kd.N_alloc | apply Kd.N_drewN | apply Kd.N_drew)); exact HO_8.out) hb); have n2_ := Aside0.mk (Kd.R_below (by (with_reducible repeat (first | apply Kd.R_alloc | apply Kd.R_drewN | apply Kd.R_drew)); exact HO388.out) hb); have n3_ := Aside0.mk (below_step (by repeat (first | (with_reducible first | exact HB.out | apply below_alloc | apply pw_below_drewN | apply below_drew1) | exact HB.out)) hb); clear HO_3 HO_8 HO388 HB; have HO_3 := n0_; have HO_8 := n1_; have HO388 := n2_; have HB := n3_; clear n0_ n1_ n2_ n3_; (try clear hb); (try clear hb2); (try clear hk); (try clear hi)))
                 go_meet
                 case rel => exact ⟨_, H', ⟨by have := HJ10.out; have := HK2.out; have := HK3.out; first | omega | exact Nat.le_refl _⟩, ⟨by (with_reducible repeat (first | apply Kd.N_alloc | apply Kd.N_drewN | apply Kd.N_drew)); exact Kd.N_mono HO_3.out (fun _ hk => trivial)⟩, ⟨by repeat (first | (with_reducible first | exact HB.out | apply below_alloc | apply pw_below_drewN | apply below_drew1) | exact HB.out)⟩⟩
         ·rw [if_neg c57] at H
          have c57b0 : decide ((wrap64 (1 + (Int.tmod t355 6))) < (wrap64 (1 + (Int.tmod t356 6)))) = false := decide_eq_false c57
          clear c57
          (first | rw [c57b0] | (simp only [i64_w, i32_w]; rw [c57b0]) | skip)
          have H' := Aside0.mk H
          clear H
          go_wp2
          go_meet
          case rel => exact ⟨_, H', ⟨by have := HJ10.out; have := HK2.out; first | omega | exact Nat.le_refl _⟩, ⟨by (with_reducible repeat (first | apply Kd.N_alloc | apply Kd.N_drewN | apply Kd.N_drew)); exact Kd.N_mono HO_3.out (fun _ hk => trivial)⟩, ⟨by repeat (first | (with_reducible first | exact HB.out | apply below_alloc | apply pw_below_drewN | apply below_drew1) | exact HB.out)⟩⟩
        case rest => as_aux_lemma =>
         clear HC55
         try clear c1
         try clear c2
         try clear p2
         try clear c3
         try clear p3
         try clear q3
         try clear hx3
         try clear qi3
         try clear c4
         try clear c5
         try clear c6
         try clear p6
         try clear c7
         try clear c9
         try clear c17
         try clear c20
         try clear c20b0
         try clear c21
         try clear c21b0
         try clear c23
         try clear c23b0
         try clear c23b1
         try clear c24
         try clear c24b0
         try clear c24b1
         try clear c26
         try clear c26b0
         try clear c27
         try clear c27b0
         try clear c27b1
         try clear c33
         try clear c34
         try clear c35
         try clear c36
         try clear c36b0
         try clear c36b1
         try clear c37
         try clear p37
         try clear q37
         try clear hx37
         try clear qi37
         try clear c38
         try clear p38
         try clear q38
         try clear hx38
         try clear c43
         try clear c44
         try clear c44b0
         try clear c45
         try clear c45b0
         try clear c46
         try clear c46b0
         try clear c46b1
         try clear c48
         try clear c48b0
         try clear c49
         try clear c49b0
         try clear c49b1
         try clear c50
         try clear c50b0
         try clear c50b1
         try clear c51
         try clear c51b0
         try clear c57
         try clear c57b0
         try clear c63
         try clear c63b0
         try clear c64
         try clear p64
         try clear c65
         try clear c65b0
         try clear c70
         try clear c70b0
         try clear c72
         try clear c72b0
         try clear c73
         try clear c73b0
         try clear c73b1
         try clear c73b2
         try clear c74
         try clear c74b0
         try clear c75
         try clear c75b0
         try clear c75b1
         try clear c77
         try clear c79
         try clear c79b0
         try clear c79b1
         try clear c79b2
         try clear hx370_0
         try clear hx371_0
         try clear hx373_0
         try clear hx374_0
         try clear hx375_0
         try clear hx376_0
         try clear hx381_0
         try clear p2
         try clear p3
         try clear p37
         try clear p370
         try clear p371
         try clear p373
         try clear p374
         try clear p375
         try clear p376
         try clear p381
         try clear p6
         try clear q3
         try clear q37
         try clear q370
         try clear q371
         try clear q373
         try clear q374
         try clear q375
         try clear q376
         try clear q381
         obtain ⟨kq, HA, HJ54, HO_3, HB⟩ := hcut
         cases kq with
         | zero => exact absurd HA.out (by simp [laws_FnBaskets.j3])
         | succ kj54 =>
          have H := HA.out
          clear HA
          simp only [laws_FnBaskets.j3] at H
          obtain ⟨y392, hy392⟩ : ∃ y_ : List Int, y_ = (([(wrap64 (1 + (Int.tmod t355 6)))] : List Int)) := ⟨_, rfl⟩
          replace H : ((impl_NextThing.f kj54 t352 y392).bind fun t395 => (if t395 > 0 then ((some (([mn (wrap64 (1 + (Int.tmod t355 6))) t395, mx (wrap64 (1 + (Int.tmod t355 6))) t395] : List Int) : List Int)).bind fun y396 => (if t395 = (wrap64 (1 + (Int.tmod t355 6))) then (laws_FnBaskets.j4 kj54 t352 (wrap64 (1 + (Int.tmod t355 6))) (wrap64 (1 + (Int.tmod t356 6))) y396 true) else ((impl_CountWith.f kj54 t352 y396).bind fun t399 => (laws_FnBaskets.j4 kj54 t352 (wrap64 (1 + (Int.tmod t355 6))) (wrap64 (1 + (Int.tmod t356 6))) y396 (decide (t399 < 1)))))) else ((impl_BasketsOk.f kj54 t352).bind fun t416 => (if t416 = true then ((impl_CountWith.f kj54 (([(⟨(([1, 4] : List Int))⟩ : S49)] : List (S49))) (([4] : List Int))).bind fun t426 => (some (t426 == 1))) else (some false))))) = some r := by first | (rw [hy392]; with_reducible exact H) | (have H2_ := (Option.bind_some _ _).symm.trans H; rw [hy392]; with_reducible exact H2_) | (have H2_ := (Option.bind_some _ _).symm.trans H; with_reducible exact H2_) | with_reducible exact H | (rw [hy392]; exact H) | exact H
          have Ny392 := Aside0.mk hy392
          clear hy392
          replace H := Option.bind_eq_some_iff.mp H
          obtain ⟨t395, A900, H⟩ := H
          replace H : (if t395 > 0 then ((some (([mn (wrap64 (1 + (Int.tmod t355 6))) t395, mx (wrap64 (1 + (Int.tmod t355 6))) t395] : List Int) : List Int)).bind fun y396 => (if t395 = (wrap64 (1 + (Int.tmod t355 6))) then (laws_FnBaskets.j4 kj54 t352 (wrap64 (1 + (Int.tmod t355 6))) (wrap64 (1 + (Int.tmod t356 6))) y396 true) else ((impl_CountWith.f kj54 t352 y396).bind fun t399 => (laws_FnBaskets.j4 kj54 t352 (wrap64 (1 + (Int.tmod t355 6))) (wrap64 (1 + (Int.tmod t356 6))) y396 (decide (t399 < 1)))))) else ((impl_BasketsOk.f kj54 t352).bind fun t416 => (if t416 = true then ((impl_CountWith.f kj54 (([(⟨(([1, 4] : List Int))⟩ : S49)] : List (S49))) (([4] : List Int))).bind fun t426 => (some (t426 == 1))) else (some false)))) = some r := H
          have A90 := Aside0.mk A900
          clear A900
          by_cases c91 : t395 > 0
          ·rw [if_pos c91] at H
           have c91b0 : decide (0 < t395) = true := decide_eq_true c91
           clear c91
           obtain ⟨ji92, hji92⟩ : ∃ j_ : Int, (mn (wrap64 (1 + (Int.tmod t355 6))) t395) = j_ := ⟨_, rfl⟩
           replace H : ((some (([ji92, mx (wrap64 (1 + (Int.tmod t355 6))) t395] : List Int) : List Int)).bind fun y396 => (if t395 = (wrap64 (1 + (Int.tmod t355 6))) then (laws_FnBaskets.j4 kj54 t352 (wrap64 (1 + (Int.tmod t355 6))) (wrap64 (1 + (Int.tmod t356 6))) y396 true) else ((impl_CountWith.f kj54 t352 y396).bind fun t399 => (laws_FnBaskets.j4 kj54 t352 (wrap64 (1 + (Int.tmod t355 6))) (wrap64 (1 + (Int.tmod t356 6))) y396 (decide (t399 < 1)))))) = some r := by first | (rw [hji92] at H; exact H) | (simp only [hji92] at H ⊢; exact H)
           (try rw [hji92] at A90)
           have hji92_ : (if t395 < (wrap64 (1 + (Int.tmod t355 6))) then t395 else (wrap64 (1 + (Int.tmod t355 6)))) = ji92 := hji92
           obtain ⟨ji93, hji93⟩ : ∃ j_ : Int, (mx (wrap64 (1 + (Int.tmod t355 6))) t395) = j_ := ⟨_, rfl⟩
           replace H : ((some (([ji92, ji93] : List Int) : List Int)).bind fun y396 => (if t395 = (wrap64 (1 + (Int.tmod t355 6))) then (laws_FnBaskets.j4 kj54 t352 (wrap64 (1 + (Int.tmod t355 6))) (wrap64 (1 + (Int.tmod t356 6))) y396 true) else ((impl_CountWith.f kj54 t352 y396).bind fun t399 => (laws_FnBaskets.j4 kj54 t352 (wrap64 (1 + (Int.tmod t355 6))) (wrap64 (1 + (Int.tmod t356 6))) y396 (decide (t399 < 1)))))) = some r := by first | (rw [hji93] at H; exact H) | (simp only [hji93] at H ⊢; exact H)
           (try rw [hji93] at A90)
           have hji93_ : (if (wrap64 (1 + (Int.tmod t355 6))) < t395 then t395 else (wrap64 (1 + (Int.tmod t355 6)))) = ji93 := hji93
           obtain ⟨y396, hy396⟩ : ∃ y_ : List Int, y_ = (([ji92, ji93] : List Int)) := ⟨_, rfl⟩
           replace H : (if t395 = (wrap64 (1 + (Int.tmod t355 6))) then (laws_FnBaskets.j4 kj54 t352 (wrap64 (1 + (Int.tmod t355 6))) (wrap64 (1 + (Int.tmod t356 6))) y396 true) else ((impl_CountWith.f kj54 t352 y396).bind fun t399 => (laws_FnBaskets.j4 kj54 t352 (wrap64 (1 + (Int.tmod t355 6))) (wrap64 (1 + (Int.tmod t356 6))) y396 (decide (t399 < 1))))) = some r := by first | (rw [hy396]; with_reducible exact H) | (have H2_ := (Option.bind_some _ _).symm.trans H; rw [hy396]; with_reducible exact H2_) | (have H2_ := (Option.bind_some _ _).symm.trans H; with_reducible exact H2_) | with_reducible exact H | (rw [hy396]; exact H) | exact H
           have Ny396 := Aside0.mk hy396
           clear hy396
           have HC94 := Aside0.mk H
           clear H
           go_upto_region 29 with (first | ((with_reducible refine gate_dst (N := 186) rfl ?_); (try (refine gate_guard (by rfl) ?_; dsimp only)); refine Kd.R_lit (Kd.int .i64) _ 3 ?hg (N := 186) ?hd (xs := ([(wrap64 (1 + (Int.tmod t355 6)))] : List Int)) (inner := [.int .i64 (wrap64 (1 + (Int.tmod t355 6)))]) (ok := fun _ => True) (okp := fun _ => True) ?hr ?hp (fun _ hk => hk) trivial (Below.refl _ _) (Nat.le_refl _) (by simp) ?_; (case hd => rfl); (case hg => rfl); (case hr => first | (go_simp; done) | (go_simp; rfl)); (case hp => exact (Reps.one (show Kd.M (Kd.int .i64) _ _ _ (wrap64 (1 + (Int.tmod t355 6))) [.int .i64 (wrap64 (1 + (Int.tmod t355 6)))] from rfl) (Reps.none _ _))); intro v393 w95 ho96 hb hg_ hnew_; clear hg_ hnew_; (first | rw [← Ny392.out] at ho96 | (simp only [Int.reduceToNat] at ho96; rw [← Ny392.out] at ho96)); have n0_ := Aside0.mk (Kd.N_elder' (by (with_reducible repeat (first | apply Kd.N_alloc | apply Kd.N_drewN | apply Kd.N_drew)); exact HO_3.out) (Kd.R_base ho96) hb); have n1_ := Aside0.mk (Kd.R_lower ho96 (below_size (by repeat (first | (with_reducible first | exact HB.out | apply below_alloc | apply pw_below_drewN | apply below_drew1) | exact HB.out)))); have n2_ := Aside0.mk (below_step (by repeat (first | (with_reducible first | exact HB.out | apply below_alloc | apply pw_below_drewN | apply below_drew1) | exact HB.out)) hb); clear HO_3 HB; have HO_3 := n0_; have HO394 := n1_; have HB := n2_; clear n0_ n1_ n2_; clear hb ho96; obtain ⟨Ao97, co97, eo97⟩ := Kd.R_slice HO394.out; subst eo97) | ((with_reducible refine gate_callee (f := 32) rfl ?_); refine goesL_ (some 187) rfl rfl Try.func32 (by kernel_rfl) rfl #[.slice Ao15 t352.length co15, .slice Ao97 y392.length co97] rfl (by (try simp only [List.map_toArray, List.map_cons, List.map_nil]); first | done | rfl | (simp only [List.length_drop, List.length_take]; rfl)) ?_; (with_reducible refine (impl_NextThing.calls kj54 _ _ t352 _ _ y392 t395 _ ?side1 ?side2 ?side3 ?side4 A90.out).mono ?_); (case side1 => repeat (first | exact (Kd.N_reads' HO_3.out).2.2 | (with_reducible refine Kd.C_alloc ?_ _) | (with_reducible refine Kd.C_drewN ?_ _) | (with_reducible refine Kd.C_drew ?_))); (case side2 => exact (Kd.N_reads' HO_3.out).2.1); (case side3 => repeat (first | exact (Kd.R_reads' HO394.out).2.2 | (with_reducible refine Kd.C_alloc ?_ _) | (with_reducible refine Kd.C_drewN ?_ _) | (with_reducible refine Kd.C_drew ?_))); (case side4 => exact (Kd.R_reads' HO394.out).2.1); rintro e w98 ⟨rfl, hb⟩; refine ⟨_, rfl, ?_⟩; have n0_ := Aside0.mk (Kd.N_below (by (with_reducible repeat (first | apply Kd.N_alloc | apply Kd.N_drewN | apply Kd.N_drew)); exact HO_3.out) hb); have n1_ := Aside0.mk (Kd.R_below (by (with_reducible repeat (first | apply Kd.R_alloc | apply Kd.R_drewN | apply Kd.R_drew)); exact HO394.out) hb); have n2_ := Aside0.mk (below_step (by repeat (first | (with_reducible first | exact HB.out | apply below_alloc | apply pw_below_drewN | apply below_drew1) | exact HB.out)) hb); clear HO_3 HO394 HB; have HO_3 := n0_; have HO394 := n1_; have HB := n2_; clear n0_ n1_ n2_; (try clear hb); (try clear hb2); (try clear hk); (try clear hi)) | ((with_reducible refine gate_dst (N := 196) rfl ?_); (try (refine gate_guard (by rfl) ?_; dsimp only)); refine Kd.R_lit (Kd.int .i64) _ 3 ?hg (N := 196) ?hd (xs := ([ji92, ji93] : List Int)) (inner := [.int .i64 ji92, .int .i64 ji93]) (ok := fun _ => True) (okp := fun _ => True) ?hr ?hp (fun _ hk => hk) trivial (Below.refl _ _) (Nat.le_refl _) (by simp) ?_; (case hd => rfl); (case hg => rfl); (case hr => first | (go_simp; done) | (go_simp; rfl)); (case hp => exact (Reps.one (show Kd.M (Kd.int .i64) _ _ _ ji92 [.int .i64 ji92] from rfl) (Reps.one (show Kd.M (Kd.int .i64) _ _ _ ji93 [.int .i64 ji93] from rfl) (Reps.none _ _)))); intro v397 w99 ho100 hb hg_ hnew_; clear hg_ hnew_; (first | rw [← Ny396.out] at ho100 | (simp only [Int.reduceToNat] at ho100; rw [← Ny396.out] at ho100)); have n0_ := Aside0.mk (Kd.N_elder' (by (with_reducible repeat (first | apply Kd.N_alloc | apply Kd.N_drewN | apply Kd.N_drew)); exact HO_3.out) (Kd.R_base ho100) hb); have n1_ := Aside0.mk (Kd.R_elder' (by (with_reducible repeat (first | apply Kd.R_alloc | apply Kd.R_drewN | apply Kd.R_drew)); exact HO394.out) (Kd.R_base ho100) hb); have n2_ := Aside0.mk (Kd.R_lower (Kd.R_new' ho100 (Kd.R_lt (by (with_reducible repeat (first | apply Kd.R_alloc | apply Kd.R_drewN | apply Kd.R_drew)); exact HO394.out))) (below_size (by repeat (first | (with_reducible first | exact HB.out | apply below_alloc | apply pw_below_drewN | apply below_drew1) | exact HB.out)))); have n3_ := Aside0.mk (below_step (by repeat (first | (with_reducible first | exact HB.out | apply below_alloc | apply pw_below_drewN | apply below_drew1) | exact HB.out)) hb); clear HO_3 HO394 HB; have HO_3 := n0_; have HO394 := n1_; have HO398 := n2_; have HB := n3_; clear n0_ n1_ n2_ n3_; clear hb ho100))
           (try simp only [Act.put, List.setIfInBounds_toArray, List.set_cons_zero, List.set_cons_succ])
           go_cut [205] (fun v205 wc => ∃ (kq : Nat) (x205_93 : Bool), v205 = .bool x205_93 ∧ Aside0 (laws_FnBaskets.j4 kq t352 (wrap64 (1 + (Int.tmod t355 6))) (wrap64 (1 + (Int.tmod t356 6))) y396 x205_93 = some r) ∧ Aside0 (kq ≤ kj54) ∧ Aside0 (Kd.N k49 49 wc w.heap.size (fun k_ => some k_ ≠ (v397 : Value).ownBlock) (.slice Ao15 t352.length co15) t352) ∧ Aside0 (Kd.R (Kd.int .i64) 3 wc w.heap.size (fun _ => True) v397 y396) ∧ Aside0 (Below w.heap.size w wc))
           case first => as_aux_lemma =>
            have H := HC94.out
            clear HC94
            by_cases c101 : t395 = (wrap64 (1 + (Int.tmod t355 6)))
            ·rw [if_pos c101] at H
             have c101b0 : (t395 == (wrap64 (1 + (Int.tmod t355 6)))) = true := beq_iff_eq.mpr c101
             have c101b1 : (t395 != (wrap64 (1 + (Int.tmod t355 6)))) = false := bne_eq_false_iff_eq.mpr c101
             clear c101
             (first | rw [c101b0] | (simp only [i64_w, i32_w]; rw [c101b0]) | rw [c101b1] | skip)
             exact (laws_FnBaskets.j4_no HRT.out H).elim
            ·rw [if_neg c101] at H
             have c101b0 : (t395 == (wrap64 (1 + (Int.tmod t355 6)))) = false := beq_eq_false_iff_ne.mpr c101
             have c101b1 : (t395 != (wrap64 (1 + (Int.tmod t355 6)))) = true := bne_iff_ne.mpr c101
             (first | rw [c101b0] | (simp only [i64_w, i32_w]; rw [c101b0]) | rw [c101b1] | skip)
             replace H := Option.bind_eq_some_iff.mp H
             obtain ⟨t399, A1020, H⟩ := H
             replace H : (laws_FnBaskets.j4 kj54 t352 (wrap64 (1 + (Int.tmod t355 6))) (wrap64 (1 + (Int.tmod t356 6))) y396 (decide (t399 < 1))) = some r := H
             have A102 := Aside0.mk A1020
             clear A1020
             have H' := Aside0.mk H
             clear H
             obtain ⟨Ao103, co103, eo103⟩ := Kd.R_slice HO398.out
             subst eo103
             go_wp2_with (first | (go_at_call 17; (with_reducible refine (impl_CountWith.calls kj54 _ _ t352 _ _ y396 t399 _ ?side1 ?side2 ?side3 ?side4 A102.out).mono ?_); (case side1 => repeat (first | exact (Kd.N_reads' HO_3.out).2.2 | (with_reducible refine Kd.C_alloc ?_ _) | (with_reducible refine Kd.C_drewN ?_ _) | (with_reducible refine Kd.C_drew ?_))); (case side2 => exact (Kd.N_reads' HO_3.out).2.1); (case side3 => repeat (first | exact (Kd.R_reads' HO398.out).2.2 | (with_reducible refine Kd.C_alloc ?_ _) | (with_reducible refine Kd.C_drewN ?_ _) | (with_reducible refine Kd.C_drew ?_))); (case side4 => exact (Kd.R_reads' HO398.out).2.1); rintro e w104 ⟨rfl, hb⟩; have n0_ := Aside0.mk (Kd.N_below (by (with_reducible repeat (first | apply Kd.N_alloc | apply Kd.N_drewN | apply Kd.N_drew)); exact HO_3.out) hb); have n1_ := Aside0.mk (Kd.R_below (by (with_reducible repeat (first | apply Kd.R_alloc | apply Kd.R_drewN | apply Kd.R_drew)); exact HO394.out) hb); have n2_ := Aside0.mk (Kd.R_below (by (with_reducible repeat (first | apply Kd.R_alloc | apply Kd.R_drewN | apply Kd.R_drew)); exact HO398.out) hb); have n3_ := Aside0.mk (below_step (by repeat (first | (with_reducible first | exact HB.out | apply below_alloc | apply pw_below_drewN | apply below_drew1) | exact HB.out)) hb); clear HO_3 HO394 HO398 HB; have HO_3 := n0_; have HO394 := n1_; have HO398 := n2_; have HB := n3_; clear n0_ n1_ n2_ n3_; (try clear hb); (try clear hb2); (try clear hk); (try clear hi)))
             go_meet
             case rel => exact ⟨_, (decide (t399 < 1)), (by first | rfl | (simp; done) | (simp [*]; done)), H', ⟨by have := HJ10.out; have := HK2.out; have := HJ54.out; first | omega | exact Nat.le_refl _⟩, ⟨by (with_reducible repeat (first | apply Kd.N_alloc | apply Kd.N_drewN | apply Kd.N_drew)); exact Kd.N_mono HO_3.out (fun _ hk => hk.2)⟩, ⟨by (with_reducible repeat (first | apply Kd.R_alloc | apply Kd.R_drewN | apply Kd.R_drew)); exact Kd.R_mono HO398.out (fun _ hk => trivial)⟩, ⟨by repeat (first | (with_reducible first | exact HB.out | apply below_alloc | apply pw_below_drewN | apply below_drew1) | exact HB.out)⟩⟩
           case rest => as_aux_lemma =>
            clear HC94
            try clear c1
            try clear c2
            try clear p2
            try clear c3
            try clear p3
            try clear q3
            try clear hx3
            try clear qi3
            try clear c4
            try clear c5
            try clear c6
            try clear p6
            try clear c7
            try clear c9
            try clear c10
            try clear c17
            try clear c20
            try clear c20b0
            try clear c21
            try clear c21b0
            try clear c23
            try clear c23b0
            try clear c23b1
            try clear c24
            try clear c24b0
            try clear c24b1
            try clear c26
            try clear c26b0
            try clear c27
            try clear c27b0
            try clear c27b1
            try clear c32
            try clear c33
            try clear c34
            try clear c35
            try clear c36
            try clear c36b0
            try clear c36b1
            try clear c37
            try clear p37
            try clear q37
            try clear hx37
            try clear qi37
            try clear c38
            try clear p38
            try clear q38
            try clear hx38
            try clear c43
            try clear c44
            try clear c44b0
            try clear c45
            try clear c45b0
            try clear c46
            try clear c46b0
            try clear c46b1
            try clear c48
            try clear c48b0
            try clear c49
            try clear c49b0
            try clear c49b1
            try clear c50
            try clear c50b0
            try clear c50b1
            try clear c51
            try clear c51b0
            try clear c57
            try clear c57b0
            try clear c63
            try clear c63b0
            try clear c64
            try clear p64
            try clear c65
            try clear c65b0
            try clear c70
            try clear c70b0
            try clear c72
            try clear c72b0
            try clear c73
            try clear c73b0
            try clear c73b1
            try clear c73b2
            try clear c74
            try clear c74b0
            try clear c75
            try clear c75b0
            try clear c75b1
            try clear c77
            try clear c79
            try clear c79b0
            try clear c79b1
            try clear c79b2
            try clear c91
            try clear c91b0
            try clear c101
            try clear c101b0
            try clear c101b1
            try clear hx370_0
            try clear hx371_0
            try clear hx373_0
            try clear hx374_0
            try clear hx375_0
            try clear hx376_0
            try clear hx381_0
            try clear p2
            try clear p3
            try clear p37
            try clear p370
            try clear p371
            try clear p373
            try clear p374
            try clear p375
            try clear p376
            try clear p38
            try clear p381
            try clear p6
            try clear p64
            try clear q3
            try clear q37
            try clear q370
            try clear q371
            try clear q373
            try clear q374
            try clear q375
            try clear q376
            try clear q38
            try clear q381
            obtain ⟨kq, x205_93, rfl, HA, HJ93, HO_3, HO_15, HB⟩ := hcut
            cases kq with
            | zero => exact absurd HA.out (by simp [laws_FnBaskets.j4])
            | succ kj93 =>
             have H := HA.out
             clear HA
             simp only [laws_FnBaskets.j4] at H
             by_cases c105 : x205_93 = true
             ·subst c105
              have H1 : (some false) = some r := by rw [if_pos rfl] at H; exact H
              clear H
              have H := H1
              clear H1
              exact absurd (H.trans (congrArg some HRT.out)) (by simp)
             ·replace c105 := Bool.eq_false_iff.mpr c105
              subst c105
              have H1 : (if (wrap64 (1 + (Int.tmod t356 6))) = (wrap64 (1 + (Int.tmod t355 6))) then (laws_FnBaskets.j5 kj93 t352 false) else ((impl_CountWith.f kj93 t352 (([mn (wrap64 (1 + (Int.tmod t355 6))) (wrap64 (1 + (Int.tmod t356 6))), mx (wrap64 (1 + (Int.tmod t355 6))) (wrap64 (1 + (Int.tmod t356 6)))] : List Int))).bind fun t403 => ((impl_CountWith.f kj93 t352 y396).bind fun t404 => (laws_FnBaskets.j5 kj93 t352 (decide (t403 > t404)))))) = some r := by rw [if_neg (show ¬ (false = true) by decide)] at H; exact H
              clear H
              have H := H1
              clear H1
              have HC106 := Aside0.mk H
              clear H
              go_upto_region 31 with (fail)
              go_cut [223] (fun v223 wc => ∃ (kq : Nat) (x223_105 : Bool), v223 = .bool x223_105 ∧ Aside0 (laws_FnBaskets.j5 kq t352 x223_105 = some r) ∧ Aside0 (kq ≤ kj93) ∧ Aside0 (Kd.N k49 49 wc w.heap.size (fun _ => True) (.slice Ao15 t352.length co15) t352) ∧ Aside0 (Below w.heap.size w wc))
              case first => as_aux_lemma =>
               have H := HC106.out
               clear HC106
               by_cases c107 : (wrap64 (1 + (Int.tmod t356 6))) = (wrap64 (1 + (Int.tmod t355 6)))
               ·rw [if_pos c107] at H
                have c107b0 : ((wrap64 (1 + (Int.tmod t356 6))) == (wrap64 (1 + (Int.tmod t355 6)))) = true := beq_iff_eq.mpr c107
                have c107b1 : ((wrap64 (1 + (Int.tmod t356 6))) != (wrap64 (1 + (Int.tmod t355 6)))) = false := bne_eq_false_iff_eq.mpr c107
                clear c107
                (first | rw [c107b0] | (simp only [i64_w, i32_w]; rw [c107b0]) | rw [c107b1] | skip)
                have H' := Aside0.mk H
                clear H
                go_wp2
                go_meet
                case rel => exact ⟨_, (false), (by first | rfl | (simp; done) | (simp [*]; done)), H', ⟨by have := HJ10.out; have := HK2.out; have := HJ54.out; have := HJ93.out; first | omega | exact Nat.le_refl _⟩, ⟨by (with_reducible repeat (first | apply Kd.N_alloc | apply Kd.N_drewN | apply Kd.N_drew)); exact Kd.N_mono HO_3.out (fun _ hk => trivial)⟩, ⟨by repeat (first | (with_reducible first | exact HB.out | apply below_alloc | apply pw_below_drewN | apply below_drew1) | exact HB.out)⟩⟩
               ·rw [if_neg c107] at H
                have c107b0 : ((wrap64 (1 + (Int.tmod t356 6))) == (wrap64 (1 + (Int.tmod t355 6)))) = false := beq_eq_false_iff_ne.mpr c107
                have c107b1 : ((wrap64 (1 + (Int.tmod t356 6))) != (wrap64 (1 + (Int.tmod t355 6)))) = true := bne_iff_ne.mpr c107
                (first | rw [c107b0] | (simp only [i64_w, i32_w]; rw [c107b0]) | rw [c107b1] | skip)
                obtain ⟨ji108, hji108⟩ : ∃ j_ : Int, (mn (wrap64 (1 + (Int.tmod t355 6))) (wrap64 (1 + (Int.tmod t356 6)))) = j_ := ⟨_, rfl⟩
                replace H : ((impl_CountWith.f kj93 t352 (([ji108, mx (wrap64 (1 + (Int.tmod t355 6))) (wrap64 (1 + (Int.tmod t356 6)))] : List Int))).bind fun t403 => ((impl_CountWith.f kj93 t352 y396).bind fun t404 => (laws_FnBaskets.j5 kj93 t352 (decide (t403 > t404))))) = some r := by first | (rw [hji108] at H; exact H) | (simp only [hji108] at H ⊢; exact H)
                have hji108_ : (if (wrap64 (1 + (Int.tmod t356 6))) < (wrap64 (1 + (Int.tmod t355 6))) then (wrap64 (1 + (Int.tmod t356 6))) else (wrap64 (1 + (Int.tmod t355 6)))) = ji108 := hji108
                obtain ⟨ji109, hji109⟩ : ∃ j_ : Int, (mx (wrap64 (1 + (Int.tmod t355 6))) (wrap64 (1 + (Int.tmod t356 6)))) = j_ := ⟨_, rfl⟩
                replace H : ((impl_CountWith.f kj93 t352 (([ji108, ji109] : List Int))).bind fun t403 => ((impl_CountWith.f kj93 t352 y396).bind fun t404 => (laws_FnBaskets.j5 kj93 t352 (decide (t403 > t404))))) = some r := by first | (rw [hji109] at H; exact H) | (simp only [hji109] at H ⊢; exact H)
                have hji109_ : (if (wrap64 (1 + (Int.tmod t355 6))) < (wrap64 (1 + (Int.tmod t356 6))) then (wrap64 (1 + (Int.tmod t356 6))) else (wrap64 (1 + (Int.tmod t355 6)))) = ji109 := hji109
                obtain ⟨y400, hy400⟩ : ∃ y_ : List Int, y_ = (([ji108, ji109] : List Int)) := ⟨_, rfl⟩
                replace H : ((impl_CountWith.f kj93 t352 y400).bind fun t403 => ((impl_CountWith.f kj93 t352 y396).bind fun t404 => (laws_FnBaskets.j5 kj93 t352 (decide (t403 > t404))))) = some r := by first | (rw [hy400]; with_reducible exact H) | (have H2_ := (Option.bind_some _ _).symm.trans H; rw [hy400]; with_reducible exact H2_) | (have H2_ := (Option.bind_some _ _).symm.trans H; with_reducible exact H2_) | with_reducible exact H | (rw [hy400]; exact H) | exact H
                have Ny400 := Aside0.mk hy400
                clear hy400
                replace H := Option.bind_eq_some_iff.mp H
                obtain ⟨t403, A1100, H⟩ := H
                replace H : ((impl_CountWith.f kj93 t352 y396).bind fun t404 => (laws_FnBaskets.j5 kj93 t352 (decide (t403 > t404)))) = some r := H
                have A110 := Aside0.mk A1100
                clear A1100
                replace H := Option.bind_eq_some_iff.mp H
                obtain ⟨t404, A1110, H⟩ := H
                replace H : (laws_FnBaskets.j5 kj93 t352 (decide (t403 > t404))) = some r := H
                have A111 := Aside0.mk A1110
                clear A1110
                have H' := Aside0.mk H
                clear H
                go_wp2_with (first | ((with_reducible refine gate_dst (N := 217) rfl ?_); (try (refine gate_guard (by rfl) ?_; dsimp only)); refine Kd.R_lit (Kd.int .i64) _ 3 ?hg (N := 217) ?hd (xs := ([ji108, ji109] : List Int)) (inner := [.int .i64 ji108, .int .i64 ji109]) (ok := fun _ => True) (okp := fun _ => True) ?hr ?hp (fun _ hk => hk) trivial (Below.refl _ _) (Nat.le_refl _) (by simp) ?_; (case hd => rfl); (case hg => rfl); (case hr => first | (go_simp; done) | (go_simp; rfl)); (case hp => exact (Reps.one (show Kd.M (Kd.int .i64) _ _ _ ji108 [.int .i64 ji108] from rfl) (Reps.one (show Kd.M (Kd.int .i64) _ _ _ ji109 [.int .i64 ji109] from rfl) (Reps.none _ _)))); intro v401 w112 ho113 hb hg_ hnew_; clear hg_ hnew_; (first | rw [← Ny400.out] at ho113 | (simp only [Int.reduceToNat] at ho113; rw [← Ny400.out] at ho113)); have n0_ := Aside0.mk (Kd.N_elder' (by (with_reducible repeat (first | apply Kd.N_alloc | apply Kd.N_drewN | apply Kd.N_drew)); exact HO_3.out) (Kd.R_base ho113) hb); have n1_ := Aside0.mk (Kd.R_elder' (by (with_reducible repeat (first | apply Kd.R_alloc | apply Kd.R_drewN | apply Kd.R_drew)); exact HO_15.out) (Kd.R_base ho113) hb); have n2_ := Aside0.mk (Kd.R_lower (Kd.R_new' ho113 (Kd.R_lt (by (with_reducible repeat (first | apply Kd.R_alloc | apply Kd.R_drewN | apply Kd.R_drew)); exact HO_15.out))) (below_size (by repeat (first | (with_reducible first | exact HB.out | apply below_alloc | apply pw_below_drewN | apply below_drew1) | exact HB.out)))); have n3_ := Aside0.mk (below_step (by repeat (first | (with_reducible first | exact HB.out | apply below_alloc | apply pw_below_drewN | apply below_drew1) | exact HB.out)) hb); clear HO_3 HO_15 HB; have HO_3 := n0_; have HO_15 := n1_; have HO402 := n2_; have HB := n3_; clear n0_ n1_ n2_ n3_; clear hb ho113; obtain ⟨Ao114, co114, eo114⟩ := Kd.R_slice HO402.out; subst eo114) | (go_at_call 17; (with_reducible refine (impl_CountWith.calls kj93 _ _ t352 _ _ y400 t403 _ ?side1 ?side2 ?side3 ?side4 A110.out).mono ?_); (case side1 => repeat (first | exact (Kd.N_reads' HO_3.out).2.2 | (with_reducible refine Kd.C_alloc ?_ _) | (with_reducible refine Kd.C_drewN ?_ _) | (with_reducible refine Kd.C_drew ?_))); (case side2 => exact (Kd.N_reads' HO_3.out).2.1); (case side3 => repeat (first | exact (Kd.R_reads' HO402.out).2.2 | (with_reducible refine Kd.C_alloc ?_ _) | (with_reducible refine Kd.C_drewN ?_ _) | (with_reducible refine Kd.C_drew ?_))); (case side4 => exact (Kd.R_reads' HO402.out).2.1); rintro e w115 ⟨rfl, hb⟩; have n0_ := Aside0.mk (Kd.N_below (by (with_reducible repeat (first | apply Kd.N_alloc | apply Kd.N_drewN | apply Kd.N_drew)); exact HO_3.out) hb); have n1_ := Aside0.mk (Kd.R_below (by (with_reducible repeat (first | apply Kd.R_alloc | apply Kd.R_drewN | apply Kd.R_drew)); exact HO_15.out) hb); have n2_ := Aside0.mk (Kd.R_below (by (with_reducible repeat (first | apply Kd.R_alloc | apply Kd.R_drewN | apply Kd.R_drew)); exact HO402.out) hb); have n3_ := Aside0.mk (below_step (by repeat (first | (with_reducible first | exact HB.out | apply below_alloc | apply pw_below_drewN | apply below_drew1) | exact HB.out)) hb); clear HO_3 HO_15 HO402 HB; have HO_3 := n0_; have HO_15 := n1_; have HO402 := n2_; have HB := n3_; clear n0_ n1_ n2_ n3_; (try clear hb); (try clear hb2); (try clear hk); (try clear hi); obtain ⟨Ao116, co116, eo116⟩ := Kd.R_slice HO_15.out; subst eo116) | (go_at_call 17; (with_reducible refine (impl_CountWith.calls kj93 _ _ t352 _ _ y396 t404 _ ?side1 ?side2 ?side3 ?side4 A111.out).mono ?_); (case side1 => repeat (first | exact (Kd.N_reads' HO_3.out).2.2 | (with_reducible refine Kd.C_alloc ?_ _) | (with_reducible refine Kd.C_drewN ?_ _) | (with_reducible refine Kd.C_drew ?_))); (case side2 => exact (Kd.N_reads' HO_3.out).2.1); (case side3 => repeat (first | exact (Kd.R_reads' HO_15.out).2.2 | (with_reducible refine Kd.C_alloc ?_ _) | (with_reducible refine Kd.C_drewN ?_ _) | (with_reducible refine Kd.C_drew ?_))); (case side4 => exact (Kd.R_reads' HO_15.out).2.1); rintro e w117 ⟨rfl, hb⟩; have n0_ := Aside0.mk (Kd.N_below (by (with_reducible repeat (first | apply Kd.N_alloc | apply Kd.N_drewN | apply Kd.N_drew)); exact HO_3.out) hb); have n1_ := Aside0.mk (Kd.R_below (by (with_reducible repeat (first | apply Kd.R_alloc | apply Kd.R_drewN | apply Kd.R_drew)); exact HO_15.out) hb); have n2_ := Aside0.mk (Kd.R_below (by (with_reducible repeat (first | apply Kd.R_alloc | apply Kd.R_drewN | apply Kd.R_drew)); exact HO402.out) hb); have n3_ := Aside0.mk (below_step (by repeat (first | (with_reducible first | exact HB.out | apply below_alloc | apply pw_below_drewN | apply below_drew1) | exact HB.out)) hb); clear HO_3 HO_15 HO402 HB; have HO_3 := n0_; have HO_15 := n1_; have HO402 := n2_; have HB := n3_; clear n0_ n1_ n2_ n3_; (try clear hb); (try clear hb2); (try clear hk); (try clear hi)))
                go_meet
                case rel => exact ⟨_, (decide (t403 > t404)), (by first | rfl | (simp; done) | (simp [*]; done)), H', ⟨by have := HJ10.out; have := HK2.out; have := HJ54.out; have := HJ93.out; first | omega | exact Nat.le_refl _⟩, ⟨by (with_reducible repeat (first | apply Kd.N_alloc | apply Kd.N_drewN | apply Kd.N_drew)); exact Kd.N_mono HO_3.out (fun _ hk => trivial)⟩, ⟨by repeat (first | (with_reducible first | exact HB.out | apply below_alloc | apply pw_below_drewN | apply below_drew1) | exact HB.out)⟩⟩
              case rest => as_aux_lemma =>
               clear HC106
               try clear c1
               try clear c2
               try clear p2
               try clear c3
               try clear p3
               try clear q3
               try clear hx3
               try clear qi3
               try clear c4
               try clear c5
               try clear c6
               try clear p6
               try clear c7
               try clear c9
               try clear c10
               try clear c17
               try clear c20
               try clear c20b0
               try clear c21
               try clear c21b0
               try clear c23
               try clear c23b0
               try clear c23b1
               try clear c24
               try clear c24b0
               try clear c24b1
               try clear c26
               try clear c26b0
               try clear c27
               try clear c27b0
               try clear c27b1
               try clear c32
               try clear c33
               try clear c34
               try clear c35
               try clear c36
               try clear c36b0
               try clear c36b1
               try clear c37
               try clear p37
               try clear q37
               try clear hx37
               try clear qi37
               try clear c38
               try clear p38
               try clear q38
               try clear hx38
               try clear c43
               try clear c44
               try clear c44b0
               try clear c45
               try clear c45b0
               try clear c46
               try clear c46b0
               try clear c46b1
               try clear c48
               try clear c48b0
               try clear c49
               try clear c49b0
               try clear c49b1
               try clear c50
               try clear c50b0
               try clear c50b1
               try clear c51
               try clear c51b0
               try clear c57
               try clear c57b0
               try clear c63
               try clear c63b0
               try clear c64
               try clear p64
               try clear c65
               try clear c65b0
               try clear c70
               try clear c70b0
               try clear c72
               try clear c72b0
               try clear c73
               try clear c73b0
               try clear c73b1
               try clear c73b2
               try clear c74
               try clear c74b0
               try clear c75
               try clear c75b0
               try clear c75b1
               try clear c77
               try clear c79
               try clear c79b0
               try clear c79b1
               try clear c79b2
               try clear c91
               try clear c91b0
               try clear c101
               try clear c101b0
               try clear c101b1
               try clear c105
               try clear c107
               try clear c107b0
               try clear c107b1
               try clear hx370_0
               try clear hx371_0
               try clear hx373_0
               try clear hx374_0
               try clear hx375_0
               try clear hx376_0
               try clear hx381_0
               try clear p2
               try clear p3
               try clear p37
               try clear p370
               try clear p371
               try clear p373
               try clear p374
               try clear p375
               try clear p376
               try clear p38
               try clear p381
               try clear p6
               try clear p64
               try clear q3
               try clear q37
               try clear q370
               try clear q371
               try clear q373
               try clear q374
               try clear q375
               try clear q376
               try clear q38
               try clear q381
               obtain ⟨kq, x223_105, rfl, HA, HJ105, HO_3, HB⟩ := hcut
               cases kq with
               | zero => exact absurd HA.out (by simp [laws_FnBaskets.j5])
               | succ kj105 =>
                have H := HA.out
                clear HA
                simp only [laws_FnBaskets.j5] at H
                by_cases c118 : x223_105 = true
                ·subst c118
                 have H1 : (some false) = some r := by rw [if_pos rfl] at H; exact H
                 clear H
                 have H := H1
                 clear H1
                 exact absurd (H.trans (congrArg some HRT.out)) (by simp)
                ·replace c118 := Bool.eq_false_iff.mpr c118
                 subst c118
                 have H1 : ((impl_BasketsOk.f kj105 t352).bind fun t405 => (if t405 = true then ((impl_CountWith.f kj105 (([(⟨(([1, 4] : List Int))⟩ : S49)] : List (S49))) (([4] : List Int))).bind fun t415 => (some (t415 == 1))) else (some false))) = some r := by rw [if_neg (show ¬ (false = true) by decide)] at H; exact H
                 clear H
                 have H := H1
                 clear H1
                 replace H := Option.bind_eq_some_iff.mp H
                 obtain ⟨t405, A1190, H⟩ := H
                 replace H : (if t405 = true then ((impl_CountWith.f kj105 (([(⟨(([1, 4] : List Int))⟩ : S49)] : List (S49))) (([4] : List Int))).bind fun t415 => (some (t415 == 1))) else (some false)) = some r := H
                 have A119 := Aside0.mk A1190
                 clear A1190
                 by_cases c120 : t405 = true
                 ·subst c120
                  have H1 : ((impl_CountWith.f kj105 (([(⟨(([1, 4] : List Int))⟩ : S49)] : List (S49))) (([4] : List Int))).bind fun t415 => (some (t415 == 1))) = some r := by rw [if_pos rfl] at H; exact H
                  clear H
                  have H := H1
                  clear H1
                  obtain ⟨y406, hy406⟩ : ∃ y_ : List Int, y_ = (([1, 4] : List Int)) := ⟨_, rfl⟩
                  replace H : ((impl_CountWith.f kj105 (([(⟨y406⟩ : S49)] : List (S49))) (([4] : List Int))).bind fun t415 => (some (t415 == 1))) = some r := by first | (rw [hy406]; with_reducible exact H) | (have H2_ := (Option.bind_some _ _).symm.trans H; rw [hy406]; with_reducible exact H2_) | (have H2_ := (Option.bind_some _ _).symm.trans H; with_reducible exact H2_) | with_reducible exact H | (rw [hy406]; exact H) | exact H
                  have Ny406 := Aside0.mk hy406
                  clear hy406
                  obtain ⟨y409, hy409⟩ : ∃ y_ : List (S49), y_ = (([(⟨y406⟩ : S49)] : List (S49))) := ⟨_, rfl⟩
                  replace H : ((impl_CountWith.f kj105 y409 (([4] : List Int))).bind fun t415 => (some (t415 == 1))) = some r := by first | (rw [hy409]; with_reducible exact H) | (have H2_ := (Option.bind_some _ _).symm.trans H; rw [hy409]; with_reducible exact H2_) | (have H2_ := (Option.bind_some _ _).symm.trans H; with_reducible exact H2_) | with_reducible exact H | (rw [hy409]; exact H) | exact H
                  have Ny409 := Aside0.mk hy409
                  clear hy409
                  obtain ⟨y412, hy412⟩ : ∃ y_ : List Int, y_ = (([4] : List Int)) := ⟨_, rfl⟩
                  replace H : ((impl_CountWith.f kj105 y409 y412).bind fun t415 => (some (t415 == 1))) = some r := by first | (rw [hy412]; with_reducible exact H) | (have H2_ := (Option.bind_some _ _).symm.trans H; rw [hy412]; with_reducible exact H2_) | (have H2_ := (Option.bind_some _ _).symm.trans H; with_reducible exact H2_) | with_reducible exact H | (rw [hy412]; exact H) | exact H
                  have Ny412 := Aside0.mk hy412
                  clear hy412
                  replace H := Option.bind_eq_some_iff.mp H
                  obtain ⟨t415, A1210, H⟩ := H
                  replace H : (some (t415 == 1)) = some r := H
                  have A121 := Aside0.mk A1210
                  clear A1210
                  obtain rfl := Option.some.inj H
                  go_wp2_with (first | ((with_reducible refine gate_callee (f := 13) rfl ?_); refine goesL_ (some 225) rfl rfl Try.func13 (by kernel_rfl) rfl #[.slice Ao15 t352.length co15] rfl (by (try simp only [List.map_toArray, List.map_cons, List.map_nil]); first | done | rfl | (simp only [List.length_drop, List.length_take]; rfl)) ?_; (with_reducible refine (impl_BasketsOk.calls kj105 _ _ t352 true _ ?side1 ?side2 A119.out).mono ?_); (case side1 => repeat (first | exact (Kd.N_reads' HO_3.out).2.2 | (with_reducible refine Kd.C_alloc ?_ _) | (with_reducible refine Kd.C_drewN ?_ _) | (with_reducible refine Kd.C_drew ?_))); (case side2 => exact (Kd.N_reads' HO_3.out).2.1); rintro e w122 ⟨rfl, hb⟩; refine ⟨_, rfl, ?_⟩; have n0_ := Aside0.mk (Kd.N_below (by (with_reducible repeat (first | apply Kd.N_alloc | apply Kd.N_drewN | apply Kd.N_drew)); exact HO_3.out) hb); have n1_ := Aside0.mk (below_step (by repeat (first | (with_reducible first | exact HB.out | apply below_alloc | apply pw_below_drewN | apply below_drew1) | exact HB.out)) hb); clear HO_3 HB; have HO_3 := n0_; have HB := n1_; clear n0_ n1_; (try clear hb); (try clear hb2); (try clear hk); (try clear hi)) | ((with_reducible refine gate_dst (N := 227) rfl ?_); (try (refine gate_guard (by rfl) ?_; dsimp only)); refine Kd.R_lit (Kd.int .i64) _ 3 ?hg (N := 227) ?hd (xs := ([1, 4] : List Int)) (inner := [.int .i64 1, .int .i64 4]) (ok := fun _ => True) (okp := fun _ => True) ?hr ?hp (fun _ hk => hk) trivial (Below.refl _ _) (Nat.le_refl _) (by simp) ?_; (case hd => rfl); (case hg => rfl); (case hr => first | (go_simp; done) | (go_simp; rfl)); (case hp => exact (Reps.one (show Kd.M (Kd.int .i64) _ _ _ 1 [.int .i64 1] from rfl) (Reps.one (show Kd.M (Kd.int .i64) _ _ _ 4 [.int .i64 4] from rfl) (Reps.none _ _)))); intro v407 w123 ho124 hb hg_ hnew_; clear hg_ hnew_; (first | rw [← Ny406.out] at ho124 | (simp only [Int.reduceToNat] at ho124; rw [← Ny406.out] at ho124)); have n0_ := Aside0.mk (Kd.N_elder' (by (with_reducible repeat (first | apply Kd.N_alloc | apply Kd.N_drewN | apply Kd.N_drew)); exact HO_3.out) (Kd.R_base ho124) hb); have n1_ := Aside0.mk (Kd.R_lower ho124 (below_size (by repeat (first | (with_reducible first | exact HB.out | apply below_alloc | apply pw_below_drewN | apply below_drew1) | exact HB.out)))); have n2_ := Aside0.mk (below_step (by repeat (first | (with_reducible first | exact HB.out | apply below_alloc | apply pw_below_drewN | apply below_drew1) | exact HB.out)) hb); clear HO_3 HB; have HO_3 := n0_; have HO408 := n1_; have HB := n2_; clear n0_ n1_ n2_; clear hb ho124; obtain ⟨Ao125, co125, eo125⟩ := Kd.R_slice HO408.out; subst eo125) | ((with_reducible refine gate_dst (N := 229) rfl ?_); (try (refine gate_guard (by rfl) ?_; dsimp only)); refine Kd.N_lit k49 _ 49 ?hg (N' := 229) ?hd (xs := ([(⟨y406⟩ : S49)] : List (S49))) (inner := [.slice Ao125 y406.length co125]) (ok := (fun k_ => some k_ ≠ (.slice Ao15 t352.length co15 : Value).ownBlock)) (okp := (fun k_ => some k_ ≠ (.slice Ao15 t352.length co15 : Value).ownBlock)) ?hr ?hp (fun _ hk => hk) ((show ∀ k_, w123.heap.size ≤ k_ → (fun k_ => some k_ ≠ (.slice Ao15 t352.length co15 : Value).ownBlock) k_ from fun k_ hk => Kd.fresh' (Kd.N_lt (by (with_reducible repeat (first | apply Kd.N_alloc | apply Kd.N_drewN | apply Kd.N_drew)); exact HO_3.out)) k_ hk) _ (Nat.le_refl _)) (Below.refl _ _) (Nat.le_refl _) (by simp) ?_; (case hd => rfl); (case hg => rfl); (case hr => first | (go_simp; done) | (go_simp; rfl)); (case hp => exact (Reps.one (show Kd.FK k49 _ _ (⟨y406⟩ : S49) [.slice Ao125 y406.length co125] from (k49_mkF _ _ (⟨y406⟩ : S49) (Kd.R_reads' (Kd.R_mono (ok' := (fun k_ => some k_ ≠ (.slice Ao15 t352.length co15 : Value).ownBlock)) (Kd.R_apart' (HO408.out) (Kd.N_typed HO_3.out) (by decide)) (fun k_ hk => hk.2))).2.1 (Kd.R_F (Kd.R_mono (ok' := (fun k_ => some k_ ≠ (.slice Ao15 t352.length co15 : Value).ownBlock)) (Kd.R_apart' (HO408.out) (Kd.N_typed HO_3.out) (by decide)) (fun k_ hk => hk.2))))) (Reps.none _ _))); intro v410 w126 ho127 hb hg_ hnew_; clear hg_ hnew_; (first | rw [← Ny409.out] at ho127 | (simp only [Int.reduceToNat] at ho127; rw [← Ny409.out] at ho127)); have n0_ := Aside0.mk (Kd.N_elder' (by (with_reducible repeat (first | apply Kd.N_alloc | apply Kd.N_drewN | apply Kd.N_drew)); exact HO_3.out) (by first | exact Kd.N_base ho127 | exact Kd.S_base ho127) hb); have n1_ := Aside0.mk (Kd.N_lower ho127 (below_size (by repeat (first | (with_reducible first | exact HB.out | apply below_alloc | apply pw_below_drewN | apply below_drew1) | exact HB.out)))); have n2_ := Aside0.mk (below_step (by repeat (first | (with_reducible first | exact HB.out | apply below_alloc | apply pw_below_drewN | apply below_drew1) | exact HB.out)) hb); clear HO_3 HB HO408; have HO_3 := n0_; have HO411 := n1_; have HB := n2_; clear n0_ n1_ n2_; clear hb ho127) | ((with_reducible refine gate_dst (N := 230) rfl ?_); (try (refine gate_guard (by rfl) ?_; dsimp only)); refine Kd.R_lit (Kd.int .i64) _ 3 ?hg (N := 230) ?hd (xs := ([4] : List Int)) (inner := [.int .i64 4]) (ok := fun _ => True) (okp := fun _ => True) ?hr ?hp (fun _ hk => hk) trivial (Below.refl _ _) (Nat.le_refl _) (by simp) ?_; (case hd => rfl); (case hg => rfl); (case hr => first | (go_simp; done) | (go_simp; rfl)); (case hp => exact (Reps.one (show Kd.M (Kd.int .i64) _ _ _ 4 [.int .i64 4] from rfl) (Reps.none _ _))); intro v413 w128 ho129 hb hg_ hnew_; clear hg_ hnew_; (first | rw [← Ny412.out] at ho129 | (simp only [Int.reduceToNat] at ho129; rw [← Ny412.out] at ho129)); have n0_ := Aside0.mk (Kd.N_elder' (by (with_reducible repeat (first | apply Kd.N_alloc | apply Kd.N_drewN | apply Kd.N_drew)); exact HO_3.out) (Kd.R_base ho129) hb); have n1_ := Aside0.mk (Kd.N_elder' (by (with_reducible repeat (first | apply Kd.N_alloc | apply Kd.N_drewN | apply Kd.N_drew)); exact HO411.out) (Kd.R_base ho129) hb); have n2_ := Aside0.mk (Kd.R_lower ho129 (below_size (by repeat (first | (with_reducible first | exact HB.out | apply below_alloc | apply pw_below_drewN | apply below_drew1) | exact HB.out)))); have n3_ := Aside0.mk (below_step (by repeat (first | (with_reducible first | exact HB.out | apply below_alloc | apply pw_below_drewN | apply below_drew1) | exact HB.out)) hb); clear HO_3 HO411 HB; have HO_3 := n0_; have HO411 := n1_; have HO414 := n2_; have HB := n3_; clear n0_ n1_ n2_ n3_; clear hb ho129; obtain ⟨Ao130, co130, eo130⟩ := Kd.N_slice HO411.out; subst eo130; obtain ⟨Ao131, co131, eo131⟩ := Kd.R_slice HO414.out; subst eo131) | (go_at_call 17; (with_reducible refine (impl_CountWith.calls kj105 _ _ y409 _ _ y412 t415 _ ?side1 ?side2 ?side3 ?side4 A121.out).mono ?_); (case side1 => repeat (first | exact (Kd.N_reads' HO411.out).2.2 | (with_reducible refine Kd.C_alloc ?_ _) | (with_reducible refine Kd.C_drewN ?_ _) | (with_reducible refine Kd.C_drew ?_))); (case side2 => exact (Kd.N_reads' HO411.out).2.1); (case side3 => repeat (first | exact (Kd.R_reads' HO414.out).2.2 | (with_reducible refine Kd.C_alloc ?_ _) | (with_reducible refine Kd.C_drewN ?_ _) | (with_reducible refine Kd.C_drew ?_))); (case side4 => exact (Kd.R_reads' HO414.out).2.1); rintro e w132 ⟨rfl, hb⟩; have n0_ := Aside0.mk (Kd.N_below (by (with_reducible repeat (first | apply Kd.N_alloc | apply Kd.N_drewN | apply Kd.N_drew)); exact HO_3.out) hb); have n1_ := Aside0.mk (Kd.N_below (by (with_reducible repeat (first | apply Kd.N_alloc | apply Kd.N_drewN | apply Kd.N_drew)); exact HO411.out) hb); have n2_ := Aside0.mk (Kd.R_below (by (with_reducible repeat (first | apply Kd.R_alloc | apply Kd.R_drewN | apply Kd.R_drew)); exact HO414.out) hb); have n3_ := Aside0.mk (below_step (by repeat (first | (with_reducible first | exact HB.out | apply below_alloc | apply pw_below_drewN | apply below_drew1) | exact HB.out)) hb); clear HO_3 HO411 HO414 HB; have HO_3 := n0_; have HO411 := n1_; have HO414 := n2_; have HB := n3_; clear n0_ n1_ n2_ n3_; (try clear hb); (try clear hb2); (try clear hk); (try clear hi)))
                  go_ret
                  exact ⟨by first | rfl | (simp [errW_none, errW_some] <;> rfl) | (simp only [← hji92, ← hji93]; first | rfl | (simp [errW_none, errW_some] <;> rfl)) | (simp [*, errW_none, errW_some] <;> rfl), by repeat (first | (with_reducible first | exact HB.out | apply below_alloc | apply pw_below_drewN | apply below_drew1) | exact HB.out)⟩
                 ·replace c120 := Bool.eq_false_iff.mpr c120
                  subst c120
                  have H1 : (some false) = some r := by rw [if_neg (show ¬ (false = true) by decide)] at H; exact H
                  clear H
                  have H := H1
                  clear H1
                  exact absurd (H.trans (congrArg some HRT.out)) (by simp)
          ·rw [if_neg c91] at H
           have c91b0 : decide (0 < t395) = false := decide_eq_false c91
           clear c91
           replace H := Option.bind_eq_some_iff.mp H
           obtain ⟨t416, A1330, H⟩ := H
           replace H : (if t416 = true then ((impl_CountWith.f kj54 (([(⟨(([1, 4] : List Int))⟩ : S49)] : List (S49))) (([4] : List Int))).bind fun t426 => (some (t426 == 1))) else (some false)) = some r := H
           have A133 := Aside0.mk A1330
           clear A1330
           by_cases c134 : t416 = true
           ·subst c134
            have H1 : ((impl_CountWith.f kj54 (([(⟨(([1, 4] : List Int))⟩ : S49)] : List (S49))) (([4] : List Int))).bind fun t426 => (some (t426 == 1))) = some r := by rw [if_pos rfl] at H; exact H
            clear H
            have H := H1
            clear H1
            obtain ⟨y417, hy417⟩ : ∃ y_ : List Int, y_ = (([1, 4] : List Int)) := ⟨_, rfl⟩
            replace H : ((impl_CountWith.f kj54 (([(⟨y417⟩ : S49)] : List (S49))) (([4] : List Int))).bind fun t426 => (some (t426 == 1))) = some r := by first | (rw [hy417]; with_reducible exact H) | (have H2_ := (Option.bind_some _ _).symm.trans H; rw [hy417]; with_reducible exact H2_) | (have H2_ := (Option.bind_some _ _).symm.trans H; with_reducible exact H2_) | with_reducible exact H | (rw [hy417]; exact H) | exact H
            have Ny417 := Aside0.mk hy417
            clear hy417
            obtain ⟨y420, hy420⟩ : ∃ y_ : List (S49), y_ = (([(⟨y417⟩ : S49)] : List (S49))) := ⟨_, rfl⟩
            replace H : ((impl_CountWith.f kj54 y420 (([4] : List Int))).bind fun t426 => (some (t426 == 1))) = some r := by first | (rw [hy420]; with_reducible exact H) | (have H2_ := (Option.bind_some _ _).symm.trans H; rw [hy420]; with_reducible exact H2_) | (have H2_ := (Option.bind_some _ _).symm.trans H; with_reducible exact H2_) | with_reducible exact H | (rw [hy420]; exact H) | exact H
            have Ny420 := Aside0.mk hy420
            clear hy420
            obtain ⟨y423, hy423⟩ : ∃ y_ : List Int, y_ = (([4] : List Int)) := ⟨_, rfl⟩
            replace H : ((impl_CountWith.f kj54 y420 y423).bind fun t426 => (some (t426 == 1))) = some r := by first | (rw [hy423]; with_reducible exact H) | (have H2_ := (Option.bind_some _ _).symm.trans H; rw [hy423]; with_reducible exact H2_) | (have H2_ := (Option.bind_some _ _).symm.trans H; with_reducible exact H2_) | with_reducible exact H | (rw [hy423]; exact H) | exact H
            have Ny423 := Aside0.mk hy423
            clear hy423
            replace H := Option.bind_eq_some_iff.mp H
            obtain ⟨t426, A1350, H⟩ := H
            replace H : (some (t426 == 1)) = some r := H
            have A135 := Aside0.mk A1350
            clear A1350
            obtain rfl := Option.some.inj H
            go_wp2_with (first | ((with_reducible refine gate_dst (N := 186) rfl ?_); (try (refine gate_guard (by rfl) ?_; dsimp only)); refine Kd.R_lit (Kd.int .i64) _ 3 ?hg (N := 186) ?hd (xs := ([(wrap64 (1 + (Int.tmod t355 6)))] : List Int)) (inner := [.int .i64 (wrap64 (1 + (Int.tmod t355 6)))]) (ok := fun _ => True) (okp := fun _ => True) ?hr ?hp (fun _ hk => hk) trivial (Below.refl _ _) (Nat.le_refl _) (by simp) ?_; (case hd => rfl); (case hg => rfl); (case hr => first | (go_simp; done) | (go_simp; rfl)); (case hp => exact (Reps.one (show Kd.M (Kd.int .i64) _ _ _ (wrap64 (1 + (Int.tmod t355 6))) [.int .i64 (wrap64 (1 + (Int.tmod t355 6)))] from rfl) (Reps.none _ _))); intro v393 w136 ho137 hb hg_ hnew_; clear hg_ hnew_; (first | rw [← Ny392.out] at ho137 | (simp only [Int.reduceToNat] at ho137; rw [← Ny392.out] at ho137)); have n0_ := Aside0.mk (Kd.N_elder' (by (with_reducible repeat (first | apply Kd.N_alloc | apply Kd.N_drewN | apply Kd.N_drew)); exact HO_3.out) (Kd.R_base ho137) hb); have n1_ := Aside0.mk (Kd.R_lower ho137 (below_size (by repeat (first | (with_reducible first | exact HB.out | apply below_alloc | apply pw_below_drewN | apply below_drew1) | exact HB.out)))); have n2_ := Aside0.mk (below_step (by repeat (first | (with_reducible first | exact HB.out | apply below_alloc | apply pw_below_drewN | apply below_drew1) | exact HB.out)) hb); clear HO_3 HB; have HO_3 := n0_; have HO394 := n1_; have HB := n2_; clear n0_ n1_ n2_; clear hb ho137; obtain ⟨Ao138, co138, eo138⟩ := Kd.R_slice HO394.out; subst eo138) | ((with_reducible refine gate_callee (f := 32) rfl ?_); refine goesL_ (some 187) rfl rfl Try.func32 (by kernel_rfl) rfl #[.slice Ao15 t352.length co15, .slice Ao138 y392.length co138] rfl (by (try simp only [List.map_toArray, List.map_cons, List.map_nil]); first | done | rfl | (simp only [List.length_drop, List.length_take]; rfl)) ?_; (with_reducible refine (impl_NextThing.calls kj54 _ _ t352 _ _ y392 t395 _ ?side1 ?side2 ?side3 ?side4 A90.out).mono ?_); (case side1 => repeat (first | exact (Kd.N_reads' HO_3.out).2.2 | (with_reducible refine Kd.C_alloc ?_ _) | (with_reducible refine Kd.C_drewN ?_ _) | (with_reducible refine Kd.C_drew ?_))); (case side2 => exact (Kd.N_reads' HO_3.out).2.1); (case side3 => repeat (first | exact (Kd.R_reads' HO394.out).2.2 | (with_reducible refine Kd.C_alloc ?_ _) | (with_reducible refine Kd.C_drewN ?_ _) | (with_reducible refine Kd.C_drew ?_))); (case side4 => exact (Kd.R_reads' HO394.out).2.1); rintro e w139 ⟨rfl, hb⟩; refine ⟨_, rfl, ?_⟩; have n0_ := Aside0.mk (Kd.N_below (by (with_reducible repeat (first | apply Kd.N_alloc | apply Kd.N_drewN | apply Kd.N_drew)); exact HO_3.out) hb); have n1_ := Aside0.mk (Kd.R_below (by (with_reducible repeat (first | apply Kd.R_alloc | apply Kd.R_drewN | apply Kd.R_drew)); exact HO394.out) hb); have n2_ := Aside0.mk (below_step (by repeat (first | (with_reducible first | exact HB.out | apply below_alloc | apply pw_below_drewN | apply below_drew1) | exact HB.out)) hb); clear HO_3 HO394 HB; have HO_3 := n0_; have HO394 := n1_; have HB := n2_; clear n0_ n1_ n2_; (try clear hb); (try clear hb2); (try clear hk); (try clear hi)) | ((with_reducible refine gate_callee (f := 13) rfl ?_); refine goesL_ (some 225) rfl rfl Try.func13 (by kernel_rfl) rfl #[.slice Ao15 t352.length co15] rfl (by (try simp only [List.map_toArray, List.map_cons, List.map_nil]); first | done | rfl | (simp only [List.length_drop, List.length_take]; rfl)) ?_; (with_reducible refine (impl_BasketsOk.calls kj54 _ _ t352 true _ ?side1 ?side2 A133.out).mono ?_); (case side1 => repeat (first | exact (Kd.N_reads' HO_3.out).2.2 | (with_reducible refine Kd.C_alloc ?_ _) | (with_reducible refine Kd.C_drewN ?_ _) | (with_reducible refine Kd.C_drew ?_))); (case side2 => exact (Kd.N_reads' HO_3.out).2.1); rintro e w140 ⟨rfl, hb⟩; refine ⟨_, rfl, ?_⟩; have n0_ := Aside0.mk (Kd.N_below (by (with_reducible repeat (first | apply Kd.N_alloc | apply Kd.N_drewN | apply Kd.N_drew)); exact HO_3.out) hb); have n1_ := Aside0.mk (Kd.R_below (by (with_reducible repeat (first | apply Kd.R_alloc | apply Kd.R_drewN | apply Kd.R_drew)); exact HO394.out) hb); have n2_ := Aside0.mk (below_step (by repeat (first | (with_reducible first | exact HB.out | apply below_alloc | apply pw_below_drewN | apply below_drew1) | exact HB.out)) hb); clear HO_3 HO394 HB; have HO_3 := n0_; have HO394 := n1_; have HB := n2_; clear n0_ n1_ n2_; (try clear hb); (try clear hb2); (try clear hk); (try clear hi)) | ((with_reducible refine gate_dst (N := 227) rfl ?_); (try (refine gate_guard (by rfl) ?_; dsimp only)); refine Kd.R_lit (Kd.int .i64) _ 3 ?hg (N := 227) ?hd (xs := ([1, 4] : List Int)) (inner := [.int .i64 1, .int .i64 4]) (ok := fun _ => True) (okp := fun _ => True) ?hr ?hp (fun _ hk => hk) trivial (Below.refl _ _) (Nat.le_refl _) (by simp) ?_; (case hd => rfl); (case hg => rfl); (case hr => first | (go_simp; done) | (go_simp; rfl)); (case hp => exact (Reps.one (show Kd.M (Kd.int .i64) _ _ _ 1 [.int .i64 1] from rfl) (Reps.one (show Kd.M (Kd.int .i64) _ _ _ 4 [.int .i64 4] from rfl) (Reps.none _ _)))); intro v418 w141 ho142 hb hg_ hnew_; clear hg_ hnew_; (first | rw [← Ny417.out] at ho142 | (simp only [Int.reduceToNat] at ho142; rw [← Ny417.out] at ho142)); have n0_ := Aside0.mk (Kd.N_elder' (by (with_reducible repeat (first | apply Kd.N_alloc | apply Kd.N_drewN | apply Kd.N_drew)); exact HO_3.out) (Kd.R_base ho142) hb); have n1_ := Aside0.mk (Kd.R_elder' (by (with_reducible repeat (first | apply Kd.R_alloc | apply Kd.R_drewN | apply Kd.R_drew)); exact HO394.out) (Kd.R_base ho142) hb); have n2_ := Aside0.mk (Kd.R_lower (Kd.R_new' ho142 (Kd.R_lt (by (with_reducible repeat (first | apply Kd.R_alloc | apply Kd.R_drewN | apply Kd.R_drew)); exact HO394.out))) (below_size (by repeat (first | (with_reducible first | exact HB.out | apply below_alloc | apply pw_below_drewN | apply below_drew1) | exact HB.out)))); have n3_ := Aside0.mk (below_step (by repeat (first | (with_reducible first | exact HB.out | apply below_alloc | apply pw_below_drewN | apply below_drew1) | exact HB.out)) hb); clear HO_3 HO394 HB; have HO_3 := n0_; have HO394 := n1_; have HO419 := n2_; have HB := n3_; clear n0_ n1_ n2_ n3_; clear hb ho142; obtain ⟨Ao143, co143, eo143⟩ := Kd.R_slice HO419.out; subst eo143) | ((with_reducible refine gate_dst (N := 229) rfl ?_); (try (refine gate_guard (by rfl) ?_; dsimp only)); refine Kd.N_lit k49 _ 49 ?hg (N' := 229) ?hd (xs := ([(⟨y417⟩ : S49)] : List (S49))) (inner := [.slice Ao143 y417.length co143]) (ok := (fun k_ => some k_ ≠ (.slice Ao15 t352.length co15 : Value).ownBlock ∧ some k_ ≠ (.slice Ao138 y392.length co138 : Value).ownBlock)) (okp := (fun k_ => some k_ ≠ (.slice Ao15 t352.length co15 : Value).ownBlock ∧ some k_ ≠ (.slice Ao138 y392.length co138 : Value).ownBlock)) ?hr ?hp (fun _ hk => hk) ((show ∀ k_, w141.heap.size ≤ k_ → (fun k_ => some k_ ≠ (.slice Ao15 t352.length co15 : Value).ownBlock ∧ some k_ ≠ (.slice Ao138 y392.length co138 : Value).ownBlock) k_ from fun k_ hk => ⟨Kd.fresh' (Kd.N_lt (by (with_reducible repeat (first | apply Kd.N_alloc | apply Kd.N_drewN | apply Kd.N_drew)); exact HO_3.out)) k_ hk, Kd.fresh' (Kd.R_lt (by (with_reducible repeat (first | apply Kd.R_alloc | apply Kd.R_drewN | apply Kd.R_drew)); exact HO394.out)) k_ hk⟩) _ (Nat.le_refl _)) (Below.refl _ _) (Nat.le_refl _) (by simp) ?_; (case hd => rfl); (case hg => rfl); (case hr => first | (go_simp; done) | (go_simp; rfl)); (case hp => exact (Reps.one (show Kd.FK k49 _ _ (⟨y417⟩ : S49) [.slice Ao143 y417.length co143] from (k49_mkF _ _ (⟨y417⟩ : S49) (Kd.R_reads' (Kd.R_mono (ok' := (fun k_ => some k_ ≠ (.slice Ao15 t352.length co15 : Value).ownBlock ∧ some k_ ≠ (.slice Ao138 y392.length co138 : Value).ownBlock)) (Kd.R_apart' (HO419.out) (Kd.N_typed HO_3.out) (by decide)) (fun k_ hk => ⟨hk.2, hk.1.2⟩))).2.1 (Kd.R_F (Kd.R_mono (ok' := (fun k_ => some k_ ≠ (.slice Ao15 t352.length co15 : Value).ownBlock ∧ some k_ ≠ (.slice Ao138 y392.length co138 : Value).ownBlock)) (Kd.R_apart' (HO419.out) (Kd.N_typed HO_3.out) (by decide)) (fun k_ hk => ⟨hk.2, hk.1.2⟩))))) (Reps.none _ _))); intro v421 w144 ho145 hb hg_ hnew_; clear hg_ hnew_; (first | rw [← Ny420.out] at ho145 | (simp only [Int.reduceToNat] at ho145; rw [← Ny420.out] at ho145)); have n0_ := Aside0.mk (Kd.N_elder' (by (with_reducible repeat (first | apply Kd.N_alloc | apply Kd.N_drewN | apply Kd.N_drew)); exact HO_3.out) (by first | exact Kd.N_base ho145 | exact Kd.S_base ho145) hb); have n1_ := Aside0.mk (Kd.R_below (by (with_reducible repeat (first | apply Kd.R_alloc | apply Kd.R_drewN | apply Kd.R_drew)); exact HO394.out) hb); have n2_ := Aside0.mk (Kd.N_lower ho145 (below_size (by repeat (first | (with_reducible first | exact HB.out | apply below_alloc | apply pw_below_drewN | apply below_drew1) | exact HB.out)))); have n3_ := Aside0.mk (below_step (by repeat (first | (with_reducible first | exact HB.out | apply below_alloc | apply pw_below_drewN | apply below_drew1) | exact HB.out)) hb); clear HO_3 HO394 HB HO419; have HO_3 := n0_; have HO394 := n1_; have HO422 := n2_; have HB := n3_; clear n0_ n1_ n2_ n3_; clear hb ho145) | ((with_reducible refine gate_dst (N := 230) rfl ?_); (try (refine gate_guard (by rfl) ?_; dsimp only)); refine Kd.R_lit (Kd.int .i64) _ 3 ?hg (N := 230) ?hd (xs := ([4] : List Int)) (inner := [.int .i64 4]) (ok := fun _ => True) (okp := fun _ => True) ?hr ?hp (fun _ hk => hk) trivial (Below.refl _ _) (Nat.le_refl _) (by simp) ?_; (case hd => rfl); (case hg => rfl); (case hr => first | (go_simp; done) | (go_simp; rfl)); (case hp => exact (Reps.one (show Kd.M (Kd.int .i64) _ _ _ 4 [.int .i64 4] from rfl) (Reps.none _ _))); intro v424 w146 ho147 hb hg_ hnew_; clear hg_ hnew_; (first | rw [← Ny423.out] at ho147 | (simp only [Int.reduceToNat] at ho147; rw [← Ny423.out] at ho147)); have n0_ := Aside0.mk (Kd.N_elder' (by (with_reducible repeat (first | apply Kd.N_alloc | apply Kd.N_drewN | apply Kd.N_drew)); exact HO_3.out) (Kd.R_base ho147) hb); have n1_ := Aside0.mk (Kd.R_elder' (by (with_reducible repeat (first | apply Kd.R_alloc | apply Kd.R_drewN | apply Kd.R_drew)); exact HO394.out) (Kd.R_base ho147) hb); have n2_ := Aside0.mk (Kd.N_elder' (by (with_reducible repeat (first | apply Kd.N_alloc | apply Kd.N_drewN | apply Kd.N_drew)); exact HO422.out) (Kd.R_base ho147) hb); have n3_ := Aside0.mk (Kd.R_lower (Kd.R_new' ho147 (Kd.R_lt (by (with_reducible repeat (first | apply Kd.R_alloc | apply Kd.R_drewN | apply Kd.R_drew)); exact HO394.out))) (below_size (by repeat (first | (with_reducible first | exact HB.out | apply below_alloc | apply pw_below_drewN | apply below_drew1) | exact HB.out)))); have n4_ := Aside0.mk (below_step (by repeat (first | (with_reducible first | exact HB.out | apply below_alloc | apply pw_below_drewN | apply below_drew1) | exact HB.out)) hb); clear HO_3 HO394 HO422 HB; have HO_3 := n0_; have HO394 := n1_; have HO422 := n2_; have HO425 := n3_; have HB := n4_; clear n0_ n1_ n2_ n3_ n4_; clear hb ho147; obtain ⟨Ao148, co148, eo148⟩ := Kd.N_slice HO422.out; subst eo148; obtain ⟨Ao149, co149, eo149⟩ := Kd.R_slice HO425.out; subst eo149) | (go_at_call 17; (with_reducible refine (impl_CountWith.calls kj54 _ _ y420 _ _ y423 t426 _ ?side1 ?side2 ?side3 ?side4 A135.out).mono ?_); (case side1 => repeat (first | exact (Kd.N_reads' HO422.out).2.2 | (with_reducible refine Kd.C_alloc ?_ _) | (with_reducible refine Kd.C_drewN ?_ _) | (with_reducible refine Kd.C_drew ?_))); (case side2 => exact (Kd.N_reads' HO422.out).2.1); (case side3 => repeat (first | exact (Kd.R_reads' HO425.out).2.2 | (with_reducible refine Kd.C_alloc ?_ _) | (with_reducible refine Kd.C_drewN ?_ _) | (with_reducible refine Kd.C_drew ?_))); (case side4 => exact (Kd.R_reads' HO425.out).2.1); rintro e w150 ⟨rfl, hb⟩; have n0_ := Aside0.mk (Kd.N_below (by (with_reducible repeat (first | apply Kd.N_alloc | apply Kd.N_drewN | apply Kd.N_drew)); exact HO_3.out) hb); have n1_ := Aside0.mk (Kd.R_below (by (with_reducible repeat (first | apply Kd.R_alloc | apply Kd.R_drewN | apply Kd.R_drew)); exact HO394.out) hb); have n2_ := Aside0.mk (Kd.N_below (by (with_reducible repeat (first | apply Kd.N_alloc | apply Kd.N_drewN | apply Kd.N_drew)); exact HO422.out) hb); have n3_ := Aside0.mk (Kd.R_below (by (with_reducible repeat (first | apply Kd.R_alloc | apply Kd.R_drewN | apply Kd.R_drew)); exact HO425.out) hb); have n4_ := Aside0.mk (below_step (by repeat (first | (with_reducible first | exact HB.out | apply below_alloc | apply pw_below_drewN | apply below_drew1) | exact HB.out)) hb); clear HO_3 HO394 HO422 HO425 HB; have HO_3 := n0_; have HO394 := n1_; have HO422 := n2_; have HO425 := n3_; have HB := n4_; clear n0_ n1_ n2_ n3_ n4_; (try clear hb); (try clear hb2); (try clear hk); (try clear hi)))
            go_ret
            exact ⟨by first | rfl | (simp [errW_none, errW_some] <;> rfl) | (simp [*, errW_none, errW_some] <;> rfl), by repeat (first | (with_reducible first | exact HB.out | apply below_alloc | apply pw_below_drewN | apply below_drew1) | exact HB.out)⟩
           ·replace c134 := Bool.eq_false_iff.mpr c134
            subst c134
            have H1 : (some false) = some r := by rw [if_neg (show ¬ (false = true) by decide)] at H; exact H
            clear H
            have H := H1
            clear H1
            exact absurd (H.trans (congrArg some HRT.out)) (by simp)
/-- THE ONE PURE STATEMENT of laws_FnBaskets. -/
def laws_FnBaskets.Pure : Prop := ∀ (l0 : List Int), l0.length ≤ maxLen → l0.length * 1 ≤ 140737488351232 → (∀ x ∈ l0, (Lit.int .u8 x).wf = true) → ∃ k, laws_FnBaskets.f k l0 = some true
theorem laws_FnBaskets.walk (P : laws_FnBaskets.Pure) (A0 : Option Addr) (c0 : Nat) (l0 : List Int) (w : World) (hr0 : Kd.C (Kd.int .u8) w A0 l0.length l0) (hc0 : l0.length ≤ c0) (y0 : l0.length ≤ maxLen) (y1 : l0.length * 1 ≤ 140737488351232) (y2 : (∀ x ∈ l0, (Lit.int .u8 x).wf = true)) :
  Calls Try.prog 9 #[.slice A0 l0.length c0] w fun e w' => e = .returned (.bool true) ∧ Below w.heap.size w w' := by
 obtain ⟨k, h⟩ := P l0 y0 y1 y2
 refine (laws_FnBaskets.calls k A0 c0 l0 true w hr0 hc0 rfl h).mono ?_
 rintro e w' ⟨rfl, hd⟩
 exact ⟨rfl, hd⟩

end Go.Proofs.Ytkgigoefmpkngaa.PCL
