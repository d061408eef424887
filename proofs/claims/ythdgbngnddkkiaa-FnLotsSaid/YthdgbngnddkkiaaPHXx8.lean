-- Written by a program of this session (wip/hprint.py, over the kit's print).
import Derived.Test.YthdgbngnddkkiaaPHXx0
import Derived.Test.YthdgbngnddkkiaaPHXx1
import Derived.Test.YthdgbngnddkkiaaPHXx3
import Derived.Test.YthdgbngnddkkiaaPHXx4
import Derived.Test.YthdgbngnddkkiaaPHXx5
import Derived.Test.YthdgbngnddkkiaaPHXx6
import Derived.Test.YthdgbngnddkkiaaPHXx7
namespace Go.Proofs.Ythdgbngnddkkiaa.PHX
open Go.RowKit Go.Proofs.YthdgbngnddkkiaaW.PrintWords Go.Proofs.YthdgbngnddkkiaaW.PrintLast Go.Proofs.YthdgbngnddkkiaaW.PrintMore
attribute [local go_sem] max2_int min2_int max_two min_two max_three min_three max_four min_four   -- for this text's walks alone
set_option linter.unusedVariables false
set_option linter.unusedSimpArgs false

/-! ### laws_FnLots: function 6 -/
mutual
def laws_FnLots.j0 : Nat → List (S39) → Int → List Int → List Int → Bool → Option (Bool)
 | 0, _, _, _, _, _ => none
 | k + 1, x3, x4, x6, x7, x52 => if x52 = true then (some false) else (laws_FnLots.l0 k x3 x4 x6 x7 0 0 1)
def laws_FnLots.l0 : Nat → List (S39) → Int → List Int → List Int → Int → Int → Int → Option (Bool)
 | 0, _, _, _, _, _, _, _ => none
 | k + 1, x3, x4, x6, x7, x8, x9, x10 => if x10 ≤ 6 then ((impl_UsedOf.f k x3 x10).bind fun t367 => ((laws_has.f k x6 x10).bind fun t368 => ((impl_Reached.f k x3 x10).bind fun t369 => ((laws_has.f k t369 x4).bind fun t372 => (if (t368 != t372) = true then (some false) else (laws_FnLots.l0 k x3 x4 x6 x7 (wrap64 (x8 + t367)) x9 (wrap64 (x10 + 1)))))))) else (laws_FnLots.l1 k x3 x4 x6 x7 x8 x9 0)
def laws_FnLots.l1 : Nat → List (S39) → Int → List Int → List Int → Int → Int → Int → Option (Bool)
 | 0, _, _, _, _, _, _, _ => none
 | k + 1, x3, x4, x6, x7, x8, x9, x11 => if x11 < (x3.length : Int) then (if 0 ≤ x11 then (laws_FnLots.l1 k x3 x4 x6 x7 x8 (wrap64 (x9 + ((rd_T39 x3 x11).f2))) (wrap64 (x11 + 1))) else (none)) else (laws_FnLots.l2 k x3 x4 x6 x7 x8 x9 0)
def laws_FnLots.l2 : Nat → List (S39) → Int → List Int → List Int → Int → Int → Int → Option (Bool)
 | 0, _, _, _, _, _, _, _ => none
 | k + 1, x3, x4, x6, x7, x8, x9, x12 => if x12 < (x7.length : Int) then (if 0 ≤ x12 then ((impl_LotsOf.f k x3 (rd x7 x12)).bind fun t375 => (laws_FnLots.l3 k x3 x4 x6 x7 x8 x9 x12 t375 0)) else (none)) else ((impl_Suspects.f k x3 x7).bind fun t380 => (laws_FnLots.l4 k x3 x4 x7 x8 x9 t380 0))
def laws_FnLots.l3 : Nat → List (S39) → Int → List Int → List Int → Int → Int → Int → List Int → Int → Option (Bool)
 | 0, _, _, _, _, _, _, _, _, _ => none
 | k + 1, x3, x4, x6, x7, x8, x9, x12, x13, x14 => if x14 < (x13.length : Int) then (if 0 ≤ x14 then ((laws_has.f k x6 (rd x13 x14)).bind fun t379 => (if t379 = true then (laws_FnLots.l3 k x3 x4 x6 x7 x8 x9 x12 x13 (wrap64 (x14 + 1))) else (some false))) else (none)) else (laws_FnLots.l2 k x3 x4 x6 x7 x8 x9 (wrap64 (x12 + 1)))
def laws_FnLots.l4 : Nat → List (S39) → Int → List Int → Int → Int → List Int → Int → Option (Bool)
 | 0, _, _, _, _, _, _, _ => none
 | k + 1, x3, x4, x7, x8, x9, x15, x16 => if x16 < (x15.length : Int) then (if 0 ≤ x16 then ((impl_BreadsOf.f k x3 (rd x15 x16)).bind fun t387 => ((laws_sameInts.f k t387 x7).bind fun t390 => (if t390 = true then (laws_FnLots.l4 k x3 x4 x7 x8 x9 x15 (wrap64 (x16 + 1))) else (some false)))) else (none)) else (if x8 = x9 then ((laws_has.f k x15 x4).bind fun t383 => (if (t383 == (decide ((x7.length : Int) > 0))) = true then ((impl_UsesOk.f x3).bind fun t384 => (if t384 = true then ((impl_UsedOf.f k x3 50).bind fun t385 => (some (t385 == 0))) else (some false))) else (some false))) else (some false))
end
def laws_FnLots.f (k : Nat) (l0 : List Int) : Option (Bool) := (laws_big.f l0).bind fun t349 => (if t349 = true then (some true) else ((spec_DrawUses.f k l0).bind fun t350 => ((laws_at.f l0 0).bind fun t353 => ((laws_at.f l0 1).bind fun t354 => ((impl_Reached.f k t350 (wrap64 (1 + (Int.tmod t353 6)))).bind fun t355 => ((impl_BreadsOf.f k t350 (wrap64 (1 + (Int.tmod t353 6)))).bind fun t358 => ((laws_has.f k t358 (wrap64 (1 + (Int.tmod t354 7)))).bind fun t361 => ((impl_LotsOf.f k t350 (wrap64 (1 + (Int.tmod t354 7)))).bind fun t362 => ((laws_has.f k t362 (wrap64 (1 + (Int.tmod t353 6)))).bind fun t365 => (if (t361 != t365) = true then (laws_FnLots.j0 k t350 (wrap64 (1 + (Int.tmod t353 6))) t355 t358 true) else ((laws_has.f k t355 (wrap64 (1 + (Int.tmod t353 6)))).bind fun t366 => (laws_FnLots.j0 k t350 (wrap64 (1 + (Int.tmod t353 6))) t355 t358 (t366 != (decide ((t358.length : Int) > 0)))))))))))))))
theorem laws_FnLots.mono_l : ∀ k, (∀ y0 y1 y2 y3 y4, LeO (laws_FnLots.j0 k y0 y1 y2 y3 y4) (laws_FnLots.j0 (k + 1) y0 y1 y2 y3 y4)) ∧ (∀ y0 y1 y2 y3 y4 y5 y6, LeO (laws_FnLots.l0 k y0 y1 y2 y3 y4 y5 y6) (laws_FnLots.l0 (k + 1) y0 y1 y2 y3 y4 y5 y6)) ∧ (∀ y0 y1 y2 y3 y4 y5 y6, LeO (laws_FnLots.l1 k y0 y1 y2 y3 y4 y5 y6) (laws_FnLots.l1 (k + 1) y0 y1 y2 y3 y4 y5 y6)) ∧ (∀ y0 y1 y2 y3 y4 y5 y6, LeO (laws_FnLots.l2 k y0 y1 y2 y3 y4 y5 y6) (laws_FnLots.l2 (k + 1) y0 y1 y2 y3 y4 y5 y6)) ∧ (∀ y0 y1 y2 y3 y4 y5 y6 y7 y8, LeO (laws_FnLots.l3 k y0 y1 y2 y3 y4 y5 y6 y7 y8) (laws_FnLots.l3 (k + 1) y0 y1 y2 y3 y4 y5 y6 y7 y8)) ∧ (∀ y0 y1 y2 y3 y4 y5 y6, LeO (laws_FnLots.l4 k y0 y1 y2 y3 y4 y5 y6) (laws_FnLots.l4 (k + 1) y0 y1 y2 y3 y4 y5 y6))
 | 0 => ⟨fun _ _ _ _ _ r h => by simp [laws_FnLots.j0] at h, fun _ _ _ _ _ _ _ r h => by simp [laws_FnLots.l0] at h, fun _ _ _ _ _ _ _ r h => by simp [laws_FnLots.l1] at h, fun _ _ _ _ _ _ _ r h => by simp [laws_FnLots.l2] at h, fun _ _ _ _ _ _ _ _ _ r h => by simp [laws_FnLots.l3] at h, fun _ _ _ _ _ _ _ r h => by simp [laws_FnLots.l4] at h⟩
 | k + 1 => by
  obtain ⟨ih0, ih1, ih2, ih3, ih4, ih5⟩ := laws_FnLots.mono_l k
  refine ⟨?_, ?_, ?_, ?_, ?_, ?_⟩
  ·intro y0 y1 y2 y3 y4
   unfold laws_FnLots.j0
   repeat' first
   | (with_reducible exact ih0 _ _ _ _ _)
   | (with_reducible exact ih1 _ _ _ _ _ _ _)
   | (with_reducible exact ih2 _ _ _ _ _ _ _)
   | (with_reducible exact ih3 _ _ _ _ _ _ _)
   | (with_reducible exact ih4 _ _ _ _ _ _ _ _ _)
   | (with_reducible exact ih5 _ _ _ _ _ _ _)
   | (with_reducible exact impl_BreadsOf.mono _ _ _)
   | (with_reducible exact impl_LotsOf.mono _ _ _)
   | (with_reducible exact impl_Reached.mono _ _ _)
   | (with_reducible exact impl_Suspects.mono _ _ _)
   | (with_reducible exact impl_UsedOf.mono _ _ _)
   | (with_reducible exact laws_has.mono _ _ _)
   | (with_reducible exact laws_sameInts.mono _ _ _)
   | (with_reducible exact spec_DrawUses.mono _ _)
   | (with_reducible exact LeO.refl _)
   | (with_reducible exact LeO.none _)
   | (with_reducible refine LeO.ite ?_ ?_)
   | (with_reducible refine LeO.bind ?_ (fun _ => ?_))
   | exact ih0 _ _ _ _ _
   | exact ih1 _ _ _ _ _ _ _
   | exact ih2 _ _ _ _ _ _ _
   | exact ih3 _ _ _ _ _ _ _
   | exact ih4 _ _ _ _ _ _ _ _ _
   | exact ih5 _ _ _ _ _ _ _
   | exact impl_BreadsOf.mono _ _ _
   | exact impl_LotsOf.mono _ _ _
   | exact impl_Reached.mono _ _ _
   | exact impl_Suspects.mono _ _ _
   | exact impl_UsedOf.mono _ _ _
   | exact laws_has.mono _ _ _
   | exact laws_sameInts.mono _ _ _
   | exact spec_DrawUses.mono _ _
   | exact LeO.none _
   | refine LeO.ite ?_ ?_
   | refine LeO.bind ?_ (fun _ => ?_)
  ·intro y0 y1 y2 y3 y4 y5 y6
   unfold laws_FnLots.l0
   repeat' first
   | (with_reducible exact ih0 _ _ _ _ _)
   | (with_reducible exact ih1 _ _ _ _ _ _ _)
   | (with_reducible exact ih2 _ _ _ _ _ _ _)
   | (with_reducible exact ih3 _ _ _ _ _ _ _)
   | (with_reducible exact ih4 _ _ _ _ _ _ _ _ _)
   | (with_reducible exact ih5 _ _ _ _ _ _ _)
   | (with_reducible exact impl_BreadsOf.mono _ _ _)
   | (with_reducible exact impl_LotsOf.mono _ _ _)
   | (with_reducible exact impl_Reached.mono _ _ _)
   | (with_reducible exact impl_Suspects.mono _ _ _)
   | (with_reducible exact impl_UsedOf.mono _ _ _)
   | (with_reducible exact laws_has.mono _ _ _)
   | (with_reducible exact laws_sameInts.mono _ _ _)
   | (with_reducible exact spec_DrawUses.mono _ _)
   | (with_reducible exact LeO.refl _)
   | (with_reducible exact LeO.none _)
   | (with_reducible refine LeO.ite ?_ ?_)
   | (with_reducible refine LeO.bind ?_ (fun _ => ?_))
   | exact ih0 _ _ _ _ _
   | exact ih1 _ _ _ _ _ _ _
   | exact ih2 _ _ _ _ _ _ _
   | exact ih3 _ _ _ _ _ _ _
   | exact ih4 _ _ _ _ _ _ _ _ _
   | exact ih5 _ _ _ _ _ _ _
   | exact impl_BreadsOf.mono _ _ _
   | exact impl_LotsOf.mono _ _ _
   | exact impl_Reached.mono _ _ _
   | exact impl_Suspects.mono _ _ _
   | exact impl_UsedOf.mono _ _ _
   | exact laws_has.mono _ _ _
   | exact laws_sameInts.mono _ _ _
   | exact spec_DrawUses.mono _ _
   | exact LeO.none _
   | refine LeO.ite ?_ ?_
   | refine LeO.bind ?_ (fun _ => ?_)
  ·intro y0 y1 y2 y3 y4 y5 y6
   unfold laws_FnLots.l1
   repeat' first
   | (with_reducible exact ih0 _ _ _ _ _)
   | (with_reducible exact ih1 _ _ _ _ _ _ _)
   | (with_reducible exact ih2 _ _ _ _ _ _ _)
   | (with_reducible exact ih3 _ _ _ _ _ _ _)
   | (with_reducible exact ih4 _ _ _ _ _ _ _ _ _)
   | (with_reducible exact ih5 _ _ _ _ _ _ _)
   | (with_reducible exact impl_BreadsOf.mono _ _ _)
   | (with_reducible exact impl_LotsOf.mono _ _ _)
   | (with_reducible exact impl_Reached.mono _ _ _)
   | (with_reducible exact impl_Suspects.mono _ _ _)
   | (with_reducible exact impl_UsedOf.mono _ _ _)
   | (with_reducible exact laws_has.mono _ _ _)
   | (with_reducible exact laws_sameInts.mono _ _ _)
   | (with_reducible exact spec_DrawUses.mono _ _)
   | (with_reducible exact LeO.refl _)
   | (with_reducible exact LeO.none _)
   | (with_reducible refine LeO.ite ?_ ?_)
   | (with_reducible refine LeO.bind ?_ (fun _ => ?_))
   | exact ih0 _ _ _ _ _
   | exact ih1 _ _ _ _ _ _ _
   | exact ih2 _ _ _ _ _ _ _
   | exact ih3 _ _ _ _ _ _ _
   | exact ih4 _ _ _ _ _ _ _ _ _
   | exact ih5 _ _ _ _ _ _ _
   | exact impl_BreadsOf.mono _ _ _
   | exact impl_LotsOf.mono _ _ _
   | exact impl_Reached.mono _ _ _
   | exact impl_Suspects.mono _ _ _
   | exact impl_UsedOf.mono _ _ _
   | exact laws_has.mono _ _ _
   | exact laws_sameInts.mono _ _ _
   | exact spec_DrawUses.mono _ _
   | exact LeO.none _
   | refine LeO.ite ?_ ?_
   | refine LeO.bind ?_ (fun _ => ?_)
  ·intro y0 y1 y2 y3 y4 y5 y6
   unfold laws_FnLots.l2
   repeat' first
   | (with_reducible exact ih0 _ _ _ _ _)
   | (with_reducible exact ih1 _ _ _ _ _ _ _)
   | (with_reducible exact ih2 _ _ _ _ _ _ _)
   | (with_reducible exact ih3 _ _ _ _ _ _ _)
   | (with_reducible exact ih4 _ _ _ _ _ _ _ _ _)
   | (with_reducible exact ih5 _ _ _ _ _ _ _)
   | (with_reducible exact impl_BreadsOf.mono _ _ _)
   | (with_reducible exact impl_LotsOf.mono _ _ _)
   | (with_reducible exact impl_Reached.mono _ _ _)
   | (with_reducible exact impl_Suspects.mono _ _ _)
   | (with_reducible exact impl_UsedOf.mono _ _ _)
   | (with_reducible exact laws_has.mono _ _ _)
   | (with_reducible exact laws_sameInts.mono _ _ _)
   | (with_reducible exact spec_DrawUses.mono _ _)
   | (with_reducible exact LeO.refl _)
   | (with_reducible exact LeO.none _)
   | (with_reducible refine LeO.ite ?_ ?_)
   | (with_reducible refine LeO.bind ?_ (fun _ => ?_))
   | exact ih0 _ _ _ _ _
   | exact ih1 _ _ _ _ _ _ _
   | exact ih2 _ _ _ _ _ _ _
   | exact ih3 _ _ _ _ _ _ _
   | exact ih4 _ _ _ _ _ _ _ _ _
   | exact ih5 _ _ _ _ _ _ _
   | exact impl_BreadsOf.mono _ _ _
   | exact impl_LotsOf.mono _ _ _
   | exact impl_Reached.mono _ _ _
   | exact impl_Suspects.mono _ _ _
   | exact impl_UsedOf.mono _ _ _
   | exact laws_has.mono _ _ _
   | exact laws_sameInts.mono _ _ _
   | exact spec_DrawUses.mono _ _
   | exact LeO.none _
   | refine LeO.ite ?_ ?_
   | refine LeO.bind ?_ (fun _ => ?_)
  ·intro y0 y1 y2 y3 y4 y5 y6 y7 y8
   unfold laws_FnLots.l3
   repeat' first
   | (with_reducible exact ih0 _ _ _ _ _)
   | (with_reducible exact ih1 _ _ _ _ _ _ _)
   | (with_reducible exact ih2 _ _ _ _ _ _ _)
   | (with_reducible exact ih3 _ _ _ _ _ _ _)
   | (with_reducible exact ih4 _ _ _ _ _ _ _ _ _)
   | (with_reducible exact ih5 _ _ _ _ _ _ _)
   | (with_reducible exact impl_BreadsOf.mono _ _ _)
   | (with_reducible exact impl_LotsOf.mono _ _ _)
   | (with_reducible exact impl_Reached.mono _ _ _)
   | (with_reducible exact impl_Suspects.mono _ _ _)
   | (with_reducible exact impl_UsedOf.mono _ _ _)
   | (with_reducible exact laws_has.mono _ _ _)
   | (with_reducible exact laws_sameInts.mono _ _ _)
   | (with_reducible exact spec_DrawUses.mono _ _)
   | (with_reducible exact LeO.refl _)
   | (with_reducible exact LeO.none _)
   | (with_reducible refine LeO.ite ?_ ?_)
   | (with_reducible refine LeO.bind ?_ (fun _ => ?_))
   | exact ih0 _ _ _ _ _
   | exact ih1 _ _ _ _ _ _ _
   | exact ih2 _ _ _ _ _ _ _
   | exact ih3 _ _ _ _ _ _ _
   | exact ih4 _ _ _ _ _ _ _ _ _
   | exact ih5 _ _ _ _ _ _ _
   | exact impl_BreadsOf.mono _ _ _
   | exact impl_LotsOf.mono _ _ _
   | exact impl_Reached.mono _ _ _
   | exact impl_Suspects.mono _ _ _
   | exact impl_UsedOf.mono _ _ _
   | exact laws_has.mono _ _ _
   | exact laws_sameInts.mono _ _ _
   | exact spec_DrawUses.mono _ _
   | exact LeO.none _
   | refine LeO.ite ?_ ?_
   | refine LeO.bind ?_ (fun _ => ?_)
  ·intro y0 y1 y2 y3 y4 y5 y6
   unfold laws_FnLots.l4
   repeat' first
   | (with_reducible exact ih0 _ _ _ _ _)
   | (with_reducible exact ih1 _ _ _ _ _ _ _)
   | (with_reducible exact ih2 _ _ _ _ _ _ _)
   | (with_reducible exact ih3 _ _ _ _ _ _ _)
   | (with_reducible exact ih4 _ _ _ _ _ _ _ _ _)
   | (with_reducible exact ih5 _ _ _ _ _ _ _)
   | (with_reducible exact impl_BreadsOf.mono _ _ _)
   | (with_reducible exact impl_LotsOf.mono _ _ _)
   | (with_reducible exact impl_Reached.mono _ _ _)
   | (with_reducible exact impl_Suspects.mono _ _ _)
   | (with_reducible exact impl_UsedOf.mono _ _ _)
   | (with_reducible exact laws_has.mono _ _ _)
   | (with_reducible exact laws_sameInts.mono _ _ _)
   | (with_reducible exact spec_DrawUses.mono _ _)
   | (with_reducible exact LeO.refl _)
   | (with_reducible exact LeO.none _)
   | (with_reducible refine LeO.ite ?_ ?_)
   | (with_reducible refine LeO.bind ?_ (fun _ => ?_))
   | exact ih0 _ _ _ _ _
   | exact ih1 _ _ _ _ _ _ _
   | exact ih2 _ _ _ _ _ _ _
   | exact ih3 _ _ _ _ _ _ _
   | exact ih4 _ _ _ _ _ _ _ _ _
   | exact ih5 _ _ _ _ _ _ _
   | exact impl_BreadsOf.mono _ _ _
   | exact impl_LotsOf.mono _ _ _
   | exact impl_Reached.mono _ _ _
   | exact impl_Suspects.mono _ _ _
   | exact impl_UsedOf.mono _ _ _
   | exact laws_has.mono _ _ _
   | exact laws_sameInts.mono _ _ _
   | exact spec_DrawUses.mono _ _
   | exact LeO.none _
   | refine LeO.ite ?_ ?_
   | refine LeO.bind ?_ (fun _ => ?_)
theorem laws_FnLots.mono : ∀ a0 k, LeO (laws_FnLots.f k a0) (laws_FnLots.f (k + 1) a0) := by
 intro a0 k
 obtain ⟨ih0, ih1, ih2, ih3, ih4, ih5⟩ := laws_FnLots.mono_l k
 unfold laws_FnLots.f
 repeat' first
   | (with_reducible exact ih0 _ _ _ _ _)
   | (with_reducible exact ih1 _ _ _ _ _ _ _)
   | (with_reducible exact ih2 _ _ _ _ _ _ _)
   | (with_reducible exact ih3 _ _ _ _ _ _ _)
   | (with_reducible exact ih4 _ _ _ _ _ _ _ _ _)
   | (with_reducible exact ih5 _ _ _ _ _ _ _)
   | (with_reducible exact impl_BreadsOf.mono _ _ _)
   | (with_reducible exact impl_LotsOf.mono _ _ _)
   | (with_reducible exact impl_Reached.mono _ _ _)
   | (with_reducible exact impl_Suspects.mono _ _ _)
   | (with_reducible exact impl_UsedOf.mono _ _ _)
   | (with_reducible exact laws_has.mono _ _ _)
   | (with_reducible exact laws_sameInts.mono _ _ _)
   | (with_reducible exact spec_DrawUses.mono _ _)
   | (with_reducible exact LeO.refl _)
   | (with_reducible exact LeO.none _)
   | (with_reducible refine LeO.ite ?_ ?_)
   | (with_reducible refine LeO.bind ?_ (fun _ => ?_))
   | exact ih0 _ _ _ _ _
   | exact ih1 _ _ _ _ _ _ _
   | exact ih2 _ _ _ _ _ _ _
   | exact ih3 _ _ _ _ _ _ _
   | exact ih4 _ _ _ _ _ _ _ _ _
   | exact ih5 _ _ _ _ _ _ _
   | exact impl_BreadsOf.mono _ _ _
   | exact impl_LotsOf.mono _ _ _
   | exact impl_Reached.mono _ _ _
   | exact impl_Suspects.mono _ _ _
   | exact impl_UsedOf.mono _ _ _
   | exact laws_has.mono _ _ _
   | exact laws_sameInts.mono _ _ _
   | exact spec_DrawUses.mono _ _
   | exact LeO.none _
   | refine LeO.ite ?_ ?_
   | refine LeO.bind ?_ (fun _ => ?_)
theorem laws_FnLots.j0_no {k : Nat} {x3 : List (S39)} {x4 : Int} {x6 : List Int} {x7 : List Int} {r : Bool} (hr : r = true) (h : laws_FnLots.j0 k x3 x4 x6 x7 true = some r) : False := by
 subst hr
 cases k <;> simp [laws_FnLots.j0] at h
set_option maxHeartbeats 8000000 in
set_option maxRecDepth 100000 in
theorem laws_FnLots.calls (k : Nat) (A0 : Option Addr) (c0 : Nat) (l0 : List Int) (r : Bool) (w : World) (hr0 : Kd.C (Kd.int .u8) w A0 l0.length l0) (hc0 : l0.length ≤ c0) (hrt_ : r = true) (h : laws_FnLots.f k l0 = some r) :
  Calls Try.prog 6 #[.slice A0 l0.length c0] w fun e w' => e = .returned (.bool r) ∧ Below w.heap.size w w' := by
 have HRT := Aside0.mk hrt_
 clear hrt_
 have HR0 := Aside0.mk hr0
 have HC0 := Aside0.mk hc0
 clear hr0 hc0
 have HB := Aside0.mk (Below.refl w.heap.size w)
 have H : ((laws_big.f l0).bind fun t349 => (if t349 = true then (some true) else ((spec_DrawUses.f k l0).bind fun t350 => ((laws_at.f l0 0).bind fun t353 => ((laws_at.f l0 1).bind fun t354 => ((impl_Reached.f k t350 (wrap64 (1 + (Int.tmod t353 6)))).bind fun t355 => ((impl_BreadsOf.f k t350 (wrap64 (1 + (Int.tmod t353 6)))).bind fun t358 => ((laws_has.f k t358 (wrap64 (1 + (Int.tmod t354 7)))).bind fun t361 => ((impl_LotsOf.f k t350 (wrap64 (1 + (Int.tmod t354 7)))).bind fun t362 => ((laws_has.f k t362 (wrap64 (1 + (Int.tmod t353 6)))).bind fun t365 => (if (t361 != t365) = true then (laws_FnLots.j0 k t350 (wrap64 (1 + (Int.tmod t353 6))) t355 t358 true) else ((laws_has.f k t355 (wrap64 (1 + (Int.tmod t353 6)))).bind fun t366 => (laws_FnLots.j0 k t350 (wrap64 (1 + (Int.tmod t353 6))) t355 t358 (t366 != (decide ((t358.length : Int) > 0)))))))))))))))) = some r := h
 clear h
 replace H := Option.bind_eq_some_iff.mp H
 obtain ⟨t349, A20, H⟩ := H
 replace H : (if t349 = true then (some true) else ((spec_DrawUses.f k l0).bind fun t350 => ((laws_at.f l0 0).bind fun t353 => ((laws_at.f l0 1).bind fun t354 => ((impl_Reached.f k t350 (wrap64 (1 + (Int.tmod t353 6)))).bind fun t355 => ((impl_BreadsOf.f k t350 (wrap64 (1 + (Int.tmod t353 6)))).bind fun t358 => ((laws_has.f k t358 (wrap64 (1 + (Int.tmod t354 7)))).bind fun t361 => ((impl_LotsOf.f k t350 (wrap64 (1 + (Int.tmod t354 7)))).bind fun t362 => ((laws_has.f k t362 (wrap64 (1 + (Int.tmod t353 6)))).bind fun t365 => (if (t361 != t365) = true then (laws_FnLots.j0 k t350 (wrap64 (1 + (Int.tmod t353 6))) t355 t358 true) else ((laws_has.f k t355 (wrap64 (1 + (Int.tmod t353 6)))).bind fun t366 => (laws_FnLots.j0 k t350 (wrap64 (1 + (Int.tmod t353 6))) t355 t358 (t366 != (decide ((t358.length : Int) > 0))))))))))))))) = some r := H
 have A2 := Aside0.mk A20
 clear A20
 by_cases c3 : t349 = true
 ·subst c3
  have H1 : (some true) = some r := by rw [if_pos rfl] at H; exact H
  clear H
  have H := H1
  clear H1
  obtain rfl := Option.some.inj H
  go_enter Try.func6, Try.ntmps6
  go_wp2_with (first | ((with_reducible refine gate_callee (f := 22) rfl ?_); refine goesL_ (some 18) rfl rfl Try.func22 (by kernel_rfl) rfl #[.slice A0 l0.length c0] rfl (by (try simp only [List.map_toArray, List.map_cons, List.map_nil]); first | done | rfl | (simp only [List.length_drop, List.length_take]; rfl)) ?_; (with_reducible refine (laws_big.calls _ _ l0 true _ ?side1 ?side2 A2.out).mono ?_); (case side1 => repeat (first | exact HR0.out | (with_reducible refine Kd.C_alloc ?_ _) | (with_reducible refine Kd.C_drewN ?_ _) | (with_reducible refine Kd.C_drew ?_))); (case side2 => exact HC0.out); rintro e w' ⟨rfl, ⟨nd, rfl⟩⟩; refine ⟨_, rfl, ?_⟩))
  go_ret
  exact ⟨by first | rfl | (simp [errW_none, errW_some] <;> rfl) | (simp [*, errW_none, errW_some] <;> rfl), by repeat (first | (with_reducible first | exact HB.out | apply below_alloc | apply pw_below_drewN | apply below_drew1) | exact HB.out)⟩
 ·replace c3 := Bool.eq_false_iff.mpr c3
  subst c3
  have H1 : ((spec_DrawUses.f k l0).bind fun t350 => ((laws_at.f l0 0).bind fun t353 => ((laws_at.f l0 1).bind fun t354 => ((impl_Reached.f k t350 (wrap64 (1 + (Int.tmod t353 6)))).bind fun t355 => ((impl_BreadsOf.f k t350 (wrap64 (1 + (Int.tmod t353 6)))).bind fun t358 => ((laws_has.f k t358 (wrap64 (1 + (Int.tmod t354 7)))).bind fun t361 => ((impl_LotsOf.f k t350 (wrap64 (1 + (Int.tmod t354 7)))).bind fun t362 => ((laws_has.f k t362 (wrap64 (1 + (Int.tmod t353 6)))).bind fun t365 => (if (t361 != t365) = true then (laws_FnLots.j0 k t350 (wrap64 (1 + (Int.tmod t353 6))) t355 t358 true) else ((laws_has.f k t355 (wrap64 (1 + (Int.tmod t353 6)))).bind fun t366 => (laws_FnLots.j0 k t350 (wrap64 (1 + (Int.tmod t353 6))) t355 t358 (t366 != (decide ((t358.length : Int) > 0)))))))))))))) = some r := by rw [if_neg (show ¬ (false = true) by decide)] at H; exact H
  clear H
  have H := H1
  clear H1
  replace H := Option.bind_eq_some_iff.mp H
  obtain ⟨t350, A40, H⟩ := H
  replace H : ((laws_at.f l0 0).bind fun t353 => ((laws_at.f l0 1).bind fun t354 => ((impl_Reached.f k t350 (wrap64 (1 + (Int.tmod t353 6)))).bind fun t355 => ((impl_BreadsOf.f k t350 (wrap64 (1 + (Int.tmod t353 6)))).bind fun t358 => ((laws_has.f k t358 (wrap64 (1 + (Int.tmod t354 7)))).bind fun t361 => ((impl_LotsOf.f k t350 (wrap64 (1 + (Int.tmod t354 7)))).bind fun t362 => ((laws_has.f k t362 (wrap64 (1 + (Int.tmod t353 6)))).bind fun t365 => (if (t361 != t365) = true then (laws_FnLots.j0 k t350 (wrap64 (1 + (Int.tmod t353 6))) t355 t358 true) else ((laws_has.f k t355 (wrap64 (1 + (Int.tmod t353 6)))).bind fun t366 => (laws_FnLots.j0 k t350 (wrap64 (1 + (Int.tmod t353 6))) t355 t358 (t366 != (decide ((t358.length : Int) > 0))))))))))))) = some r := H
  have A4 := Aside0.mk A40
  clear A40
  replace H := Option.bind_eq_some_iff.mp H
  obtain ⟨t353, A50, H⟩ := H
  replace H : ((laws_at.f l0 1).bind fun t354 => ((impl_Reached.f k t350 (wrap64 (1 + (Int.tmod t353 6)))).bind fun t355 => ((impl_BreadsOf.f k t350 (wrap64 (1 + (Int.tmod t353 6)))).bind fun t358 => ((laws_has.f k t358 (wrap64 (1 + (Int.tmod t354 7)))).bind fun t361 => ((impl_LotsOf.f k t350 (wrap64 (1 + (Int.tmod t354 7)))).bind fun t362 => ((laws_has.f k t362 (wrap64 (1 + (Int.tmod t353 6)))).bind fun t365 => (if (t361 != t365) = true then (laws_FnLots.j0 k t350 (wrap64 (1 + (Int.tmod t353 6))) t355 t358 true) else ((laws_has.f k t355 (wrap64 (1 + (Int.tmod t353 6)))).bind fun t366 => (laws_FnLots.j0 k t350 (wrap64 (1 + (Int.tmod t353 6))) t355 t358 (t366 != (decide ((t358.length : Int) > 0)))))))))))) = some r := H
  have A5 := Aside0.mk A50
  clear A50
  replace H := Option.bind_eq_some_iff.mp H
  obtain ⟨t354, A60, H⟩ := H
  replace H : ((impl_Reached.f k t350 (wrap64 (1 + (Int.tmod t353 6)))).bind fun t355 => ((impl_BreadsOf.f k t350 (wrap64 (1 + (Int.tmod t353 6)))).bind fun t358 => ((laws_has.f k t358 (wrap64 (1 + (Int.tmod t354 7)))).bind fun t361 => ((impl_LotsOf.f k t350 (wrap64 (1 + (Int.tmod t354 7)))).bind fun t362 => ((laws_has.f k t362 (wrap64 (1 + (Int.tmod t353 6)))).bind fun t365 => (if (t361 != t365) = true then (laws_FnLots.j0 k t350 (wrap64 (1 + (Int.tmod t353 6))) t355 t358 true) else ((laws_has.f k t355 (wrap64 (1 + (Int.tmod t353 6)))).bind fun t366 => (laws_FnLots.j0 k t350 (wrap64 (1 + (Int.tmod t353 6))) t355 t358 (t366 != (decide ((t358.length : Int) > 0))))))))))) = some r := H
  have A6 := Aside0.mk A60
  clear A60
  replace H := Option.bind_eq_some_iff.mp H
  obtain ⟨t355, A70, H⟩ := H
  replace H : ((impl_BreadsOf.f k t350 (wrap64 (1 + (Int.tmod t353 6)))).bind fun t358 => ((laws_has.f k t358 (wrap64 (1 + (Int.tmod t354 7)))).bind fun t361 => ((impl_LotsOf.f k t350 (wrap64 (1 + (Int.tmod t354 7)))).bind fun t362 => ((laws_has.f k t362 (wrap64 (1 + (Int.tmod t353 6)))).bind fun t365 => (if (t361 != t365) = true then (laws_FnLots.j0 k t350 (wrap64 (1 + (Int.tmod t353 6))) t355 t358 true) else ((laws_has.f k t355 (wrap64 (1 + (Int.tmod t353 6)))).bind fun t366 => (laws_FnLots.j0 k t350 (wrap64 (1 + (Int.tmod t353 6))) t355 t358 (t366 != (decide ((t358.length : Int) > 0)))))))))) = some r := H
  have A7 := Aside0.mk A70
  clear A70
  replace H := Option.bind_eq_some_iff.mp H
  obtain ⟨t358, A80, H⟩ := H
  replace H : ((laws_has.f k t358 (wrap64 (1 + (Int.tmod t354 7)))).bind fun t361 => ((impl_LotsOf.f k t350 (wrap64 (1 + (Int.tmod t354 7)))).bind fun t362 => ((laws_has.f k t362 (wrap64 (1 + (Int.tmod t353 6)))).bind fun t365 => (if (t361 != t365) = true then (laws_FnLots.j0 k t350 (wrap64 (1 + (Int.tmod t353 6))) t355 t358 true) else ((laws_has.f k t355 (wrap64 (1 + (Int.tmod t353 6)))).bind fun t366 => (laws_FnLots.j0 k t350 (wrap64 (1 + (Int.tmod t353 6))) t355 t358 (t366 != (decide ((t358.length : Int) > 0))))))))) = some r := H
  have A8 := Aside0.mk A80
  clear A80
  have HC9 := Aside0.mk H
  clear H
  go_enter Try.func6, Try.ntmps6
  go_upto_region 8 with (first | ((with_reducible refine gate_callee (f := 22) rfl ?_); refine goesL_ (some 18) rfl rfl Try.func22 (by kernel_rfl) rfl #[.slice A0 l0.length c0] rfl (by (try simp only [List.map_toArray, List.map_cons, List.map_nil]); first | done | rfl | (simp only [List.length_drop, List.length_take]; rfl)) ?_; (with_reducible refine (laws_big.calls _ _ l0 false _ ?side1 ?side2 A2.out).mono ?_); (case side1 => repeat (first | exact HR0.out | (with_reducible refine Kd.C_alloc ?_ _) | (with_reducible refine Kd.C_drewN ?_ _) | (with_reducible refine Kd.C_drew ?_))); (case side2 => exact HC0.out); rintro e w' ⟨rfl, ⟨nd, rfl⟩⟩; refine ⟨_, rfl, ?_⟩) | ((with_reducible refine gate_callee (f := 23) rfl ?_); refine goesL_ (some 20) rfl rfl Try.func23 (by kernel_rfl) rfl #[.slice A0 l0.length c0] rfl (by (try simp only [List.map_toArray, List.map_cons, List.map_nil]); first | done | rfl | (simp only [List.length_drop, List.length_take]; rfl)) ?_; (with_reducible refine (spec_DrawUses.calls k _ _ l0 t350 _ ?side1 ?side2 A4.out).mono ?_); (case side1 => repeat (first | exact HR0.out | (with_reducible refine Kd.C_alloc ?_ _) | (with_reducible refine Kd.C_drewN ?_ _) | (with_reducible refine Kd.C_drew ?_))); (case side2 => exact HC0.out); rintro e w10 ⟨v351, rfl, ho0, hb⟩; refine ⟨_, rfl, ?_⟩; have n0_ := Aside0.mk (Kd.R_lower ho0 (below_size (by repeat (first | (with_reducible first | exact HB.out | apply below_alloc | apply pw_below_drewN | apply below_drew1) | exact HB.out)))); have n1_ := Aside0.mk (below_step (by repeat (first | (with_reducible first | exact HB.out | apply below_alloc | apply pw_below_drewN | apply below_drew1) | exact HB.out)) hb); clear HB; have HO352 := n0_; have HB := n1_; clear n0_ n1_; (try clear hb); (try clear hb2); (try clear hk); (try clear hi); (try clear ho0)) | ((with_reducible refine gate_callee (f := 24) rfl ?_); refine goesL_ (some 22) rfl rfl Try.func24 (by kernel_rfl) rfl #[.slice A0 l0.length c0, .int .i64 0] rfl (by (try simp only [List.map_toArray, List.map_cons, List.map_nil]); first | done | rfl | (simp only [List.length_drop, List.length_take]; rfl)) ?_; (with_reducible refine (laws_at.calls _ _ l0 0 t353 _ ?side1 ?side2 A5.out).mono ?_); (case side1 => repeat (first | exact (Kd.C_below HR0.out HB.out) | (with_reducible refine Kd.C_alloc ?_ _) | (with_reducible refine Kd.C_drewN ?_ _) | (with_reducible refine Kd.C_drew ?_))); (case side2 => exact HC0.out); rintro e w' ⟨rfl, ⟨nd, rfl⟩⟩; refine ⟨_, rfl, ?_⟩) | ((with_reducible refine gate_callee (f := 24) rfl ?_); refine goesL_ (some 26) rfl rfl Try.func24 (by kernel_rfl) rfl #[.slice A0 l0.length c0, .int .i64 1] rfl (by (try simp only [List.map_toArray, List.map_cons, List.map_nil]); first | done | rfl | (simp only [List.length_drop, List.length_take]; rfl)) ?_; (with_reducible refine (laws_at.calls _ _ l0 1 t354 _ ?side1 ?side2 A6.out).mono ?_); (case side1 => repeat (first | exact (Kd.C_below HR0.out (by repeat (first | (with_reducible first | exact HB.out | apply below_alloc | apply pw_below_drewN | apply below_drew1) | exact HB.out))) | (with_reducible refine Kd.C_alloc ?_ _) | (with_reducible refine Kd.C_drewN ?_ _) | (with_reducible refine Kd.C_drew ?_))); (case side2 => exact HC0.out); rintro e w' ⟨rfl, ⟨nd, rfl⟩⟩; refine ⟨_, rfl, ?_⟩; obtain ⟨Ao11, co11, eo11⟩ := Kd.R_slice HO352.out; subst eo11) | ((with_reducible refine gate_callee (f := 25) rfl ?_); refine goesL_ (some 31) rfl rfl Try.func25 (by kernel_rfl) rfl #[.slice Ao11 t350.length co11, .int .i64 (wrap64 (1 + (Int.tmod t353 6)))] rfl (by (try simp only [List.map_toArray, List.map_cons, List.map_nil]); first | done | rfl | (simp only [List.length_drop, List.length_take]; rfl)) ?_; (with_reducible refine (impl_Reached.calls k _ _ t350 (wrap64 (1 + (Int.tmod t353 6))) t355 _ ?side1 ?side2 A7.out).mono ?_); (case side1 => repeat (first | exact (Kd.R_reads' HO352.out).2.2 | (with_reducible refine Kd.C_alloc ?_ _) | (with_reducible refine Kd.C_drewN ?_ _) | (with_reducible refine Kd.C_drew ?_))); (case side2 => exact (Kd.R_reads' HO352.out).2.1); rintro e w12 ⟨v356, rfl, ho0, hb⟩; refine ⟨_, rfl, ?_⟩; have n0_ := Aside0.mk (Kd.R_below (by (with_reducible repeat (first | apply Kd.R_alloc | apply Kd.R_drewN | apply Kd.R_drew)); exact HO352.out) hb); have n1_ := Aside0.mk (Kd.R_lower ho0 (below_size (by repeat (first | (with_reducible first | exact HB.out | apply below_alloc | apply pw_below_drewN | apply below_drew1) | exact HB.out)))); have n2_ := Aside0.mk (below_step (by repeat (first | (with_reducible first | exact HB.out | apply below_alloc | apply pw_below_drewN | apply below_drew1) | exact HB.out)) hb); clear HO352 HB; have HO352 := n0_; have HO357 := n1_; have HB := n2_; clear n0_ n1_ n2_; (try clear hb); (try clear hb2); (try clear hk); (try clear hi); (try clear ho0)) | ((with_reducible refine gate_callee (f := 15) rfl ?_); refine goesL_ (some 34) rfl rfl Try.func15 (by kernel_rfl) rfl #[.slice Ao11 t350.length co11, .int .i64 (wrap64 (1 + (Int.tmod t353 6)))] rfl (by (try simp only [List.map_toArray, List.map_cons, List.map_nil]); first | done | rfl | (simp only [List.length_drop, List.length_take]; rfl)) ?_; (with_reducible refine (impl_BreadsOf.calls k _ _ t350 (wrap64 (1 + (Int.tmod t353 6))) t358 _ ?side1 ?side2 A8.out).mono ?_); (case side1 => repeat (first | exact (Kd.R_reads' HO352.out).2.2 | (with_reducible refine Kd.C_alloc ?_ _) | (with_reducible refine Kd.C_drewN ?_ _) | (with_reducible refine Kd.C_drew ?_))); (case side2 => exact (Kd.R_reads' HO352.out).2.1); rintro e w13 ⟨v359, rfl, ho0, hb⟩; refine ⟨_, rfl, ?_⟩; have n0_ := Aside0.mk (Kd.R_below (by (with_reducible repeat (first | apply Kd.R_alloc | apply Kd.R_drewN | apply Kd.R_drew)); exact HO352.out) hb); have n1_ := Aside0.mk (Kd.R_elder' (by (with_reducible repeat (first | apply Kd.R_alloc | apply Kd.R_drewN | apply Kd.R_drew)); exact HO357.out) (Kd.R_base ho0) hb); have n2_ := Aside0.mk (Kd.R_lower (Kd.R_new' ho0 (Kd.R_lt (by (with_reducible repeat (first | apply Kd.R_alloc | apply Kd.R_drewN | apply Kd.R_drew)); exact HO357.out))) (below_size (by repeat (first | (with_reducible first | exact HB.out | apply below_alloc | apply pw_below_drewN | apply below_drew1) | exact HB.out)))); have n3_ := Aside0.mk (below_step (by repeat (first | (with_reducible first | exact HB.out | apply below_alloc | apply pw_below_drewN | apply below_drew1) | exact HB.out)) hb); clear HO352 HO357 HB; have HO352 := n0_; have HO357 := n1_; have HO360 := n2_; have HB := n3_; clear n0_ n1_ n2_ n3_; (try clear hb); (try clear hb2); (try clear hk); (try clear hi); (try clear ho0)))
  (try simp only [Act.put, List.setIfInBounds_toArray, List.set_cons_zero, List.set_cons_succ])
  go_cut [52] (fun v52 wc => ∃ (kq : Nat) (x52_8 : Bool), v52 = .bool x52_8 ∧ Aside0 (laws_FnLots.j0 kq t350 (wrap64 (1 + (Int.tmod t353 6))) t355 t358 x52_8 = some r) ∧ Aside0 (kq ≤ k) ∧ Aside0 (Kd.R k39 39 wc w.heap.size (fun _ => True) (.slice Ao11 t350.length co11) t350) ∧ Aside0 (Kd.R (Kd.int .i64) 3 wc w.heap.size (fun k_ => some k_ ≠ (v359 : Value).ownBlock) v356 t355) ∧ Aside0 (Kd.R (Kd.int .i64) 3 wc w.heap.size (fun k_ => some k_ ≠ (v356 : Value).ownBlock) v359 t358) ∧ Aside0 (Below w.heap.size w wc))
  case first =>
   have H := HC9.out
   clear HC9
   replace H := Option.bind_eq_some_iff.mp H
   obtain ⟨t361, A140, H⟩ := H
   replace H : ((impl_LotsOf.f k t350 (wrap64 (1 + (Int.tmod t354 7)))).bind fun t362 => ((laws_has.f k t362 (wrap64 (1 + (Int.tmod t353 6)))).bind fun t365 => (if (t361 != t365) = true then (laws_FnLots.j0 k t350 (wrap64 (1 + (Int.tmod t353 6))) t355 t358 true) else ((laws_has.f k t355 (wrap64 (1 + (Int.tmod t353 6)))).bind fun t366 => (laws_FnLots.j0 k t350 (wrap64 (1 + (Int.tmod t353 6))) t355 t358 (t366 != (decide ((t358.length : Int) > 0)))))))) = some r := H
   have A14 := Aside0.mk A140
   clear A140
   replace H := Option.bind_eq_some_iff.mp H
   obtain ⟨t362, A150, H⟩ := H
   replace H : ((laws_has.f k t362 (wrap64 (1 + (Int.tmod t353 6)))).bind fun t365 => (if (t361 != t365) = true then (laws_FnLots.j0 k t350 (wrap64 (1 + (Int.tmod t353 6))) t355 t358 true) else ((laws_has.f k t355 (wrap64 (1 + (Int.tmod t353 6)))).bind fun t366 => (laws_FnLots.j0 k t350 (wrap64 (1 + (Int.tmod t353 6))) t355 t358 (t366 != (decide ((t358.length : Int) > 0))))))) = some r := H
   have A15 := Aside0.mk A150
   clear A150
   replace H := Option.bind_eq_some_iff.mp H
   obtain ⟨t365, A160, H⟩ := H
   replace H : (if (t361 != t365) = true then (laws_FnLots.j0 k t350 (wrap64 (1 + (Int.tmod t353 6))) t355 t358 true) else ((laws_has.f k t355 (wrap64 (1 + (Int.tmod t353 6)))).bind fun t366 => (laws_FnLots.j0 k t350 (wrap64 (1 + (Int.tmod t353 6))) t355 t358 (t366 != (decide ((t358.length : Int) > 0)))))) = some r := H
   have A16 := Aside0.mk A160
   clear A160
   by_cases c17 : (t361 != t365) = true
   ·rw [if_pos c17] at H
    have c17b0 : (t361 != t365) = true := c17
    (try (have c17b1 : decide (t361 = t365) = false := by simpa using c17))
    (try (have c17b2 : (t361 == t365) = false := by simpa using c17))
    (try (have c17b3 : ¬ (t361 = t365) := by simpa using c17))
    clear c17
    (first | rw [c17b0] | (simp only [i64_w, i32_w]; rw [c17b0]) | skip)
    exact (laws_FnLots.j0_no HRT.out H).elim
   ·rw [if_neg c17] at H
    have c17b0 : (t361 != t365) = false := by simpa using c17
    (try (have c17b1 : decide (t361 = t365) = true := by simpa using c17))
    (try (have c17b2 : (t361 == t365) = true := by simpa using c17))
    clear c17
    (first | rw [c17b0] | (simp only [i64_w, i32_w]; rw [c17b0]) | skip)
    replace H := Option.bind_eq_some_iff.mp H
    obtain ⟨t366, A180, H⟩ := H
    replace H : (laws_FnLots.j0 k t350 (wrap64 (1 + (Int.tmod t353 6))) t355 t358 (t366 != (decide ((t358.length : Int) > 0)))) = some r := H
    have A18 := Aside0.mk A180
    clear A180
    have H' := Aside0.mk H
    clear H
    obtain ⟨Ao19, co19, eo19⟩ := Kd.R_slice HO360.out
    subst eo19
    go_wp2_with (first | ((with_reducible refine gate_callee (f := 26) rfl ?_); refine goesL_ (some 37) rfl rfl Try.func26 (by kernel_rfl) rfl #[.slice Ao19 t358.length co19, .int .i64 (wrap64 (1 + (Int.tmod t354 7)))] rfl (by (try simp only [List.map_toArray, List.map_cons, List.map_nil]); first | done | rfl | (simp only [List.length_drop, List.length_take]; rfl)) ?_; (with_reducible refine (laws_has.calls k _ _ t358 (wrap64 (1 + (Int.tmod t354 7))) t361 _ ?side1 ?side2 A14.out).mono ?_); (case side1 => repeat (first | exact (Kd.R_reads' HO360.out).2.2 | (with_reducible refine Kd.C_alloc ?_ _) | (with_reducible refine Kd.C_drewN ?_ _) | (with_reducible refine Kd.C_drew ?_))); (case side2 => exact (Kd.R_reads' HO360.out).2.1); rintro e w' ⟨rfl, ⟨nd, rfl⟩⟩; refine ⟨_, rfl, ?_⟩) | ((with_reducible refine gate_callee (f := 21) rfl ?_); refine goesL_ (some 40) rfl rfl Try.func21 (by kernel_rfl) rfl #[.slice Ao11 t350.length co11, .int .i64 (wrap64 (1 + (Int.tmod t354 7)))] rfl (by (try simp only [List.map_toArray, List.map_cons, List.map_nil]); first | done | rfl | (simp only [List.length_drop, List.length_take]; rfl)) ?_; (with_reducible refine (impl_LotsOf.calls k _ _ t350 (wrap64 (1 + (Int.tmod t354 7))) t362 _ ?side1 ?side2 A15.out).mono ?_); (case side1 => repeat (first | exact (Kd.R_reads' HO352.out).2.2 | (with_reducible refine Kd.C_alloc ?_ _) | (with_reducible refine Kd.C_drewN ?_ _) | (with_reducible refine Kd.C_drew ?_))); (case side2 => exact (Kd.R_reads' HO352.out).2.1); rintro e w20 ⟨v363, rfl, ho0, hb⟩; refine ⟨_, rfl, ?_⟩; have n0_ := Aside0.mk (Kd.R_below (by (with_reducible repeat (first | apply Kd.R_alloc | apply Kd.R_drewN | apply Kd.R_drew)); exact HO352.out) hb); have n1_ := Aside0.mk (Kd.R_elder' (by (with_reducible repeat (first | apply Kd.R_alloc | apply Kd.R_drewN | apply Kd.R_drew)); exact HO357.out) (Kd.R_base ho0) hb); have n2_ := Aside0.mk (Kd.R_elder' (by (with_reducible repeat (first | apply Kd.R_alloc | apply Kd.R_drewN | apply Kd.R_drew)); exact HO360.out) (Kd.R_base ho0) hb); have n3_ := Aside0.mk (Kd.R_lower (Kd.R_new' (Kd.R_new' ho0 (Kd.R_lt (by (with_reducible repeat (first | apply Kd.R_alloc | apply Kd.R_drewN | apply Kd.R_drew)); exact HO357.out))) (Kd.R_lt (by (with_reducible repeat (first | apply Kd.R_alloc | apply Kd.R_drewN | apply Kd.R_drew)); exact HO360.out))) (below_size (by repeat (first | (with_reducible first | exact HB.out | apply below_alloc | apply pw_below_drewN | apply below_drew1) | exact HB.out)))); have n4_ := Aside0.mk (below_step (by repeat (first | (with_reducible first | exact HB.out | apply below_alloc | apply pw_below_drewN | apply below_drew1) | exact HB.out)) hb); clear HO352 HO357 HO360 HB; have HO352 := n0_; have HO357 := n1_; have HO360 := n2_; have HO364 := n3_; have HB := n4_; clear n0_ n1_ n2_ n3_ n4_; (try clear hb); (try clear hb2); (try clear hk); (try clear hi); (try clear ho0); obtain ⟨Ao21, co21, eo21⟩ := Kd.R_slice HO364.out; subst eo21) | ((with_reducible refine gate_callee (f := 26) rfl ?_); refine goesL_ (some 42) rfl rfl Try.func26 (by kernel_rfl) rfl #[.slice Ao21 t362.length co21, .int .i64 (wrap64 (1 + (Int.tmod t353 6)))] rfl (by (try simp only [List.map_toArray, List.map_cons, List.map_nil]); first | done | rfl | (simp only [List.length_drop, List.length_take]; rfl)) ?_; (with_reducible refine (laws_has.calls k _ _ t362 (wrap64 (1 + (Int.tmod t353 6))) t365 _ ?side1 ?side2 A16.out).mono ?_); (case side1 => repeat (first | exact (Kd.R_reads' HO364.out).2.2 | (with_reducible refine Kd.C_alloc ?_ _) | (with_reducible refine Kd.C_drewN ?_ _) | (with_reducible refine Kd.C_drew ?_))); (case side2 => exact (Kd.R_reads' HO364.out).2.1); rintro e w' ⟨rfl, ⟨nd, rfl⟩⟩; refine ⟨_, rfl, ?_⟩; obtain ⟨Ao22, co22, eo22⟩ := Kd.R_slice HO357.out; subst eo22) | (go_at_call 26; (with_reducible refine (laws_has.calls k _ _ t355 (wrap64 (1 + (Int.tmod t353 6))) t366 _ ?side1 ?side2 A18.out).mono ?_); (case side1 => repeat (first | exact (Kd.R_reads' HO357.out).2.2 | (with_reducible refine Kd.C_alloc ?_ _) | (with_reducible refine Kd.C_drewN ?_ _) | (with_reducible refine Kd.C_drew ?_))); (case side2 => exact (Kd.R_reads' HO357.out).2.1); rintro e w' ⟨rfl, ⟨nd, rfl⟩⟩))
    go_meet
    case rel => exact ⟨_, ((t366 != (decide ((t358.length : Int) > 0)))), (by first | rfl | (simp; done) | (simp [*]; done) | (simp; cases t366 <;> simp; done)), H', ⟨by first | omega | exact Nat.le_refl _⟩, ⟨by (with_reducible repeat (first | apply Kd.R_alloc | apply Kd.R_drewN | apply Kd.R_drew)); exact HO352.out⟩, ⟨by (with_reducible repeat (first | apply Kd.R_alloc | apply Kd.R_drewN | apply Kd.R_drew)); exact Kd.R_mono HO357.out (fun _ hk => hk.1.2)⟩, ⟨by (with_reducible repeat (first | apply Kd.R_alloc | apply Kd.R_drewN | apply Kd.R_drew)); exact Kd.R_mono HO360.out (fun _ hk => hk.1.2)⟩, ⟨by repeat (first | (with_reducible first | exact HB.out | apply below_alloc | apply pw_below_drewN | apply below_drew1) | exact HB.out)⟩⟩
  case rest =>
   clear HC9
   try clear c1
   try clear c2
   try clear p2
   try clear c3
   try clear c6
   try clear p6
   try clear c15
   try clear c17
   try clear c17b0
   try clear c17b1
   try clear c17b2
   try clear c21
   try clear c22
   obtain ⟨kq, x52_8, rfl, HA, HJ8, HO_3, HO_6, HO_7, HB⟩ := hcut
   cases kq with
   | zero => exact absurd HA.out (by simp [laws_FnLots.j0])
   | succ kj8 =>
    have H := HA.out
    clear HA
    simp only [laws_FnLots.j0] at H
    by_cases c23 : x52_8 = true
    ·subst c23
     have H1 : (some false) = some r := by rw [if_pos rfl] at H; exact H
     clear H
     have H := H1
     clear H1
     exact absurd (H.trans (congrArg some HRT.out)) (by simp)
    ·replace c23 := Bool.eq_false_iff.mpr c23
     subst c23
     have H1 : (laws_FnLots.l0 kj8 t350 (wrap64 (1 + (Int.tmod t353 6))) t355 t358 0 0 1) = some r := by rw [if_neg (show ¬ (false = true) by decide)] at H; exact H
     clear H
     have H := H1
     clear H1
     have H' := Aside0.mk H
     clear H
     go_wp2
     go_loopg [8, 10] kj8 (fun kq v8 v10 w' => ∃ (x8_2 : Int) (x10_2 : Int), v8 = .int .i64 x8_2 ∧ v10 = .int .i64 x10_2 ∧ Aside0 (laws_FnLots.l0 kq t350 (wrap64 (1 + (Int.tmod t353 6))) t355 t358 x8_2 0 x10_2 = some r) ∧ Aside0 (kq ≤ kj8) ∧ Aside0 (Kd.R k39 39 w' w.heap.size (fun _ => True) (.slice Ao11 t350.length co11) t350) ∧ Aside0 (Kd.R (Kd.int .i64) 3 w' w.heap.size (fun k_ => some k_ ≠ (v359 : Value).ownBlock) v356 t355) ∧ Aside0 (Kd.R (Kd.int .i64) 3 w' w.heap.size (fun k_ => some k_ ≠ (v356 : Value).ownBlock) v359 t358) ∧ Aside0 (Below w.heap.size w w'))
     case atStart => exact ⟨(0), (1), (by first | rfl | (simp; done) | (simp [*]; done)), (by first | rfl | (simp; done) | (simp [*]; done)), H', ⟨Nat.le_refl _⟩, ⟨by (with_reducible repeat (first | apply Kd.R_alloc | apply Kd.R_drewN | apply Kd.R_drew)); exact HO_3.out⟩, ⟨by (with_reducible repeat (first | apply Kd.R_alloc | apply Kd.R_drewN | apply Kd.R_drew)); exact HO_6.out⟩, ⟨by (with_reducible repeat (first | apply Kd.R_alloc | apply Kd.R_drewN | apply Kd.R_drew)); exact HO_7.out⟩, ⟨by repeat (first | (with_reducible first | exact HB.out | apply below_alloc | apply pw_below_drewN | apply below_drew1) | exact HB.out)⟩⟩
     case round =>
      clear H'
      try clear c1
      try clear c2
      try clear p2
      try clear c3
      try clear c6
      try clear p6
      try clear c15
      try clear c17
      try clear c17b0
      try clear c17b1
      try clear c17b2
      try clear c21
      try clear c22
      try clear c23
      try clear p2
      try clear p6
      obtain ⟨x8_2, x10_2, rfl, rfl, HA, HK2, HO_3, HO_6, HO_7, HB⟩ := hrel
      cases gk with
      | zero => exact absurd HA.out (by simp [laws_FnLots.l0])
      | succ k2 =>
       have H := HA.out
       clear HA
       simp only [laws_FnLots.l0] at H
       by_cases c24 : x10_2 ≤ 6
       ·rw [if_pos c24] at H
        have c24b0 : decide (x10_2 ≤ 6) = true := decide_eq_true c24
        clear c24
        replace H := Option.bind_eq_some_iff.mp H
        obtain ⟨t367, A250, H⟩ := H
        replace H : ((laws_has.f k2 t355 x10_2).bind fun t368 => ((impl_Reached.f k2 t350 x10_2).bind fun t369 => ((laws_has.f k2 t369 (wrap64 (1 + (Int.tmod t353 6)))).bind fun t372 => (if (t368 != t372) = true then (some false) else (laws_FnLots.l0 k2 t350 (wrap64 (1 + (Int.tmod t353 6))) t355 t358 (wrap64 (x8_2 + t367)) 0 (wrap64 (x10_2 + 1))))))) = some r := H
        have A25 := Aside0.mk A250
        clear A250
        replace H := Option.bind_eq_some_iff.mp H
        obtain ⟨t368, A260, H⟩ := H
        replace H : ((impl_Reached.f k2 t350 x10_2).bind fun t369 => ((laws_has.f k2 t369 (wrap64 (1 + (Int.tmod t353 6)))).bind fun t372 => (if (t368 != t372) = true then (some false) else (laws_FnLots.l0 k2 t350 (wrap64 (1 + (Int.tmod t353 6))) t355 t358 (wrap64 (x8_2 + t367)) 0 (wrap64 (x10_2 + 1)))))) = some r := H
        have A26 := Aside0.mk A260
        clear A260
        replace H := Option.bind_eq_some_iff.mp H
        obtain ⟨t369, A270, H⟩ := H
        replace H : ((laws_has.f k2 t369 (wrap64 (1 + (Int.tmod t353 6)))).bind fun t372 => (if (t368 != t372) = true then (some false) else (laws_FnLots.l0 k2 t350 (wrap64 (1 + (Int.tmod t353 6))) t355 t358 (wrap64 (x8_2 + t367)) 0 (wrap64 (x10_2 + 1))))) = some r := H
        have A27 := Aside0.mk A270
        clear A270
        replace H := Option.bind_eq_some_iff.mp H
        obtain ⟨t372, A280, H⟩ := H
        replace H : (if (t368 != t372) = true then (some false) else (laws_FnLots.l0 k2 t350 (wrap64 (1 + (Int.tmod t353 6))) t355 t358 (wrap64 (x8_2 + t367)) 0 (wrap64 (x10_2 + 1)))) = some r := H
        have A28 := Aside0.mk A280
        clear A280
        by_cases c29 : (t368 != t372) = true
        ·rw [if_pos c29] at H
         have c29b0 : (t368 != t372) = true := c29
         (try (have c29b1 : decide (t368 = t372) = false := by simpa using c29))
         (try (have c29b2 : (t368 == t372) = false := by simpa using c29))
         (try (have c29b3 : ¬ (t368 = t372) := by simpa using c29))
         clear c29
         exact absurd (H.trans (congrArg some HRT.out)) (by simp)
        ·rw [if_neg c29] at H
         have c29b0 : (t368 != t372) = false := by simpa using c29
         (try (have c29b1 : decide (t368 = t372) = true := by simpa using c29))
         (try (have c29b2 : (t368 == t372) = true := by simpa using c29))
         clear c29
         have H' := Aside0.mk H
         clear H
         go_wp2_with (first | ((with_reducible refine gate_callee (f := 12) rfl ?_); refine goesL_ (some 60) rfl rfl Try.func12 (by kernel_rfl) rfl #[.slice Ao11 t350.length co11, .int .i64 x10_2] rfl (by (try simp only [List.map_toArray, List.map_cons, List.map_nil]); first | done | rfl | (simp only [List.length_drop, List.length_take]; rfl)) ?_; (with_reducible refine (impl_UsedOf.calls k2 _ _ t350 x10_2 t367 _ ?side1 ?side2 A25.out).mono ?_); (case side1 => repeat (first | exact (Kd.R_reads' HO_3.out).2.2 | (with_reducible refine Kd.C_alloc ?_ _) | (with_reducible refine Kd.C_drewN ?_ _) | (with_reducible refine Kd.C_drew ?_))); (case side2 => exact (Kd.R_reads' HO_3.out).2.1); rintro e w30 ⟨rfl, hb⟩; refine ⟨_, rfl, ?_⟩; have n0_ := Aside0.mk (Kd.R_below (by (with_reducible repeat (first | apply Kd.R_alloc | apply Kd.R_drewN | apply Kd.R_drew)); exact HO_3.out) hb); have n1_ := Aside0.mk (Kd.R_below (by (with_reducible repeat (first | apply Kd.R_alloc | apply Kd.R_drewN | apply Kd.R_drew)); exact HO_6.out) hb); have n2_ := Aside0.mk (Kd.R_below (by (with_reducible repeat (first | apply Kd.R_alloc | apply Kd.R_drewN | apply Kd.R_drew)); exact HO_7.out) hb); have n3_ := Aside0.mk (below_step (by repeat (first | (with_reducible first | exact HB.out | apply below_alloc | apply pw_below_drewN | apply below_drew1) | exact HB.out)) hb); clear HO_3 HO_6 HO_7 HB; have HO_3 := n0_; have HO_6 := n1_; have HO_7 := n2_; have HB := n3_; clear n0_ n1_ n2_ n3_; (try clear hb); (try clear hb2); (try clear hk); (try clear hi); obtain ⟨Ao31, co31, eo31⟩ := Kd.R_slice HO_6.out; subst eo31) | ((with_reducible refine gate_callee (f := 26) rfl ?_); refine goesL_ (some 64) rfl rfl Try.func26 (by kernel_rfl) rfl #[.slice Ao31 t355.length co31, .int .i64 x10_2] rfl (by (try simp only [List.map_toArray, List.map_cons, List.map_nil]); first | done | rfl | (simp only [List.length_drop, List.length_take]; rfl)) ?_; (with_reducible refine (laws_has.calls k2 _ _ t355 x10_2 t368 _ ?side1 ?side2 A26.out).mono ?_); (case side1 => repeat (first | exact (Kd.R_reads' HO_6.out).2.2 | (with_reducible refine Kd.C_alloc ?_ _) | (with_reducible refine Kd.C_drewN ?_ _) | (with_reducible refine Kd.C_drew ?_))); (case side2 => exact (Kd.R_reads' HO_6.out).2.1); rintro e w' ⟨rfl, ⟨nd, rfl⟩⟩; refine ⟨_, rfl, ?_⟩) | ((with_reducible refine gate_callee (f := 25) rfl ?_); refine goesL_ (some 67) rfl rfl Try.func25 (by kernel_rfl) rfl #[.slice Ao11 t350.length co11, .int .i64 x10_2] rfl (by (try simp only [List.map_toArray, List.map_cons, List.map_nil]); first | done | rfl | (simp only [List.length_drop, List.length_take]; rfl)) ?_; (with_reducible refine (impl_Reached.calls k2 _ _ t350 x10_2 t369 _ ?side1 ?side2 A27.out).mono ?_); (case side1 => repeat (first | exact (Kd.R_reads' HO_3.out).2.2 | (with_reducible refine Kd.C_alloc ?_ _) | (with_reducible refine Kd.C_drewN ?_ _) | (with_reducible refine Kd.C_drew ?_))); (case side2 => exact (Kd.R_reads' HO_3.out).2.1); rintro e w32 ⟨v370, rfl, ho0, hb⟩; refine ⟨_, rfl, ?_⟩; have n0_ := Aside0.mk (Kd.R_below (by (with_reducible repeat (first | apply Kd.R_alloc | apply Kd.R_drewN | apply Kd.R_drew)); exact HO_3.out) hb); have n1_ := Aside0.mk (Kd.R_elder' (by (with_reducible repeat (first | apply Kd.R_alloc | apply Kd.R_drewN | apply Kd.R_drew)); exact HO_6.out) (Kd.R_base ho0) hb); have n2_ := Aside0.mk (Kd.R_elder' (by (with_reducible repeat (first | apply Kd.R_alloc | apply Kd.R_drewN | apply Kd.R_drew)); exact HO_7.out) (Kd.R_base ho0) hb); have n3_ := Aside0.mk (Kd.R_lower (Kd.R_new' (Kd.R_new' ho0 (Kd.R_lt (by (with_reducible repeat (first | apply Kd.R_alloc | apply Kd.R_drewN | apply Kd.R_drew)); exact HO_6.out))) (Kd.R_lt (by (with_reducible repeat (first | apply Kd.R_alloc | apply Kd.R_drewN | apply Kd.R_drew)); exact HO_7.out))) (below_size (by repeat (first | (with_reducible first | exact HB.out | apply below_alloc | apply pw_below_drewN | apply below_drew1) | exact HB.out)))); have n4_ := Aside0.mk (below_step (by repeat (first | (with_reducible first | exact HB.out | apply below_alloc | apply pw_below_drewN | apply below_drew1) | exact HB.out)) hb); clear HO_3 HO_6 HO_7 HB; have HO_3 := n0_; have HO_6 := n1_; have HO_7 := n2_; have HO371 := n3_; have HB := n4_; clear n0_ n1_ n2_ n3_ n4_; (try clear hb); (try clear hb2); (try clear hk); (try clear hi); (try clear ho0); obtain ⟨Ao33, co33, eo33⟩ := Kd.R_slice HO371.out; subst eo33) | ((with_reducible refine gate_callee (f := 26) rfl ?_); refine goesL_ (some 69) rfl rfl Try.func26 (by kernel_rfl) rfl #[.slice Ao33 t369.length co33, .int .i64 (wrap64 (1 + (Int.tmod t353 6)))] rfl (by (try simp only [List.map_toArray, List.map_cons, List.map_nil]); first | done | rfl | (simp only [List.length_drop, List.length_take]; rfl)) ?_; (with_reducible refine (laws_has.calls k2 _ _ t369 (wrap64 (1 + (Int.tmod t353 6))) t372 _ ?side1 ?side2 A28.out).mono ?_); (case side1 => repeat (first | exact (Kd.R_reads' HO371.out).2.2 | (with_reducible refine Kd.C_alloc ?_ _) | (with_reducible refine Kd.C_drewN ?_ _) | (with_reducible refine Kd.C_drew ?_))); (case side2 => exact (Kd.R_reads' HO371.out).2.1); rintro e w' ⟨rfl, ⟨nd, rfl⟩⟩; refine ⟨_, rfl, ?_⟩))
         go_roundg k2
         case measure => have := HJ8.out; have := HK2.out; omega
         case rel => exact ⟨(wrap64 (x8_2 + t367)), (wrap64 (x10_2 + 1)), (by first | rfl | (simp; done) | (simp [*]; done)), (by first | rfl | (simp; done) | (simp [*]; done)), H', ⟨by have := HJ8.out; have := HK2.out; omega⟩, ⟨by (with_reducible repeat (first | apply Kd.R_alloc | apply Kd.R_drewN | apply Kd.R_drew)); exact HO_3.out⟩, ⟨by (with_reducible repeat (first | apply Kd.R_alloc | apply Kd.R_drewN | apply Kd.R_drew)); exact Kd.R_mono HO_6.out (fun _ hk => hk.1)⟩, ⟨by (with_reducible repeat (first | apply Kd.R_alloc | apply Kd.R_drewN | apply Kd.R_drew)); exact Kd.R_mono HO_7.out (fun _ hk => hk.1)⟩, ⟨by repeat (first | (with_reducible first | exact HB.out | apply below_alloc | apply pw_below_drewN | apply below_drew1) | exact HB.out)⟩⟩
       ·rw [if_neg c24] at H
        have c24b0 : decide (x10_2 ≤ 6) = false := decide_eq_false c24
        clear c24
        have H' := Aside0.mk H
        clear H
        go_wp2
        go_loopg [9, 11] k2 (fun kq v9 v11 w' => ∃ (x9_3 : Int) (x11_3 : Int), v9 = .int .i64 x9_3 ∧ v11 = .int .i64 x11_3 ∧ Aside0 (laws_FnLots.l1 kq t350 (wrap64 (1 + (Int.tmod t353 6))) t355 t358 x8_2 x9_3 x11_3 = some r) ∧ Aside0 (kq ≤ k2) ∧ Aside0 (Kd.R k39 39 w' w.heap.size (fun _ => True) (.slice Ao11 t350.length co11) t350) ∧ Aside0 (Kd.R (Kd.int .i64) 3 w' w.heap.size (fun k_ => some k_ ≠ (v359 : Value).ownBlock) v356 t355) ∧ Aside0 (Kd.R (Kd.int .i64) 3 w' w.heap.size (fun k_ => some k_ ≠ (v356 : Value).ownBlock) v359 t358) ∧ Aside0 (Below w.heap.size w w'))
        case atStart => exact ⟨(0), (0), (by first | rfl | (simp; done) | (simp [*]; done)), (by first | rfl | (simp; done) | (simp [*]; done)), H', ⟨Nat.le_refl _⟩, ⟨by (with_reducible repeat (first | apply Kd.R_alloc | apply Kd.R_drewN | apply Kd.R_drew)); exact HO_3.out⟩, ⟨by (with_reducible repeat (first | apply Kd.R_alloc | apply Kd.R_drewN | apply Kd.R_drew)); exact HO_6.out⟩, ⟨by (with_reducible repeat (first | apply Kd.R_alloc | apply Kd.R_drewN | apply Kd.R_drew)); exact HO_7.out⟩, ⟨by repeat (first | (with_reducible first | exact HB.out | apply below_alloc | apply pw_below_drewN | apply below_drew1) | exact HB.out)⟩⟩
        case round =>
         clear H'
         try clear c1
         try clear c2
         try clear p2
         try clear c3
         try clear c6
         try clear p6
         try clear c12
         try clear c15
         try clear c17
         try clear c17b0
         try clear c17b1
         try clear c17b2
         try clear c21
         try clear c22
         try clear c23
         try clear c24
         try clear c24b0
         try clear c25
         try clear c26
         try clear c29
         try clear c29b0
         try clear c29b1
         try clear c29b2
         try clear p2
         try clear p6
         obtain ⟨x9_3, x11_3, rfl, rfl, HA, HK3, HO_3, HO_6, HO_7, HB⟩ := hrel
         cases gk with
         | zero => exact absurd HA.out (by simp [laws_FnLots.l1])
         | succ k3 =>
          have H := HA.out
          clear HA
          simp only [laws_FnLots.l1] at H
          by_cases c34 : x11_3 < (t350.length : Int)
          ·rw [if_pos c34] at H
           have c34b0 : decide (x11_3 < (t350.length : Int)) = true := decide_eq_true c34
           clear c34
           by_cases c35 : 0 ≤ x11_3
           ·rw [if_pos c35] at H
            have c35b0 : decide (0 ≤ x11_3) = true := decide_eq_true c35
            clear c35
            have H' := Aside0.mk H
            clear H
            have p373 : 0 ≤ (x11_3 : Int) := of_decide_eq_true (by first | (with_reducible assumption) | assumption)
            have q373 : x11_3 < (t350.length : Int) := of_decide_eq_true (by first | (with_reducible assumption) | assumption)
            obtain ⟨ad373, e373, hx373_0, hx373_1, hx373_2⟩ := at_T39 (Kd.R_reads' HO_3.out).2.2 x11_3 p373 q373
            cases e373
            replace p373 := eq_true p373
            replace q373 := eq_true q373
            go_wp2
            go_roundg k3
            case measure => have := HJ8.out; have := HK2.out; have := HK3.out; omega
            case rel => exact ⟨(wrap64 (x9_3 + ((rd_T39 t350 x11_3).f2))), (wrap64 (x11_3 + 1)), (by first | rfl | (simp; done) | (simp [*]; done)), (by first | rfl | (simp; done) | (simp [*]; done)), H', ⟨by have := HJ8.out; have := HK2.out; have := HK3.out; omega⟩, ⟨by (with_reducible repeat (first | apply Kd.R_alloc | apply Kd.R_drewN | apply Kd.R_drew)); exact HO_3.out⟩, ⟨by (with_reducible repeat (first | apply Kd.R_alloc | apply Kd.R_drewN | apply Kd.R_drew)); exact HO_6.out⟩, ⟨by (with_reducible repeat (first | apply Kd.R_alloc | apply Kd.R_drewN | apply Kd.R_drew)); exact HO_7.out⟩, ⟨by repeat (first | (with_reducible first | exact HB.out | apply below_alloc | apply pw_below_drewN | apply below_drew1) | exact HB.out)⟩⟩
           ·rw [if_neg c35] at H
            exact absurd H (by simp)
          ·rw [if_neg c34] at H
           have c34b0 : decide (x11_3 < (t350.length : Int)) = false := decide_eq_false c34
           clear c34
           have H' := Aside0.mk H
           clear H
           go_wp2
           go_loopg [12] k3 (fun kq v12 w' => ∃ (x12_4 : Int), v12 = .int .i64 x12_4 ∧ Aside0 (laws_FnLots.l2 kq t350 (wrap64 (1 + (Int.tmod t353 6))) t355 t358 x8_2 x9_3 x12_4 = some r) ∧ Aside0 (kq ≤ k3) ∧ Aside0 (Kd.R k39 39 w' w.heap.size (fun _ => True) (.slice Ao11 t350.length co11) t350) ∧ Aside0 (Kd.R (Kd.int .i64) 3 w' w.heap.size (fun k_ => some k_ ≠ (v359 : Value).ownBlock) v356 t355) ∧ Aside0 (Kd.R (Kd.int .i64) 3 w' w.heap.size (fun k_ => some k_ ≠ (v356 : Value).ownBlock) v359 t358) ∧ Aside0 (Below w.heap.size w w'))
           case atStart => exact ⟨(0), (by first | rfl | (simp; done) | (simp [*]; done)), H', ⟨Nat.le_refl _⟩, ⟨by (with_reducible repeat (first | apply Kd.R_alloc | apply Kd.R_drewN | apply Kd.R_drew)); exact HO_3.out⟩, ⟨by (with_reducible repeat (first | apply Kd.R_alloc | apply Kd.R_drewN | apply Kd.R_drew)); exact HO_6.out⟩, ⟨by (with_reducible repeat (first | apply Kd.R_alloc | apply Kd.R_drewN | apply Kd.R_drew)); exact HO_7.out⟩, ⟨by repeat (first | (with_reducible first | exact HB.out | apply below_alloc | apply pw_below_drewN | apply below_drew1) | exact HB.out)⟩⟩
           case round =>
            clear H'
            try clear c1
            try clear c2
            try clear p2
            try clear c3
            try clear p3
            try clear q3
            try clear hx3
            try clear c6
            try clear p6
            try clear c12
            try clear c15
            try clear c17
            try clear c17b0
            try clear c17b1
            try clear c17b2
            try clear c21
            try clear c22
            try clear c23
            try clear c24
            try clear c24b0
            try clear c25
            try clear c26
            try clear c29
            try clear c29b0
            try clear c29b1
            try clear c29b2
            try clear c34
            try clear c34b0
            try clear c35
            try clear c35b0
            try clear hx373_0
            try clear hx373_1
            try clear hx373_2
            try clear p2
            try clear p373
            try clear p6
            try clear q373
            obtain ⟨x12_4, rfl, HA, HK4, HO_3, HO_6, HO_7, HB⟩ := hrel
            cases gk with
            | zero => exact absurd HA.out (by simp [laws_FnLots.l2])
            | succ k4 =>
             have H := HA.out
             clear HA
             simp only [laws_FnLots.l2] at H
             by_cases c36 : x12_4 < (t358.length : Int)
             ·rw [if_pos c36] at H
              have c36b0 : decide (x12_4 < (t358.length : Int)) = true := decide_eq_true c36
              clear c36
              by_cases c37 : 0 ≤ x12_4
              ·rw [if_pos c37] at H
               have c37b0 : decide (0 ≤ x12_4) = true := decide_eq_true c37
               clear c37
               replace H := Option.bind_eq_some_iff.mp H
               obtain ⟨t375, A380, H⟩ := H
               replace H : (laws_FnLots.l3 k4 t350 (wrap64 (1 + (Int.tmod t353 6))) t355 t358 x8_2 x9_3 x12_4 t375 0) = some r := H
               have A38 := Aside0.mk A380
               clear A380
               have H' := Aside0.mk H
               clear H
               obtain ⟨Ao39, co39, eo39⟩ := Kd.R_slice HO_7.out
               subst eo39
               have p374 : 0 ≤ (x12_4 : Int) := of_decide_eq_true (by first | (with_reducible assumption) | assumption)
               have q374 : x12_4 < (t358.length : Int) := of_decide_eq_true (by first | (with_reducible assumption) | assumption)
               obtain ⟨ad374, e374, hx374_0⟩ := Kd.at_int (Kd.R_reads' HO_7.out).2.2 x12_4 p374 q374
               cases e374
               replace p374 := eq_true p374
               replace q374 := eq_true q374
               go_wp2_with (first | ((with_reducible refine gate_callee (f := 21) rfl ?_); refine goesL_ (some 95) rfl rfl Try.func21 (by kernel_rfl) rfl #[.slice Ao11 t350.length co11, .int .i64 (rd t358 x12_4)] rfl (by (try simp only [List.map_toArray, List.map_cons, List.map_nil]); first | done | rfl | (simp only [List.length_drop, List.length_take]; rfl)) ?_; (with_reducible refine (impl_LotsOf.calls k4 _ _ t350 (rd t358 x12_4) t375 _ ?side1 ?side2 A38.out).mono ?_); (case side1 => repeat (first | exact (Kd.R_reads' HO_3.out).2.2 | (with_reducible refine Kd.C_alloc ?_ _) | (with_reducible refine Kd.C_drewN ?_ _) | (with_reducible refine Kd.C_drew ?_))); (case side2 => exact (Kd.R_reads' HO_3.out).2.1); rintro e w40 ⟨v376, rfl, ho0, hb⟩; refine ⟨_, rfl, ?_⟩; have n0_ := Aside0.mk (Kd.R_below (by (with_reducible repeat (first | apply Kd.R_alloc | apply Kd.R_drewN | apply Kd.R_drew)); exact HO_3.out) hb); have n1_ := Aside0.mk (Kd.R_elder' (by (with_reducible repeat (first | apply Kd.R_alloc | apply Kd.R_drewN | apply Kd.R_drew)); exact HO_6.out) (Kd.R_base ho0) hb); have n2_ := Aside0.mk (Kd.R_elder' (by (with_reducible repeat (first | apply Kd.R_alloc | apply Kd.R_drewN | apply Kd.R_drew)); exact HO_7.out) (Kd.R_base ho0) hb); have n3_ := Aside0.mk (Kd.R_lower (Kd.R_new' (Kd.R_new' ho0 (Kd.R_lt (by (with_reducible repeat (first | apply Kd.R_alloc | apply Kd.R_drewN | apply Kd.R_drew)); exact HO_6.out))) (Kd.R_lt (by (with_reducible repeat (first | apply Kd.R_alloc | apply Kd.R_drewN | apply Kd.R_drew)); exact HO_7.out))) (below_size (by repeat (first | (with_reducible first | exact HB.out | apply below_alloc | apply pw_below_drewN | apply below_drew1) | exact HB.out)))); have n4_ := Aside0.mk (below_step (by repeat (first | (with_reducible first | exact HB.out | apply below_alloc | apply pw_below_drewN | apply below_drew1) | exact HB.out)) hb); clear HO_3 HO_6 HO_7 HB; have HO_3 := n0_; have HO_6 := n1_; have HO_7 := n2_; have HO377 := n3_; have HB := n4_; clear n0_ n1_ n2_ n3_ n4_; (try clear hb); (try clear hb2); (try clear hk); (try clear hi); (try clear ho0)))
               go_loopg [14] k4 (fun kq v14 w' => ∃ (x14_5 : Int), v14 = .int .i64 x14_5 ∧ Aside0 (laws_FnLots.l3 kq t350 (wrap64 (1 + (Int.tmod t353 6))) t355 t358 x8_2 x9_3 x12_4 t375 x14_5 = some r) ∧ Aside0 (kq ≤ k4) ∧ Aside0 (Kd.R k39 39 w' w.heap.size (fun _ => True) (.slice Ao11 t350.length co11) t350) ∧ Aside0 (Kd.R (Kd.int .i64) 3 w' w.heap.size (fun k_ => some k_ ≠ ((.slice (some ad374) t358.length co39) : Value).ownBlock ∧ some k_ ≠ (v376 : Value).ownBlock) v356 t355) ∧ Aside0 (Kd.R (Kd.int .i64) 3 w' w.heap.size (fun k_ => some k_ ≠ (v356 : Value).ownBlock ∧ some k_ ≠ (v376 : Value).ownBlock) (.slice (some ad374) t358.length co39) t358) ∧ Aside0 (Kd.R (Kd.int .i64) 3 w' w.heap.size (fun k_ => some k_ ≠ (v356 : Value).ownBlock ∧ some k_ ≠ ((.slice (some ad374) t358.length co39) : Value).ownBlock) v376 t375) ∧ Aside0 (Below w.heap.size w w'))
               case atStart => exact ⟨(0), (by first | rfl | (simp; done) | (simp [*]; done)), H', ⟨Nat.le_refl _⟩, ⟨by (with_reducible repeat (first | apply Kd.R_alloc | apply Kd.R_drewN | apply Kd.R_drew)); exact HO_3.out⟩, ⟨by (with_reducible repeat (first | apply Kd.R_alloc | apply Kd.R_drewN | apply Kd.R_drew)); exact HO_6.out⟩, ⟨by (with_reducible repeat (first | apply Kd.R_alloc | apply Kd.R_drewN | apply Kd.R_drew)); exact HO_7.out⟩, ⟨by (with_reducible repeat (first | apply Kd.R_alloc | apply Kd.R_drewN | apply Kd.R_drew)); exact Kd.R_mono HO377.out (fun _ hk => ⟨hk.1.2, hk.2⟩)⟩, ⟨by repeat (first | (with_reducible first | exact HB.out | apply below_alloc | apply pw_below_drewN | apply below_drew1) | exact HB.out)⟩⟩
               case round =>
                clear H'
                try clear c1
                try clear c2
                try clear p2
                try clear c3
                try clear p3
                try clear q3
                try clear hx3
                try clear c6
                try clear p6
                try clear c12
                try clear c15
                try clear c17
                try clear c17b0
                try clear c17b1
                try clear c17b2
                try clear c21
                try clear c22
                try clear c23
                try clear c24
                try clear c24b0
                try clear c25
                try clear c26
                try clear c29
                try clear c29b0
                try clear c29b1
                try clear c29b2
                try clear c34
                try clear c34b0
                try clear c35
                try clear c35b0
                try clear c36
                try clear c36b0
                try clear c37
                try clear c37b0
                try clear p37
                try clear q37
                try clear hx37
                try clear hx373_0
                try clear hx373_1
                try clear hx373_2
                try clear hx374_0
                try clear p2
                try clear p3
                try clear p373
                try clear p374
                try clear p6
                try clear q3
                try clear q373
                try clear q374
                obtain ⟨x14_5, rfl, HA, HK5, HO_3, HO_6, HO_7, HO_13, HB⟩ := hrel
                cases gk with
                | zero => exact absurd HA.out (by simp [laws_FnLots.l3])
                | succ k5 =>
                 have H := HA.out
                 clear HA
                 simp only [laws_FnLots.l3] at H
                 by_cases c41 : x14_5 < (t375.length : Int)
                 ·rw [if_pos c41] at H
                  have c41b0 : decide (x14_5 < (t375.length : Int)) = true := decide_eq_true c41
                  clear c41
                  by_cases c42 : 0 ≤ x14_5
                  ·rw [if_pos c42] at H
                   have c42b0 : decide (0 ≤ x14_5) = true := decide_eq_true c42
                   clear c42
                   replace H := Option.bind_eq_some_iff.mp H
                   obtain ⟨t379, A430, H⟩ := H
                   replace H : (if t379 = true then (laws_FnLots.l3 k5 t350 (wrap64 (1 + (Int.tmod t353 6))) t355 t358 x8_2 x9_3 x12_4 t375 (wrap64 (x14_5 + 1))) else (some false)) = some r := H
                   have A43 := Aside0.mk A430
                   clear A430
                   by_cases c44 : t379 = true
                   ·subst c44
                    have H1 : (laws_FnLots.l3 k5 t350 (wrap64 (1 + (Int.tmod t353 6))) t355 t358 x8_2 x9_3 x12_4 t375 (wrap64 (x14_5 + 1))) = some r := by rw [if_pos rfl] at H; exact H
                    clear H
                    have H := H1
                    clear H1
                    have H' := Aside0.mk H
                    clear H
                    obtain ⟨Ao45, co45, eo45⟩ := Kd.R_slice HO_13.out
                    subst eo45
                    have p378 : 0 ≤ (x14_5 : Int) := of_decide_eq_true (by first | (with_reducible assumption) | assumption)
                    have q378 : x14_5 < (t375.length : Int) := of_decide_eq_true (by first | (with_reducible assumption) | assumption)
                    obtain ⟨ad378, e378, hx378_0⟩ := Kd.at_int (Kd.R_reads' HO_13.out).2.2 x14_5 p378 q378
                    cases e378
                    replace p378 := eq_true p378
                    replace q378 := eq_true q378
                    obtain ⟨Ao46, co46, eo46⟩ := Kd.R_slice HO_6.out
                    subst eo46
                    go_wp2_with (first | ((with_reducible refine gate_callee (f := 26) rfl ?_); refine goesL_ (some 107) rfl rfl Try.func26 (by kernel_rfl) rfl #[.slice Ao46 t355.length co46, .int .i64 (rd t375 x14_5)] rfl (by (try simp only [List.map_toArray, List.map_cons, List.map_nil]); first | done | rfl | (simp only [List.length_drop, List.length_take]; rfl)) ?_; (with_reducible refine (laws_has.calls k5 _ _ t355 (rd t375 x14_5) true _ ?side1 ?side2 A43.out).mono ?_); (case side1 => repeat (first | exact (Kd.R_reads' HO_6.out).2.2 | (with_reducible refine Kd.C_alloc ?_ _) | (with_reducible refine Kd.C_drewN ?_ _) | (with_reducible refine Kd.C_drew ?_))); (case side2 => exact (Kd.R_reads' HO_6.out).2.1); rintro e w' ⟨rfl, ⟨nd, rfl⟩⟩; refine ⟨_, rfl, ?_⟩))
                    go_roundg k5
                    case measure => have := HJ8.out; have := HK2.out; have := HK3.out; have := HK4.out; have := HK5.out; omega
                    case rel => exact ⟨(wrap64 (x14_5 + 1)), (by first | rfl | (simp; done) | (simp [*]; done)), H', ⟨by have := HJ8.out; have := HK2.out; have := HK3.out; have := HK4.out; have := HK5.out; omega⟩, ⟨by (with_reducible repeat (first | apply Kd.R_alloc | apply Kd.R_drewN | apply Kd.R_drew)); exact HO_3.out⟩, ⟨by (with_reducible repeat (first | apply Kd.R_alloc | apply Kd.R_drewN | apply Kd.R_drew)); exact HO_6.out⟩, ⟨by (with_reducible repeat (first | apply Kd.R_alloc | apply Kd.R_drewN | apply Kd.R_drew)); exact HO_7.out⟩, ⟨by (with_reducible repeat (first | apply Kd.R_alloc | apply Kd.R_drewN | apply Kd.R_drew)); exact HO_13.out⟩, ⟨by repeat (first | (with_reducible first | exact HB.out | apply below_alloc | apply pw_below_drewN | apply below_drew1) | exact HB.out)⟩⟩
                   ·replace c44 := Bool.eq_false_iff.mpr c44
                    subst c44
                    have H1 : (some false) = some r := by rw [if_neg (show ¬ (false = true) by decide)] at H; exact H
                    clear H
                    have H := H1
                    clear H1
                    exact absurd (H.trans (congrArg some HRT.out)) (by simp)
                  ·rw [if_neg c42] at H
                   exact absurd H (by simp)
                 ·rw [if_neg c41] at H
                  have c41b0 : decide (x14_5 < (t375.length : Int)) = false := decide_eq_false c41
                  clear c41
                  have H' := Aside0.mk H
                  clear H
                  obtain ⟨Ao47, co47, eo47⟩ := Kd.R_slice HO_13.out
                  subst eo47
                  go_wp2
                  go_roundg k5
                  case measure => have := HJ8.out; have := HK2.out; have := HK3.out; have := HK4.out; have := HK5.out; omega
                  case rel => exact ⟨(wrap64 (x12_4 + 1)), (by first | rfl | (simp; done) | (simp [*]; done)), H', ⟨by have := HJ8.out; have := HK2.out; have := HK3.out; have := HK4.out; have := HK5.out; omega⟩, ⟨by (with_reducible repeat (first | apply Kd.R_alloc | apply Kd.R_drewN | apply Kd.R_drew)); exact HO_3.out⟩, ⟨by (with_reducible repeat (first | apply Kd.R_alloc | apply Kd.R_drewN | apply Kd.R_drew)); exact Kd.R_mono HO_6.out (fun _ hk => hk.1)⟩, ⟨by (with_reducible repeat (first | apply Kd.R_alloc | apply Kd.R_drewN | apply Kd.R_drew)); exact Kd.R_mono HO_7.out (fun _ hk => hk.1)⟩, ⟨by repeat (first | (with_reducible first | exact HB.out | apply below_alloc | apply pw_below_drewN | apply below_drew1) | exact HB.out)⟩⟩
              ·rw [if_neg c37] at H
               exact absurd H (by simp)
             ·rw [if_neg c36] at H
              have c36b0 : decide (x12_4 < (t358.length : Int)) = false := decide_eq_false c36
              clear c36
              replace H := Option.bind_eq_some_iff.mp H
              obtain ⟨t380, A480, H⟩ := H
              replace H : (laws_FnLots.l4 k4 t350 (wrap64 (1 + (Int.tmod t353 6))) t358 x8_2 x9_3 t380 0) = some r := H
              have A48 := Aside0.mk A480
              clear A480
              have H' := Aside0.mk H
              clear H
              obtain ⟨Ao49, co49, eo49⟩ := Kd.R_slice HO_7.out
              subst eo49
              go_wp2_with (first | ((with_reducible refine gate_callee (f := 27) rfl ?_); refine goesL_ (some 111) rfl rfl Try.func27 (by kernel_rfl) rfl #[.slice Ao11 t350.length co11, .slice Ao49 t358.length co49] rfl (by (try simp only [List.map_toArray, List.map_cons, List.map_nil]); first | done | rfl | (simp only [List.length_drop, List.length_take]; rfl)) ?_; (with_reducible refine (impl_Suspects.calls k4 _ _ t350 _ _ t358 t380 _ ?side1 ?side2 ?side3 ?side4 A48.out).mono ?_); (case side1 => repeat (first | exact (Kd.R_reads' HO_3.out).2.2 | (with_reducible refine Kd.C_alloc ?_ _) | (with_reducible refine Kd.C_drewN ?_ _) | (with_reducible refine Kd.C_drew ?_))); (case side2 => exact (Kd.R_reads' HO_3.out).2.1); (case side3 => repeat (first | exact (Kd.R_reads' HO_7.out).2.2 | (with_reducible refine Kd.C_alloc ?_ _) | (with_reducible refine Kd.C_drewN ?_ _) | (with_reducible refine Kd.C_drew ?_))); (case side4 => exact (Kd.R_reads' HO_7.out).2.1); rintro e w50 ⟨v381, rfl, ho0, hb⟩; refine ⟨_, rfl, ?_⟩; have n0_ := Aside0.mk (Kd.R_below (by (with_reducible repeat (first | apply Kd.R_alloc | apply Kd.R_drewN | apply Kd.R_drew)); exact HO_3.out) hb); have n1_ := Aside0.mk (Kd.R_elder' (by (with_reducible repeat (first | apply Kd.R_alloc | apply Kd.R_drewN | apply Kd.R_drew)); exact HO_6.out) (Kd.R_base ho0) hb); have n2_ := Aside0.mk (Kd.R_elder' (by (with_reducible repeat (first | apply Kd.R_alloc | apply Kd.R_drewN | apply Kd.R_drew)); exact HO_7.out) (Kd.R_base ho0) hb); have n3_ := Aside0.mk (Kd.R_lower (Kd.R_new' (Kd.R_new' ho0 (Kd.R_lt (by (with_reducible repeat (first | apply Kd.R_alloc | apply Kd.R_drewN | apply Kd.R_drew)); exact HO_6.out))) (Kd.R_lt (by (with_reducible repeat (first | apply Kd.R_alloc | apply Kd.R_drewN | apply Kd.R_drew)); exact HO_7.out))) (below_size (by repeat (first | (with_reducible first | exact HB.out | apply below_alloc | apply pw_below_drewN | apply below_drew1) | exact HB.out)))); have n4_ := Aside0.mk (below_step (by repeat (first | (with_reducible first | exact HB.out | apply below_alloc | apply pw_below_drewN | apply below_drew1) | exact HB.out)) hb); clear HO_3 HO_6 HO_7 HB; have HO_3 := n0_; have HO_6 := n1_; have HO_7 := n2_; have HO382 := n3_; have HB := n4_; clear n0_ n1_ n2_ n3_ n4_; (try clear hb); (try clear hb2); (try clear hk); (try clear hi); (try clear ho0)))
              go_loopg [16] k4 (fun kq v16 w' => ∃ (x16_5 : Int), v16 = .int .i64 x16_5 ∧ Aside0 (laws_FnLots.l4 kq t350 (wrap64 (1 + (Int.tmod t353 6))) t358 x8_2 x9_3 t380 x16_5 = some r) ∧ Aside0 (kq ≤ k4) ∧ Aside0 (Kd.R k39 39 w' w.heap.size (fun _ => True) (.slice Ao11 t350.length co11) t350) ∧ Aside0 (Kd.R (Kd.int .i64) 3 w' w.heap.size (fun k_ => some k_ ≠ (v381 : Value).ownBlock) (.slice Ao49 t358.length co49) t358) ∧ Aside0 (Kd.R (Kd.int .i64) 3 w' w.heap.size (fun k_ => some k_ ≠ ((.slice Ao49 t358.length co49) : Value).ownBlock) v381 t380) ∧ Aside0 (Below w.heap.size w w'))
              case atStart => exact ⟨(0), (by first | rfl | (simp; done) | (simp [*]; done)), H', ⟨Nat.le_refl _⟩, ⟨by (with_reducible repeat (first | apply Kd.R_alloc | apply Kd.R_drewN | apply Kd.R_drew)); exact HO_3.out⟩, ⟨by (with_reducible repeat (first | apply Kd.R_alloc | apply Kd.R_drewN | apply Kd.R_drew)); exact Kd.R_mono HO_7.out (fun _ hk => hk.2)⟩, ⟨by (with_reducible repeat (first | apply Kd.R_alloc | apply Kd.R_drewN | apply Kd.R_drew)); exact Kd.R_mono HO382.out (fun _ hk => hk.2)⟩, ⟨by repeat (first | (with_reducible first | exact HB.out | apply below_alloc | apply pw_below_drewN | apply below_drew1) | exact HB.out)⟩⟩
              case round =>
               clear H'
               try clear c1
               try clear c2
               try clear p2
               try clear c3
               try clear p3
               try clear q3
               try clear hx3
               try clear c4
               try clear c6
               try clear p6
               try clear c12
               try clear c15
               try clear c17
               try clear c17b0
               try clear c17b1
               try clear c17b2
               try clear c21
               try clear c22
               try clear c23
               try clear c24
               try clear c24b0
               try clear c25
               try clear c26
               try clear c27
               try clear c29
               try clear c29b0
               try clear c29b1
               try clear c29b2
               try clear c34
               try clear c34b0
               try clear c35
               try clear c35b0
               try clear c36
               try clear c36b0
               try clear c37
               try clear c37b0
               try clear p37
               try clear q37
               try clear hx37
               try clear c41
               try clear c41b0
               try clear c42
               try clear c42b0
               try clear c44
               try clear hx373_0
               try clear hx373_1
               try clear hx373_2
               try clear hx374_0
               try clear hx378_0
               try clear p2
               try clear p3
               try clear p37
               try clear p373
               try clear p374
               try clear p378
               try clear p6
               try clear q3
               try clear q37
               try clear q373
               try clear q374
               try clear q378
               obtain ⟨x16_5, rfl, HA, HK5, HO_3, HO_7, HO_15, HB⟩ := hrel
               cases gk with
               | zero => exact absurd HA.out (by simp [laws_FnLots.l4])
               | succ k5 =>
                have H := HA.out
                clear HA
                simp only [laws_FnLots.l4] at H
                by_cases c51 : x16_5 < (t380.length : Int)
                ·rw [if_pos c51] at H
                 have c51b0 : decide (x16_5 < (t380.length : Int)) = true := decide_eq_true c51
                 clear c51
                 by_cases c52 : 0 ≤ x16_5
                 ·rw [if_pos c52] at H
                  have c52b0 : decide (0 ≤ x16_5) = true := decide_eq_true c52
                  clear c52
                  replace H := Option.bind_eq_some_iff.mp H
                  obtain ⟨t387, A530, H⟩ := H
                  replace H : ((laws_sameInts.f k5 t387 t358).bind fun t390 => (if t390 = true then (laws_FnLots.l4 k5 t350 (wrap64 (1 + (Int.tmod t353 6))) t358 x8_2 x9_3 t380 (wrap64 (x16_5 + 1))) else (some false))) = some r := H
                  have A53 := Aside0.mk A530
                  clear A530
                  replace H := Option.bind_eq_some_iff.mp H
                  obtain ⟨t390, A540, H⟩ := H
                  replace H : (if t390 = true then (laws_FnLots.l4 k5 t350 (wrap64 (1 + (Int.tmod t353 6))) t358 x8_2 x9_3 t380 (wrap64 (x16_5 + 1))) else (some false)) = some r := H
                  have A54 := Aside0.mk A540
                  clear A540
                  by_cases c55 : t390 = true
                  ·subst c55
                   have H1 : (laws_FnLots.l4 k5 t350 (wrap64 (1 + (Int.tmod t353 6))) t358 x8_2 x9_3 t380 (wrap64 (x16_5 + 1))) = some r := by rw [if_pos rfl] at H; exact H
                   clear H
                   have H := H1
                   clear H1
                   have H' := Aside0.mk H
                   clear H
                   obtain ⟨Ao56, co56, eo56⟩ := Kd.R_slice HO_15.out
                   subst eo56
                   have p386 : 0 ≤ (x16_5 : Int) := of_decide_eq_true (by first | (with_reducible assumption) | assumption)
                   have q386 : x16_5 < (t380.length : Int) := of_decide_eq_true (by first | (with_reducible assumption) | assumption)
                   obtain ⟨ad386, e386, hx386_0⟩ := Kd.at_int (Kd.R_reads' HO_15.out).2.2 x16_5 p386 q386
                   cases e386
                   replace p386 := eq_true p386
                   replace q386 := eq_true q386
                   go_wp2_with (first | ((with_reducible refine gate_callee (f := 15) rfl ?_); refine goesL_ (some 123) rfl rfl Try.func15 (by kernel_rfl) rfl #[.slice Ao11 t350.length co11, .int .i64 (rd t380 x16_5)] rfl (by (try simp only [List.map_toArray, List.map_cons, List.map_nil]); first | done | rfl | (simp only [List.length_drop, List.length_take]; rfl)) ?_; (with_reducible refine (impl_BreadsOf.calls k5 _ _ t350 (rd t380 x16_5) t387 _ ?side1 ?side2 A53.out).mono ?_); (case side1 => repeat (first | exact (Kd.R_reads' HO_3.out).2.2 | (with_reducible refine Kd.C_alloc ?_ _) | (with_reducible refine Kd.C_drewN ?_ _) | (with_reducible refine Kd.C_drew ?_))); (case side2 => exact (Kd.R_reads' HO_3.out).2.1); rintro e w57 ⟨v388, rfl, ho0, hb⟩; refine ⟨_, rfl, ?_⟩; have n0_ := Aside0.mk (Kd.R_below (by (with_reducible repeat (first | apply Kd.R_alloc | apply Kd.R_drewN | apply Kd.R_drew)); exact HO_3.out) hb); have n1_ := Aside0.mk (Kd.R_elder' (by (with_reducible repeat (first | apply Kd.R_alloc | apply Kd.R_drewN | apply Kd.R_drew)); exact HO_7.out) (Kd.R_base ho0) hb); have n2_ := Aside0.mk (Kd.R_elder' (by (with_reducible repeat (first | apply Kd.R_alloc | apply Kd.R_drewN | apply Kd.R_drew)); exact HO_15.out) (Kd.R_base ho0) hb); have n3_ := Aside0.mk (Kd.R_lower (Kd.R_new' (Kd.R_new' ho0 (Kd.R_lt (by (with_reducible repeat (first | apply Kd.R_alloc | apply Kd.R_drewN | apply Kd.R_drew)); exact HO_7.out))) (Kd.R_lt (by (with_reducible repeat (first | apply Kd.R_alloc | apply Kd.R_drewN | apply Kd.R_drew)); exact HO_15.out))) (below_size (by repeat (first | (with_reducible first | exact HB.out | apply below_alloc | apply pw_below_drewN | apply below_drew1) | exact HB.out)))); have n4_ := Aside0.mk (below_step (by repeat (first | (with_reducible first | exact HB.out | apply below_alloc | apply pw_below_drewN | apply below_drew1) | exact HB.out)) hb); clear HO_3 HO_7 HO_15 HB; have HO_3 := n0_; have HO_7 := n1_; have HO_15 := n2_; have HO389 := n3_; have HB := n4_; clear n0_ n1_ n2_ n3_ n4_; (try clear hb); (try clear hb2); (try clear hk); (try clear hi); (try clear ho0); obtain ⟨Ao58, co58, eo58⟩ := Kd.R_slice HO389.out; subst eo58) | ((with_reducible refine gate_callee (f := 28) rfl ?_); refine goesL_ (some 125) rfl rfl Try.func28 (by kernel_rfl) rfl #[.slice Ao58 t387.length co58, .slice Ao49 t358.length co49] rfl (by (try simp only [List.map_toArray, List.map_cons, List.map_nil]); first | done | rfl | (simp only [List.length_drop, List.length_take]; rfl)) ?_; (with_reducible refine (laws_sameInts.calls k5 _ _ t387 _ _ t358 true _ ?side1 ?side2 ?side3 ?side4 A54.out).mono ?_); (case side1 => repeat (first | exact (Kd.R_reads' HO389.out).2.2 | (with_reducible refine Kd.C_alloc ?_ _) | (with_reducible refine Kd.C_drewN ?_ _) | (with_reducible refine Kd.C_drew ?_))); (case side2 => exact (Kd.R_reads' HO389.out).2.1); (case side3 => repeat (first | exact (Kd.R_reads' HO_7.out).2.2 | (with_reducible refine Kd.C_alloc ?_ _) | (with_reducible refine Kd.C_drewN ?_ _) | (with_reducible refine Kd.C_drew ?_))); (case side4 => exact (Kd.R_reads' HO_7.out).2.1); rintro e w' ⟨rfl, ⟨nd, rfl⟩⟩; refine ⟨_, rfl, ?_⟩))
                   go_roundg k5
                   case measure => have := HJ8.out; have := HK2.out; have := HK3.out; have := HK4.out; have := HK5.out; omega
                   case rel => exact ⟨(wrap64 (x16_5 + 1)), (by first | rfl | (simp; done) | (simp [*]; done)), H', ⟨by have := HJ8.out; have := HK2.out; have := HK3.out; have := HK4.out; have := HK5.out; omega⟩, ⟨by (with_reducible repeat (first | apply Kd.R_alloc | apply Kd.R_drewN | apply Kd.R_drew)); exact HO_3.out⟩, ⟨by (with_reducible repeat (first | apply Kd.R_alloc | apply Kd.R_drewN | apply Kd.R_drew)); exact Kd.R_mono HO_7.out (fun _ hk => hk.1)⟩, ⟨by (with_reducible repeat (first | apply Kd.R_alloc | apply Kd.R_drewN | apply Kd.R_drew)); exact Kd.R_mono HO_15.out (fun _ hk => hk.1)⟩, ⟨by repeat (first | (with_reducible first | exact HB.out | apply below_alloc | apply pw_below_drewN | apply below_drew1) | exact HB.out)⟩⟩
                  ·replace c55 := Bool.eq_false_iff.mpr c55
                   subst c55
                   have H1 : (some false) = some r := by rw [if_neg (show ¬ (false = true) by decide)] at H; exact H
                   clear H
                   have H := H1
                   clear H1
                   exact absurd (H.trans (congrArg some HRT.out)) (by simp)
                 ·rw [if_neg c52] at H
                  exact absurd H (by simp)
                ·rw [if_neg c51] at H
                 have c51b0 : decide (x16_5 < (t380.length : Int)) = false := decide_eq_false c51
                 clear c51
                 by_cases c59 : x8_2 = x9_3
                 ·rw [if_pos c59] at H
                  have c59b0 : (x8_2 == x9_3) = true := beq_iff_eq.mpr c59
                  have c59b1 : (x8_2 != x9_3) = false := bne_eq_false_iff_eq.mpr c59
                  clear c59
                  replace H := Option.bind_eq_some_iff.mp H
                  obtain ⟨t383, A600, H⟩ := H
                  replace H : (if (t383 == (decide ((t358.length : Int) > 0))) = true then ((impl_UsesOk.f t350).bind fun t384 => (if t384 = true then ((impl_UsedOf.f k5 t350 50).bind fun t385 => (some (t385 == 0))) else (some false))) else (some false)) = some r := H
                  have A60 := Aside0.mk A600
                  clear A600
                  by_cases c61 : (t383 == (decide ((t358.length : Int) > 0))) = true
                  ·rw [if_pos c61] at H
                   have c61b0 : (t383 == (decide ((t358.length : Int) > 0))) = true := c61
                   (try (have c61b1 : decide (t383 = (decide ((t358.length : Int) > 0))) = true := by simpa using c61))
                   (try (have c61b2 : (t383 == (decide ((t358.length : Int) > 0))) = true := by simpa using c61))
                   (try (have c61b3 : t383 = decide (0 < t358.length) := by simpa using c61))
                   (try (have c61b4 : (t383 == decide (0 < t358.length)) = true := by simpa using c61))
                   clear c61
                   replace H := Option.bind_eq_some_iff.mp H
                   obtain ⟨t384, A620, H⟩ := H
                   replace H : (if t384 = true then ((impl_UsedOf.f k5 t350 50).bind fun t385 => (some (t385 == 0))) else (some false)) = some r := H
                   have A62 := Aside0.mk A620
                   clear A620
                   by_cases c63 : t384 = true
                   ·subst c63
                    have H1 : ((impl_UsedOf.f k5 t350 50).bind fun t385 => (some (t385 == 0))) = some r := by rw [if_pos rfl] at H; exact H
                    clear H
                    have H := H1
                    clear H1
                    replace H := Option.bind_eq_some_iff.mp H
                    obtain ⟨t385, A640, H⟩ := H
                    replace H : (some (t385 == 0)) = some r := H
                    have A64 := Aside0.mk A640
                    clear A640
                    obtain rfl := Option.some.inj H
                    obtain ⟨Ao65, co65, eo65⟩ := Kd.R_slice HO_15.out
                    subst eo65
                    go_wp2_with (first | (go_at_call 26; (with_reducible refine (laws_has.calls k5 _ _ t380 (wrap64 (1 + (Int.tmod t353 6))) t383 _ ?side1 ?side2 A60.out).mono ?_); (case side1 => repeat (first | exact (Kd.R_reads' HO_15.out).2.2 | (with_reducible refine Kd.C_alloc ?_ _) | (with_reducible refine Kd.C_drewN ?_ _) | (with_reducible refine Kd.C_drew ?_))); (case side2 => exact (Kd.R_reads' HO_15.out).2.1); rintro e w' ⟨rfl, ⟨nd, rfl⟩⟩) | (go_at_call 29; (with_reducible refine (impl_UsesOk.calls _ _ t350 true _ ?side1 ?side2 A62.out).mono ?_); (case side1 => repeat (first | exact (Kd.R_reads' HO_3.out).2.2 | (with_reducible refine Kd.C_alloc ?_ _) | (with_reducible refine Kd.C_drewN ?_ _) | (with_reducible refine Kd.C_drew ?_))); (case side2 => exact (Kd.R_reads' HO_3.out).2.1); rintro e w66 ⟨rfl, hb⟩; have n0_ := Aside0.mk (Kd.R_below (by (with_reducible repeat (first | apply Kd.R_alloc | apply Kd.R_drewN | apply Kd.R_drew)); exact HO_3.out) hb); have n1_ := Aside0.mk (Kd.R_below (by (with_reducible repeat (first | apply Kd.R_alloc | apply Kd.R_drewN | apply Kd.R_drew)); exact HO_7.out) hb); have n2_ := Aside0.mk (Kd.R_below (by (with_reducible repeat (first | apply Kd.R_alloc | apply Kd.R_drewN | apply Kd.R_drew)); exact HO_15.out) hb); have n3_ := Aside0.mk (below_step (by repeat (first | (with_reducible first | exact HB.out | apply below_alloc | apply pw_below_drewN | apply below_drew1) | exact HB.out)) hb); clear HO_3 HO_7 HO_15 HB; have HO_3 := n0_; have HO_7 := n1_; have HO_15 := n2_; have HB := n3_; clear n0_ n1_ n2_ n3_; (try clear hb); (try clear hb2); (try clear hk); (try clear hi)) | (go_at_call 12; (with_reducible refine (impl_UsedOf.calls k5 _ _ t350 50 t385 _ ?side1 ?side2 A64.out).mono ?_); (case side1 => repeat (first | exact (Kd.R_reads' HO_3.out).2.2 | (with_reducible refine Kd.C_alloc ?_ _) | (with_reducible refine Kd.C_drewN ?_ _) | (with_reducible refine Kd.C_drew ?_))); (case side2 => exact (Kd.R_reads' HO_3.out).2.1); rintro e w67 ⟨rfl, hb⟩; have n0_ := Aside0.mk (Kd.R_below (by (with_reducible repeat (first | apply Kd.R_alloc | apply Kd.R_drewN | apply Kd.R_drew)); exact HO_3.out) hb); have n1_ := Aside0.mk (Kd.R_below (by (with_reducible repeat (first | apply Kd.R_alloc | apply Kd.R_drewN | apply Kd.R_drew)); exact HO_7.out) hb); have n2_ := Aside0.mk (Kd.R_below (by (with_reducible repeat (first | apply Kd.R_alloc | apply Kd.R_drewN | apply Kd.R_drew)); exact HO_15.out) hb); have n3_ := Aside0.mk (below_step (by repeat (first | (with_reducible first | exact HB.out | apply below_alloc | apply pw_below_drewN | apply below_drew1) | exact HB.out)) hb); clear HO_3 HO_7 HO_15 HB; have HO_3 := n0_; have HO_7 := n1_; have HO_15 := n2_; have HB := n3_; clear n0_ n1_ n2_ n3_; (try clear hb); (try clear hb2); (try clear hk); (try clear hi)))
                    go_ret
                    exact ⟨by first | rfl | (simp [errW_none, errW_some] <;> rfl) | (simp [*, errW_none, errW_some] <;> rfl), by repeat (first | (with_reducible first | exact HB.out | apply below_alloc | apply pw_below_drewN | apply below_drew1) | exact HB.out)⟩
                   ·replace c63 := Bool.eq_false_iff.mpr c63
                    subst c63
                    have H1 : (some false) = some r := by rw [if_neg (show ¬ (false = true) by decide)] at H; exact H
                    clear H
                    have H := H1
                    clear H1
                    exact absurd (H.trans (congrArg some HRT.out)) (by simp)
                  ·rw [if_neg c61] at H
                   have c61b0 : (t383 == (decide ((t358.length : Int) > 0))) = false := by simpa using c61
                   (try (have c61b1 : decide (t383 = (decide ((t358.length : Int) > 0))) = false := by simpa using c61))
                   (try (have c61b2 : (t383 == (decide ((t358.length : Int) > 0))) = false := by simpa using c61))
                   (try (have c61b3 : ¬ (t383 = decide (0 < t358.length)) := by simpa using c61))
                   (try (have c61b4 : (t383 == decide (0 < t358.length)) = false := by simpa using c61))
                   (try (have c61b3 : ¬ (t383 = (decide ((t358.length : Int) > 0))) := by simpa using c61))
                   clear c61
                   exact absurd (H.trans (congrArg some HRT.out)) (by simp)
                 ·rw [if_neg c59] at H
                  have c59b0 : (x8_2 == x9_3) = false := beq_eq_false_iff_ne.mpr c59
                  have c59b1 : (x8_2 != x9_3) = true := bne_iff_ne.mpr c59
                  exact absurd (H.trans (congrArg some HRT.out)) (by simp)
/-- THE ONE PURE STATEMENT of laws_FnLots. -/
def laws_FnLots.Pure : Prop := ∀ (l0 : List Int), l0.length ≤ maxLen → l0.length * 1 ≤ 140737488351232 → (∀ x ∈ l0, (Lit.int .u8 x).wf = true) → ∃ k, laws_FnLots.f k l0 = some true
theorem laws_FnLots.walk (P : laws_FnLots.Pure) (A0 : Option Addr) (c0 : Nat) (l0 : List Int) (w : World) (hr0 : Kd.C (Kd.int .u8) w A0 l0.length l0) (hc0 : l0.length ≤ c0) (y0 : l0.length ≤ maxLen) (y1 : l0.length * 1 ≤ 140737488351232) (y2 : (∀ x ∈ l0, (Lit.int .u8 x).wf = true)) :
  Calls Try.prog 6 #[.slice A0 l0.length c0] w fun e w' => e = .returned (.bool true) ∧ Below w.heap.size w w' := by
 obtain ⟨k, h⟩ := P l0 y0 y1 y2
 refine (laws_FnLots.calls k A0 c0 l0 true w hr0 hc0 rfl h).mono ?_
 rintro e w' ⟨rfl, hd⟩
 exact ⟨rfl, hd⟩

end Go.Proofs.Ythdgbngnddkkiaa.PHX
