-- Written by a program of this session (wip/hprint.py, over the kit's print).
import Derived.Test.YtciceapcnjoogaaPDVx0
import Derived.Test.YtciceapcnjoogaaPDVx1
import Derived.Test.YtciceapcnjoogaaPDVx2
namespace Go.Proofs.Ytciceapcnjoogaa.PDV
open Go.RowKit Go.Proofs.YtciceapcnjoogaaW.PrintWords Go.Proofs.YtciceapcnjoogaaW.PrintLast Go.Proofs.YtciceapcnjoogaaW.PrintMore
attribute [local go_sem] max2_int min2_int max_two min_two max_three min_three max_four min_four   -- for this text's walks alone
set_option linter.unusedVariables false
set_option linter.unusedSimpArgs false

/-! ### impl_TripsOk: function 15 -/
def loadP (k : Nat) (l0 : List (S35)) (room : Int) (t : List Int) : Bool := decide (room < (impl_loadOf.f k l0 t).getD 0)
def impl_TripsOk.f (k : Nat) (l0 : List (S35)) (l1 : List (List Int)) (a2 : Int) : Option (Bool) := (impl_ShopsOk.f k l0).bind fun b => (if b = true then ((impl_in.f a2 1 100).bind fun c => (if c = true then ((slices_Concat_int_int.f l1).bind fun o => ((impl_isOrder.f k o (l0.length : Int)).bind fun d => (if d = true then (if (∀ t ∈ l1, (impl_loadOf.f k l0 t).isSome = true) then (some (!(l1.any (loadP k l0 a2)))) else none) else (some false)))) else (some false))) else (some false))
theorem impl_TripsOk.mono : ∀ a0 a1 a2 k, LeO (impl_TripsOk.f k a0 a1 a2) (impl_TripsOk.f (k + 1) a0 a1 a2) := by
  intro l0 l1 a2 k
  unfold impl_TripsOk.f
  refine LeO.bind (impl_ShopsOk.mono l0 k) (fun b => LeO.ite (LeO.bind (LeO.refl _) (fun c => LeO.ite (LeO.bind (LeO.refl _) (fun o => LeO.bind (impl_isOrder.mono o _ k) (fun d => LeO.ite ?_ (LeO.refl _)))) (LeO.refl _))) (LeO.refl _))
  intro r h
  split at h
  · rename_i hs
    have he : ∀ t ∈ l1, impl_loadOf.f (k + 1) l0 t = impl_loadOf.f k l0 t := fun t ht => by
      obtain ⟨v, hv⟩ := Option.isSome_iff_exists.1 (hs t ht)
      rw [hv]
      exact impl_loadOf.mono l0 t k v hv
    rw [if_pos (fun t ht => by rw [he t ht]; exact hs t ht), ← h]
    congr 2
    rw [Bool.eq_iff_iff, List.any_eq_true, List.any_eq_true]
    unfold loadP
    exact ⟨fun ⟨t, ht, q⟩ => ⟨t, ht, by rw [he t ht] at q; exact q⟩, fun ⟨t, ht, q⟩ => ⟨t, ht, by rw [he t ht]; exact q⟩⟩
  · cases h
set_option maxHeartbeats 2000000 in
theorem tripsOkLit (k : Nat) (l0 : List (S35)) (A0 : Option Addr) (c0 : Nat) (l : List (List Int)) (room : Int) (B0 B1 : Nat) (w : World) (hr0 : Kd.C k35 w A0 l0.length l0) (hc0 : l0.length ≤ c0) (h0 : w.cell? ⟨B0, 0, none⟩ = some (.slice A0 l0.length c0)) (h1 : w.cell? ⟨B1, 0, none⟩ = some (.int .i64 room))
    (hs : ∀ t ∈ l, (impl_loadOf.f k l0 t).isSome = true) : PrdRow Try.prog 38 #[.pointer (some ⟨B0, 0, none⟩), .pointer (some ⟨B1, 0, none⟩)] l (loadP k l0 room) w := fun W x hx hb A c hc hC => by
  obtain ⟨v, hv⟩ := Option.isSome_iff_exists.1 (hs x hx)
  have hm := hC.2.1
  have hm0 := hr0.2.1
  have hc1 : W.cell? ⟨B0, 0, none⟩ = some (.slice A0 l0.length c0) := pw_cell_below hb h0
  have hc2 : W.cell? ⟨B1, 0, none⟩ = some (.int .i64 room) := pw_cell_below hb h1
  have C1 : ∀ W', Below W.heap.size W W' → Calls Try.prog 39 #[.slice A0 l0.length c0, .slice A x.length c] W' fun e w' => e = .returned (.int .i64 v) ∧ Below W.heap.size W w' := fun W' hW => (impl_loadOf.calls k A0 c0 l0 A c x v W' (Kd.C_below (Kd.C_below hr0 hb) hW) hc0 (Kd.C_below hC hW) hc hv).mono fun e w' ⟨he, hq⟩ => ⟨he, by obtain ⟨nq, rfl⟩ := hq.out; exact pw_below_drewN hW nq⟩
  have HB := Aside0.mk hb
  have HC1 := Aside0.mk C1
  have e : loadP k l0 room x = decide (room < v) := by unfold loadP; rw [hv]; rfl
  rw [e]
  show Calls Try.prog 38 #[.slice A x.length c, .pointer (some ⟨B0, 0, none⟩), .pointer (some ⟨B1, 0, none⟩)] W (fun e w' => e = .returned (.bool (decide (room < v))) ∧ Below w.heap.size w w')
  clear hb C1 hv hs hx e hC h0 h1 hr0
  go_enter Try.func38, Try.ntmps38
  have KS : Aside0 (∀ w', Below W.heap.size W w' → (Below W.heap.size W w' ∧ w'.cell? ⟨B0, 0, none⟩ = some (.slice A0 l0.length c0) ∧ w'.cell? ⟨B1, 0, none⟩ = some (.int .i64 room))) := ⟨fun w' h => ⟨h, pw_cell_below h hc1, pw_cell_below h hc2⟩⟩
  go_wp2
  first
  | go_region_held3 (fun w' => Below W.heap.size W w' ∧ w'.cell? ⟨B0, 0, none⟩ = some (.slice A0 l0.length c0) ∧ w'.cell? ⟨B1, 0, none⟩ = some (.int .i64 room))
      (first | (refine KS.out _ ?_; repeat (first | exact Below.refl _ _ | assumption | apply below_drew | apply pw_below_drewN)))
      (first | (go_at_call 39; refine (HC1.out _ (And.left (by assumption))).mono ?_; rintro e w2 ⟨rfl, hw2⟩))
  | fail "region"
  go_wp2
  go_ret
  exact ⟨by simp, below_then HB.out HB.out.size hw2⟩
set_option maxHeartbeats 8000000 in
set_option maxRecDepth 100000 in
theorem impl_TripsOk.calls (k : Nat) (A0 : Option Addr) (c0 : Nat) (l0 : List (S35)) (A1 : Option Addr) (c1 : Nat) (l1 : List (List Int)) (a2 : Int) (r : Bool) (w : World) (hr0 : Kd.C k35 w A0 l0.length l0) (hc0 : l0.length ≤ c0) (hr1 : Kd.C (Kd.slice 3 (Kd.int .i64)) w A1 l1.length l1) (hc1 : l1.length ≤ c1) (h : impl_TripsOk.f k l0 l1 a2 = some r) :
    Calls Try.prog 15 #[.slice A0 l0.length c0, .slice A1 l1.length c1, .int .i64 a2] w fun e w' => e = .returned (.bool r) ∧ Below w.heap.size w w' := by
  have eg : ∀ args w, (callFunc 38 args).run Try.prog w = .ok (.enter 38 args) w := enters_of Try.func38 (by kernel_rfl) rfl
  have hb1 : Below w.heap.size w ((w.alloc (.cells #[.slice A0 l0.length c0] 24)).alloc (.cells #[.int .i64 a2] 3)) := ((Below.refl _ w).alloc (Nat.le_refl _) _).alloc (by simp) _
  unfold impl_TripsOk.f at h
  obtain ⟨b, hb, h⟩ := Option.bind_eq_some_iff.mp h
  have hm0 := hr0.2.1
  have hm1 := hr1.2.1
  have hcl0 : ((w.alloc (.cells #[.slice A0 l0.length c0] 24)).alloc (.cells #[.int .i64 a2] 3)).cell? ⟨w.heap.size, 0, none⟩ = some (.slice A0 l0.length c0) := (blk_cell (blk_alloc (blk_new w (.cells #[.slice A0 l0.length c0] 24)) _) 0).trans rfl
  have hcl1 : ((w.alloc (.cells #[.slice A0 l0.length c0] 24)).alloc (.cells #[.int .i64 a2] 3)).cell? ⟨w.heap.size + 1, 0, none⟩ = some (.int .i64 a2) := by
    have := (blk_cell (blk_new (w.alloc (.cells #[.slice A0 l0.length c0] 24)) (.cells #[.int .i64 a2] 3)) 0).trans (show _ = some (Value.int .i64 a2) from rfl)
    simp
  generalize hW0 : ((w.alloc (.cells #[.slice A0 l0.length c0] 24)).alloc (.cells #[.int .i64 a2] 3)) = W0 at hb1 hcl0 hcl1
  have C1 : Aside0 (∀ W, Below W0.heap.size W0 W → Calls Try.prog 16 #[.slice A0 l0.length c0] W fun e w' => e = .returned (.bool b) ∧ Below W0.heap.size W0 w') := ⟨fun W hW => (impl_ShopsOk.calls k A0 c0 l0 b W (Kd.C_below (Kd.C_below hr0 hb1) hW) hc0 hb).mono fun e w' ⟨he, hq⟩ => ⟨he, below_then hW hW.size hq⟩⟩
  have C2 : Aside0 (∀ c, impl_in.f a2 1 100 = some c → ∀ W, Below W0.heap.size W0 W → Calls Try.prog 34 #[.int .i64 a2, .int .i64 1, .int .i64 100] W fun e w' => e = .returned (.bool c) ∧ Below W0.heap.size W0 w') := ⟨fun c hc W hW => (impl_in.calls a2 1 100 c W hc).mono fun e w' ⟨he, hq⟩ => ⟨he, by obtain ⟨nq, rfl⟩ := hq.out; exact pw_below_drewN hW nq⟩⟩
  have C3 : Aside0 (∀ o, slices_Concat_int_int.f l1 = some o → ∀ W, Below W0.heap.size W0 W → Calls Try.prog 36 #[.slice A1 l1.length c1] W fun e w' => ∃ Ax cx, e = .returned (.slice Ax o.length cx) ∧ o.length ≤ cx ∧ Kd.C (Kd.int .i64) w' Ax o.length o ∧ Below W0.heap.size W0 w') := ⟨fun o ho W hW => (slices_Concat_int_int.calls A1 c1 l1 o W (Kd.C_below (Kd.C_below hr1 hb1) hW) hc1 ho).mono fun e w' ⟨v0, he, hR, hq⟩ => by
    obtain ⟨Ax, cx, ev, hl, hC⟩ := Kd.R_reads hR
    exact ⟨Ax, cx, by rw [he, ev], hl, hC, below_then hW hW.size hq⟩⟩
  have C4 : Aside0 (∀ o d, impl_isOrder.f k o (l0.length : Int) = some d → ∀ W Ax cx, o.length ≤ cx → Kd.C (Kd.int .i64) W Ax o.length o → Below W0.heap.size W0 W → Calls Try.prog 35 #[.slice Ax o.length cx, .int .i64 (l0.length : Int)] W fun e w' => e = .returned (.bool d) ∧ Below W0.heap.size W0 w') := ⟨fun o d hd W Ax cx hl hC hW => (impl_isOrder.calls k Ax cx o _ d W hC hl hd).mono fun e w' ⟨he, hq⟩ => ⟨he, by first | exact below_then hW hW.size hq | (obtain ⟨nq, rfl⟩ := hq.out; exact pw_below_drewN hW nq)⟩⟩
  have C5 : Aside0 ((∀ t ∈ l1, (impl_loadOf.f k l0 t).isSome = true) → ∀ W, Below W0.heap.size W0 W → Calls Try.prog 37 #[.slice A1 l1.length c1, .func (.func 38) #[] #[.pointer (some ⟨w.heap.size, 0, none⟩), .pointer (some ⟨w.heap.size + 1, 0, none⟩)]] W fun e w' => e = .returned (.bool (l1.any (loadP k l0 a2))) ∧ Below W0.heap.size W0 w') := ⟨fun hs W hW =>
    (containsRow A1 c1 l1 _ _ _ eg W (Kd.C_below (Kd.C_below hr1 hb1) hW) (tripsOkLit k l0 A0 c0 l1 a2 w.heap.size (w.heap.size + 1) W (Kd.C_below (Kd.C_below hr0 hb1) hW) hc0 (pw_cell_below hW hcl0) (pw_cell_below hW hcl1) hs)).mono fun e w' ⟨he, hq⟩ => ⟨he, below_then hW hW.size hq⟩⟩
  have KS : Aside0 (∀ w', Below W0.heap.size W0 w' → (Below W0.heap.size W0 w' ∧ w'.cell? ⟨w.heap.size, 0, none⟩ = some (.slice A0 l0.length c0) ∧ w'.cell? ⟨w.heap.size + 1, 0, none⟩ = some (.int .i64 a2))) := ⟨fun w' h => ⟨h, pw_cell_below h hcl0, pw_cell_below h hcl1⟩⟩
  have HB := Aside0.mk hb1
  have HS : Aside0 (∀ w', Below W0.heap.size W0 w' → Below w.heap.size w w') := ⟨fun w' h => below_then hb1 hb1.size h⟩
  clear hr0 hr1 hb hb1 eg
  cases b with
  | false =>
    rw [if_neg (by simp)] at h
    obtain rfl := Option.some.inj h
    clear h C2 C3 C4 C5
    go_enter Try.func15, Try.ntmps15
    go_wp2
    first
    | go_region_with (first | (go_at_call 16; refine (C1.out _ (by repeat (first | assumption | exact Below.refl _ _ | apply below_drew | apply pw_below_drewN))).mono ?_; rintro e w1 ⟨rfl, hw1⟩; have hd10 := pw_cell_below hw1 hcl0; have hd11 := pw_cell_below hw1 hcl1))
    | fail "region"
    all_goals (
      go_wp2
      go_ret
      exact ⟨rfl, HS.out _ hw1⟩)
  | true =>
    rw [if_pos rfl] at h
    obtain ⟨c, hc, h⟩ := Option.bind_eq_some_iff.mp h
    have C2c := Aside0.mk (C2.out c hc)
    clear hc C2
    cases c with
    | false =>
      rw [if_neg (by simp)] at h
      obtain rfl := Option.some.inj h
      clear h C3 C4 C5
      go_enter Try.func15, Try.ntmps15
      go_wp2
      first
      | go_region_with (first | (go_at_call 16; refine (C1.out _ (by repeat (first | assumption | exact Below.refl _ _ | apply below_drew | apply pw_below_drewN))).mono ?_; rintro e w1 ⟨rfl, hw1⟩; have hd10 := pw_cell_below hw1 hcl0; have hd11 := pw_cell_below hw1 hcl1) | (go_at_call 34; refine (C2c.out _ (by repeat (first | assumption | exact Below.refl _ _ | apply below_drew | apply pw_below_drewN))).mono ?_; rintro e w2 ⟨rfl, hw2⟩; have hd20 := pw_cell_below hw2 hcl0; have hd21 := pw_cell_below hw2 hcl1))
      | fail "region"
      all_goals (
        go_wp2
        go_ret
        exact ⟨rfl, HS.out _ hw2⟩)
    | true =>
      rw [if_pos rfl] at h
      obtain ⟨o, ho, h⟩ := Option.bind_eq_some_iff.mp h
      have C3o := Aside0.mk (C3.out o ho)
      clear ho C3
      obtain ⟨d, hd, h⟩ := Option.bind_eq_some_iff.mp h
      have C4d := Aside0.mk (C4.out o d hd)
      clear hd C4
      cases d with
      | false =>
        rw [if_neg (by simp)] at h
        obtain rfl := Option.some.inj h
        clear h C5
        go_enter Try.func15, Try.ntmps15
        go_wp2
        first
        | go_region_held3 (fun w' => Below W0.heap.size W0 w' ∧ w'.cell? ⟨w.heap.size, 0, none⟩ = some (.slice A0 l0.length c0) ∧ w'.cell? ⟨w.heap.size + 1, 0, none⟩ = some (.int .i64 a2))
            (first | (refine KS.out _ ?_; repeat (first | exact Below.refl _ _ | assumption | apply below_drew | apply pw_below_drewN)))
            (first | (go_at_call 16; refine (C1.out _ (And.left (by assumption))).mono ?_; rintro e w1 ⟨rfl, hw1⟩) | (go_at_call 34; refine (C2c.out _ (And.left (by assumption))).mono ?_; rintro e w2 ⟨rfl, hw2⟩) | (go_at_call 36; refine (C3o.out _ (And.left (by assumption))).mono ?_; rintro e w3 ⟨Ax, cx, rfl, hl3, hC3, hw3⟩; have HC3 := Aside0.mk hC3; have HL3 := Aside0.mk hl3; have hm3 := hC3.2.1; clear hC3 hl3) | (go_at_call 35; refine (C4d.out _ Ax cx HL3.out (by repeat (first | exact HC3.out | apply Kd.C_drewN | apply Kd.C_drew)) (And.left (by assumption))).mono ?_; rintro e w4 ⟨rfl, hw4⟩))
        | fail "region"
        go_wp2
        go_ret
        exact ⟨rfl, HS.out _ hw4⟩
      | true =>
        rw [if_pos rfl] at h
        by_cases hs : (∀ t ∈ l1, (impl_loadOf.f k l0 t).isSome = true)
        · rw [if_pos hs] at h
          have C6 := Aside0.mk (C5.out hs)
          obtain rfl := Option.some.inj h
          clear h C5 hs
          generalize (l1.any (loadP k l0 a2)) = q at C6 ⊢
          go_enter Try.func15, Try.ntmps15
          go_wp2
          first
          | go_region_held3 (fun w' => Below W0.heap.size W0 w' ∧ w'.cell? ⟨w.heap.size, 0, none⟩ = some (.slice A0 l0.length c0) ∧ w'.cell? ⟨w.heap.size + 1, 0, none⟩ = some (.int .i64 a2))
              (first | (refine KS.out _ ?_; repeat (first | exact Below.refl _ _ | assumption | apply below_drew | apply pw_below_drewN)))
              (first | (go_at_call 16; refine (C1.out _ (And.left (by assumption))).mono ?_; rintro e w1 ⟨rfl, hw1⟩) | (go_at_call 34; refine (C2c.out _ (And.left (by assumption))).mono ?_; rintro e w2 ⟨rfl, hw2⟩) | (go_at_call 36; refine (C3o.out _ (And.left (by assumption))).mono ?_; rintro e w3 ⟨Ax, cx, rfl, hl3, hC3, hw3⟩; have HC3 := Aside0.mk hC3; have HL3 := Aside0.mk hl3; have hm3 := hC3.2.1; clear hC3 hl3) | (go_at_call 35; refine (C4d.out _ Ax cx HL3.out (by repeat (first | exact HC3.out | apply Kd.C_drewN | apply Kd.C_drew)) (And.left (by assumption))).mono ?_; rintro e w4 ⟨rfl, hw4⟩))
          | fail "region"
          go_wp2_with (go_at_call 37; refine (C6.out _ hw4).mono ?_; rintro e w5 ⟨rfl, hw5⟩)
          go_ret
          exact ⟨by simp, HS.out _ hw5⟩
        · rw [if_neg hs] at h
          cases h


/-! ### impl_WayOf: function 13 -/
mutual
def impl_WayOf.l0 : Nat → List (S35) → Int → List (List Int) → Int → Int → Option (Int)
 | 0, _, _, _, _, _ => none
 | k + 1, x0, x5, x15, x16, x17 => if x17 < x16 then (if 0 ≤ x17 then (if x17 < (x15.length : Int) then (impl_WayOf.l1 k x0 x5 0 x15 x16 x17 (rd_L5 x15 x17) ((rd_L5 x15 x17).length : Int) 0) else (none)) else (none)) else (some x5)
def impl_WayOf.l1 : Nat → List (S35) → Int → Int → List (List Int) → Int → Int → List Int → Int → Int → Option (Int)
 | 0, _, _, _, _, _, _, _, _, _ => none
 | k + 1, x0, x5, x8, x15, x16, x17, x21, x22, x23 => if x23 < x22 then (if 0 ≤ x23 then (if x23 < (x21.length : Int) then (if 0 ≤ (rd x21 x23) then (if (rd x21 x23) < (x0.length : Int) then (impl_WayOf.l1 k x0 x5 (mx x8 ((rd_T35 x0 (rd x21 x23)).f0)) x15 x16 x17 x21 x22 (wrap64 (x23 + 1))) else (none)) else (none)) else (none)) else (none)) else (impl_WayOf.l0 k x0 (wrap64 (x5 + (wrap64 (2 * x8)))) x15 x16 (wrap64 (x17 + 1)))
end
def impl_WayOf.f (k : Nat) (l0 : List (S35)) (l1 : List (List Int)) : Option (Int) := (impl_TripsOk.f k l0 l1 100).bind fun t181 => (if t181 = true then (impl_WayOf.l0 k l0 0 l1 (l1.length : Int) 0) else (some (-1)))
theorem impl_WayOf.mono_l : ∀ k, (∀ y0 y1 y2 y3 y4, LeO (impl_WayOf.l0 k y0 y1 y2 y3 y4) (impl_WayOf.l0 (k + 1) y0 y1 y2 y3 y4)) ∧ (∀ y0 y1 y2 y3 y4 y5 y6 y7 y8, LeO (impl_WayOf.l1 k y0 y1 y2 y3 y4 y5 y6 y7 y8) (impl_WayOf.l1 (k + 1) y0 y1 y2 y3 y4 y5 y6 y7 y8))
 | 0 => ⟨fun _ _ _ _ _ r h => by simp [impl_WayOf.l0] at h, fun _ _ _ _ _ _ _ _ _ r h => by simp [impl_WayOf.l1] at h⟩
 | k + 1 => by
  obtain ⟨ih0, ih1⟩ := impl_WayOf.mono_l k
  refine ⟨?_, ?_⟩
  ·intro y0 y1 y2 y3 y4
   unfold impl_WayOf.l0
   repeat' first
   | (with_reducible exact ih0 _ _ _ _ _)
   | (with_reducible exact ih1 _ _ _ _ _ _ _ _ _)
   | (with_reducible exact impl_TripsOk.mono _ _ _ _)
   | (with_reducible exact LeO.refl _)
   | (with_reducible exact LeO.none _)
   | (with_reducible refine LeO.ite ?_ ?_)
   | (with_reducible refine LeO.bind ?_ (fun _ => ?_))
   | exact ih0 _ _ _ _ _
   | exact ih1 _ _ _ _ _ _ _ _ _
   | exact impl_TripsOk.mono _ _ _ _
   | exact LeO.none _
   | refine LeO.ite ?_ ?_
   | refine LeO.bind ?_ (fun _ => ?_)
  ·intro y0 y1 y2 y3 y4 y5 y6 y7 y8
   unfold impl_WayOf.l1
   repeat' first
   | (with_reducible exact ih0 _ _ _ _ _)
   | (with_reducible exact ih1 _ _ _ _ _ _ _ _ _)
   | (with_reducible exact impl_TripsOk.mono _ _ _ _)
   | (with_reducible exact LeO.refl _)
   | (with_reducible exact LeO.none _)
   | (with_reducible refine LeO.ite ?_ ?_)
   | (with_reducible refine LeO.bind ?_ (fun _ => ?_))
   | exact ih0 _ _ _ _ _
   | exact ih1 _ _ _ _ _ _ _ _ _
   | exact impl_TripsOk.mono _ _ _ _
   | exact LeO.none _
   | refine LeO.ite ?_ ?_
   | refine LeO.bind ?_ (fun _ => ?_)
theorem impl_WayOf.mono : ∀ a0 a1 k, LeO (impl_WayOf.f k a0 a1) (impl_WayOf.f (k + 1) a0 a1) := by
 intro a0 a1 k
 obtain ⟨ih0, ih1⟩ := impl_WayOf.mono_l k
 unfold impl_WayOf.f
 repeat' first
   | (with_reducible exact ih0 _ _ _ _ _)
   | (with_reducible exact ih1 _ _ _ _ _ _ _ _ _)
   | (with_reducible exact impl_TripsOk.mono _ _ _ _)
   | (with_reducible exact LeO.refl _)
   | (with_reducible exact LeO.none _)
   | (with_reducible refine LeO.ite ?_ ?_)
   | (with_reducible refine LeO.bind ?_ (fun _ => ?_))
   | exact ih0 _ _ _ _ _
   | exact ih1 _ _ _ _ _ _ _ _ _
   | exact impl_TripsOk.mono _ _ _ _
   | exact LeO.none _
   | refine LeO.ite ?_ ?_
   | refine LeO.bind ?_ (fun _ => ?_)
set_option maxHeartbeats 8000000 in
set_option maxRecDepth 100000 in
theorem impl_WayOf.calls (k : Nat) (A0 : Option Addr) (c0 : Nat) (l0 : List (S35)) (A1 : Option Addr) (c1 : Nat) (l1 : List (List Int)) (r : Int) (w : World) (hr0 : Kd.C k35 w A0 l0.length l0) (hc0 : l0.length ≤ c0) (hr1 : Kd.C (Kd.slice 3 (Kd.int .i64)) w A1 l1.length l1) (hc1 : l1.length ≤ c1) (h : impl_WayOf.f k l0 l1 = some r) :
  Calls Try.prog 13 #[.slice A0 l0.length c0, .slice A1 l1.length c1] w fun e w' => e = .returned (.int .i64 r) ∧ Below w.heap.size w w' := by
 have HR0 := Aside0.mk hr0
 have HC0 := Aside0.mk hc0
 clear hr0 hc0
 have HR1 := Aside0.mk hr1
 have HC1 := Aside0.mk hc1
 clear hr1 hc1
 have HB := Aside0.mk (Below.refl w.heap.size w)
 have H : ((impl_TripsOk.f k l0 l1 100).bind fun t181 => (if t181 = true then (impl_WayOf.l0 k l0 0 l1 (l1.length : Int) 0) else (some (-1)))) = some r := h
 clear h
 replace H := Option.bind_eq_some_iff.mp H
 obtain ⟨t181, A30, H⟩ := H
 replace H : (if t181 = true then (impl_WayOf.l0 k l0 0 l1 (l1.length : Int) 0) else (some (-1))) = some r := H
 have A3 := Aside0.mk A30
 clear A30
 by_cases c4 : t181 = true
 ·subst c4
  have H1 : (impl_WayOf.l0 k l0 0 l1 (l1.length : Int) 0) = some r := by rw [if_pos rfl] at H; exact H
  clear H
  have H := H1
  clear H1
  have H' := Aside0.mk H
  clear H
  go_enter Try.func13, Try.ntmps13
  go_wp2_with (first | ((with_reducible refine gate_callee (f := 15) rfl ?_); refine goesL_ (some 13) rfl rfl Try.func15 (by kernel_rfl) rfl #[.slice A0 l0.length c0, .slice A1 l1.length c1, .int .i64 100] rfl (by (try simp only [List.map_toArray, List.map_cons, List.map_nil]); first | done | rfl | (simp only [List.length_drop, List.length_take]; rfl)) ?_; (with_reducible refine (impl_TripsOk.calls k _ _ l0 _ _ l1 100 true _ ?side1 ?side2 ?side3 ?side4 A3.out).mono ?_); (case side1 => repeat (first | exact HR0.out | (with_reducible refine Kd.C_alloc ?_ _) | (with_reducible refine Kd.C_drewN ?_ _) | (with_reducible refine Kd.C_drew ?_))); (case side2 => exact HC0.out); (case side3 => repeat (first | exact HR1.out | (with_reducible refine Kd.C_alloc ?_ _) | (with_reducible refine Kd.C_drewN ?_ _) | (with_reducible refine Kd.C_drew ?_))); (case side4 => exact HC1.out); rintro e w5 ⟨rfl, hb⟩; refine ⟨_, rfl, ?_⟩; have n0_ := Aside0.mk (below_step (by repeat (first | (with_reducible first | exact HB.out | apply below_alloc | apply pw_below_drewN | apply below_drew1) | exact HB.out)) hb); clear HB; have HB := n0_; clear n0_; (try clear hb); (try clear hb2); (try clear hk); (try clear hi)))
  go_loopg [5, 17] k (fun kq v5 v17 w' => ∃ (x5_1 : Int) (x17_1 : Int), v5 = .int .i64 x5_1 ∧ v17 = .int .i64 x17_1 ∧ Aside0 (impl_WayOf.l0 kq l0 x5_1 l1 (l1.length : Int) x17_1 = some r) ∧ Aside0 (kq ≤ k) ∧ Aside0 (Below w.heap.size w w'))
  case atStart => exact ⟨(0), (0), (by first | rfl | (simp; done) | (simp [*]; done)), (by first | rfl | (simp; done) | (simp [*]; done)), H', ⟨Nat.le_refl _⟩, ⟨by repeat (first | (with_reducible first | exact HB.out | apply below_alloc | apply pw_below_drewN | apply below_drew1) | exact HB.out)⟩⟩
  case round =>
   clear H'
   try clear c1
   try clear p2
   try clear c4
   obtain ⟨x5_1, x17_1, rfl, rfl, HA, HK1, HB⟩ := hrel
   cases gk with
   | zero => exact absurd HA.out (by simp [impl_WayOf.l0])
   | succ k1 =>
    have H := HA.out
    clear HA
    simp only [impl_WayOf.l0] at H
    by_cases c6 : x17_1 < (l1.length : Int)
    ·rw [if_pos c6] at H
     have c6b0 : decide (x17_1 < (l1.length : Int)) = true := decide_eq_true c6
     clear c6
     by_cases c7 : 0 ≤ x17_1
     ·rw [if_pos c7] at H
      have c7b0 : decide (0 ≤ x17_1) = true := decide_eq_true c7
      clear c7
      by_cases c8 : x17_1 < (l1.length : Int)
      ·rw [if_pos c8] at H
       have c8b0 : decide (x17_1 < (l1.length : Int)) = true := decide_eq_true c8
       clear c8
       have H' := Aside0.mk H
       clear H
       have p182 : 0 ≤ (x17_1 : Int) := of_decide_eq_true (by first | (with_reducible assumption) | assumption)
       have q182 : x17_1 < (l1.length : Int) := of_decide_eq_true (by first | (with_reducible assumption) | assumption)
       obtain ⟨ad182, A182_0, c182_0, e182, hx182_0, hl182_0, hi182_0⟩ := at_L5 HR1.out x17_1 p182 q182
       cases e182
       replace hx182_0 := (HB.out.cell (World.block_lt_of_cell? w _ hx182_0)).trans hx182_0
       have HR182_0 := Aside0.mk hi182_0
       have HC182_0 := Aside0.mk hl182_0
       clear hi182_0 hl182_0
       replace p182 := eq_true p182
       replace q182 := eq_true q182
       go_wp2
       go_loopg [8, 23] k1 (fun kq v8 v23 w' => ∃ (x8_2 : Int) (x23_2 : Int), v8 = .int .i64 x8_2 ∧ v23 = .int .i64 x23_2 ∧ Aside0 (impl_WayOf.l1 kq l0 x5_1 x8_2 l1 (l1.length : Int) x17_1 (rd_L5 l1 x17_1) ((rd_L5 l1 x17_1).length : Int) x23_2 = some r) ∧ Aside0 (kq ≤ k1) ∧ Aside0 (Below w.heap.size w w'))
       case atStart => exact ⟨(0), (0), (by first | rfl | (simp; done) | (simp [*]; done)), (by first | rfl | (simp; done) | (simp [*]; done)), H', ⟨Nat.le_refl _⟩, ⟨by repeat (first | (with_reducible first | exact HB.out | apply below_alloc | apply pw_below_drewN | apply below_drew1) | exact HB.out)⟩⟩
       case round =>
        clear H'
        try clear c1
        try clear p1
        try clear q1
        try clear hx1
        try clear p2
        try clear c4
        try clear c6
        try clear c6b0
        try clear c7
        try clear c7b0
        try clear c8
        try clear c8b0
        try clear hx182_0
        try clear p182
        try clear p2
        try clear q182
        obtain ⟨x8_2, x23_2, rfl, rfl, HA, HK2, HB⟩ := hrel
        cases gk with
        | zero => exact absurd HA.out (by simp [impl_WayOf.l1])
        | succ k2 =>
         have H := HA.out
         clear HA
         simp only [impl_WayOf.l1] at H
         by_cases c9 : x23_2 < ((rd_L5 l1 x17_1).length : Int)
         ·rw [if_pos c9] at H
          have c9b0 : decide (x23_2 < ((rd_L5 l1 x17_1).length : Int)) = true := decide_eq_true c9
          clear c9
          by_cases c10 : 0 ≤ x23_2
          ·rw [if_pos c10] at H
           have c10b0 : decide (0 ≤ x23_2) = true := decide_eq_true c10
           clear c10
           by_cases c11 : x23_2 < ((rd_L5 l1 x17_1).length : Int)
           ·rw [if_pos c11] at H
            have c11b0 : decide (x23_2 < ((rd_L5 l1 x17_1).length : Int)) = true := decide_eq_true c11
            clear c11
            by_cases c12 : 0 ≤ (rd (rd_L5 l1 x17_1) x23_2)
            ·rw [if_pos c12] at H
             have c12b0 : decide (0 ≤ (rd (rd_L5 l1 x17_1) x23_2)) = true := decide_eq_true c12
             clear c12
             by_cases c13 : (rd (rd_L5 l1 x17_1) x23_2) < (l0.length : Int)
             ·rw [if_pos c13] at H
              have c13b0 : decide ((rd (rd_L5 l1 x17_1) x23_2) < (l0.length : Int)) = true := decide_eq_true c13
              clear c13
              obtain ⟨ji14, hji14⟩ : ∃ j_ : Int, (mx x8_2 ((rd_T35 l0 (rd (rd_L5 l1 x17_1) x23_2)).f0)) = j_ := ⟨_, rfl⟩
              replace H : (impl_WayOf.l1 k2 l0 x5_1 ji14 l1 (l1.length : Int) x17_1 (rd_L5 l1 x17_1) ((rd_L5 l1 x17_1).length : Int) (wrap64 (x23_2 + 1))) = some r := by first | (rw [hji14] at H; exact H) | (simp only [hji14] at H ⊢; exact H)
              have hji14_ : (if x8_2 < ((rd_T35 l0 (rd (rd_L5 l1 x17_1) x23_2)).f0) then ((rd_T35 l0 (rd (rd_L5 l1 x17_1) x23_2)).f0) else x8_2) = ji14 := hji14
              have H' := Aside0.mk H
              clear H
              have p183 : 0 ≤ (x23_2 : Int) := of_decide_eq_true (by first | (with_reducible assumption) | assumption)
              have q183 : x23_2 < ((rd_L5 l1 x17_1).length : Int) := of_decide_eq_true (by first | (with_reducible assumption) | assumption)
              obtain ⟨ad183, e183, hx183_0⟩ := Kd.at_int HR182_0.out x23_2 p183 q183
              cases e183
              replace hx183_0 := (HB.out.cell (World.block_lt_of_cell? w _ hx183_0)).trans hx183_0
              replace p183 := eq_true p183
              replace q183 := eq_true q183
              have p184 : 0 ≤ ((rd (rd_L5 l1 x17_1) x23_2) : Int) := of_decide_eq_true (by first | (with_reducible assumption) | assumption)
              have q184 : (rd (rd_L5 l1 x17_1) x23_2) < (l0.length : Int) := of_decide_eq_true (by first | (with_reducible assumption) | assumption)
              obtain ⟨ad184, e184, hx184_0, hx184_1⟩ := at_T35 HR0.out (rd (rd_L5 l1 x17_1) x23_2) p184 q184
              cases e184
              replace hx184_0 := (HB.out.cell (World.block_lt_of_cell? w _ hx184_0)).trans hx184_0
              replace hx184_1 := (HB.out.cell (World.block_lt_of_cell? w _ hx184_1)).trans hx184_1
              replace p184 := eq_true p184
              replace q184 := eq_true q184
              go_wp2
              go_roundg k2
              case measure => have := HK1.out; have := HK2.out; omega
              case rel => exact ⟨(ji14), (wrap64 (x23_2 + 1)), (by first | rfl | (simp; done) | (simp only [← hji14] <;> (first | rfl | simp)) | (simp [*]; done)), (by first | rfl | (simp; done) | (simp [*]; done)), H', ⟨by have := HK1.out; have := HK2.out; omega⟩, ⟨by repeat (first | (with_reducible first | exact HB.out | apply below_alloc | apply pw_below_drewN | apply below_drew1) | exact HB.out)⟩⟩
             ·rw [if_neg c13] at H
              exact absurd H (by simp)
            ·rw [if_neg c12] at H
             exact absurd H (by simp)
           ·rw [if_neg c11] at H
            exact absurd H (by simp)
          ·rw [if_neg c10] at H
           exact absurd H (by simp)
         ·rw [if_neg c9] at H
          have c9b0 : decide (x23_2 < ((rd_L5 l1 x17_1).length : Int)) = false := decide_eq_false c9
          clear c9
          have H' := Aside0.mk H
          clear H
          go_wp2
          go_roundg k2
          case measure => have := HK1.out; have := HK2.out; omega
          case rel => exact ⟨(wrap64 (x5_1 + (wrap64 (2 * x8_2)))), (wrap64 (x17_1 + 1)), (by first | rfl | (simp; done) | (simp [*]; done)), (by first | rfl | (simp; done) | (simp [*]; done)), H', ⟨by have := HK1.out; have := HK2.out; omega⟩, ⟨by repeat (first | (with_reducible first | exact HB.out | apply below_alloc | apply pw_below_drewN | apply below_drew1) | exact HB.out)⟩⟩
      ·rw [if_neg c8] at H
       exact absurd H (by simp)
     ·rw [if_neg c7] at H
      exact absurd H (by simp)
    ·rw [if_neg c6] at H
     have c6b0 : decide (x17_1 < (l1.length : Int)) = false := decide_eq_false c6
     clear c6
     obtain rfl := Option.some.inj H
     go_wp2
     go_ret
     exact ⟨by first | rfl | (simp [errW_none, errW_some] <;> rfl) | (simp [*, errW_none, errW_some] <;> rfl), by repeat (first | (with_reducible first | exact HB.out | apply below_alloc | apply pw_below_drewN | apply below_drew1) | exact HB.out)⟩
 ·replace c4 := Bool.eq_false_iff.mpr c4
  subst c4
  have H1 : (some (-1)) = some r := by rw [if_neg (show ¬ (false = true) by decide)] at H; exact H
  clear H
  have H := H1
  clear H1
  obtain rfl := Option.some.inj H
  go_enter Try.func13, Try.ntmps13
  go_wp2_with (first | ((with_reducible refine gate_callee (f := 15) rfl ?_); refine goesL_ (some 13) rfl rfl Try.func15 (by kernel_rfl) rfl #[.slice A0 l0.length c0, .slice A1 l1.length c1, .int .i64 100] rfl (by (try simp only [List.map_toArray, List.map_cons, List.map_nil]); first | done | rfl | (simp only [List.length_drop, List.length_take]; rfl)) ?_; (with_reducible refine (impl_TripsOk.calls k _ _ l0 _ _ l1 100 false _ ?side1 ?side2 ?side3 ?side4 A3.out).mono ?_); (case side1 => repeat (first | exact HR0.out | (with_reducible refine Kd.C_alloc ?_ _) | (with_reducible refine Kd.C_drewN ?_ _) | (with_reducible refine Kd.C_drew ?_))); (case side2 => exact HC0.out); (case side3 => repeat (first | exact HR1.out | (with_reducible refine Kd.C_alloc ?_ _) | (with_reducible refine Kd.C_drewN ?_ _) | (with_reducible refine Kd.C_drew ?_))); (case side4 => exact HC1.out); rintro e w15 ⟨rfl, hb⟩; refine ⟨_, rfl, ?_⟩; have n0_ := Aside0.mk (below_step (by repeat (first | (with_reducible first | exact HB.out | apply below_alloc | apply pw_below_drewN | apply below_drew1) | exact HB.out)) hb); clear HB; have HB := n0_; clear n0_; (try clear hb); (try clear hb2); (try clear hk); (try clear hi)))
  go_ret
  exact ⟨by first | rfl | (simp [errW_none, errW_some] <;> rfl) | (simp [*, errW_none, errW_some] <;> rfl), by repeat (first | (with_reducible first | exact HB.out | apply below_alloc | apply pw_below_drewN | apply below_drew1) | exact HB.out)⟩

end Go.Proofs.Ytciceapcnjoogaa.PDV
