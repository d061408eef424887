-- Written by a program of this session (wip/hprint.py, over the kit's print).
import Derived.Test.YtkgigoefmpkngaaPCPx0
import Derived.Test.YtkgigoefmpkngaaPCPx1
import Derived.Test.YtkgigoefmpkngaaPCPx2
import Derived.Test.YtkgigoefmpkngaaPCPx3
import Derived.Test.YtkgigoefmpkngaaPCPx4
namespace Go.Proofs.Ytkgigoefmpkngaa.PCP
open Go.RowKit Go.Proofs.YtkgigoefmpkngaaW.PrintWords Go.Proofs.YtkgigoefmpkngaaW.PrintLast Go.Proofs.YtkgigoefmpkngaaW.PrintMore
attribute [local go_sem] max2_int min2_int max_two min_two max_three min_three max_four min_four   -- for this text's walks alone
set_option linter.unusedVariables false
set_option linter.unusedSimpArgs false

/-! ### laws_markBasketS: function 22 -/
def laws_markBasketS.f : Nat → List S49 → Int → Option Int
  | _, [], m => some m
  | k, x :: xs, m => (laws_markIntS.f k x.f0 m).bind fun t => laws_markBasketS.f k xs t.1
theorem laws_markBasketS.mono : ∀ a0 a1 k, LeO (laws_markBasketS.f k a0 a1) (laws_markBasketS.f (k + 1) a0 a1) := by
  intro a0
  induction a0 with
  | nil => intro a1 k; exact LeO.refl _
  | cons x xs ih =>
    intro a1 k
    simp only [laws_markBasketS.f]
    exact LeO.bind (laws_markIntS.mono _ _ k) (fun t => ih _ k)
set_option maxHeartbeats 8000000 in
set_option maxRecDepth 100000 in
theorem laws_markBasketS.calls (k : Nat) (P0_ : Nat → Prop) (u9000_ : Value) (l0 : List S49) (a1 : Int) (r : Int) (w0 w : World) (hB : Below w0.heap.size w0 w) (ho0 : Kd.S k49 49 w w0.heap.size P0_ u9000_ l0) (h : laws_markBasketS.f k l0 a1 = some r) :
    Calls Try.prog 22 #[u9000_, .int .i64 a1] w fun e w' => e = .returned (.int .i64 r) ∧ Below w0.heap.size w0 w' ∧ Kept w w' (fun k_ => P0_ k_) := by
  obtain ⟨A, c, rfl, hlc, hC⟩ := Kd.R_reads (Kd.S_R ho0)
  have hm := hC.2.1
  have HS0 := Aside0.mk ho0
  have HF0 := Aside0.mk h
  have HB0 := Aside0.mk hB
  clear ho0 h hB hC hlc
  go_enter Try.func22, Try.ntmps22
  go_wp2
  go_loopg [1, 5] l0.length (fun gg v1 v5 wr => ∃ (n : Nat) (m : Int) (X : List S49), n ≤ l0.length ∧ l0.length - n ≤ gg ∧ v1 = .int .i64 m ∧ v5 = .int .i64 n ∧ X.length = l0.length ∧ Aside0 (X.drop n = l0.drop n) ∧ Aside0 (laws_markBasketS.f k (l0.drop n) m = some r) ∧ Aside0 (Kd.S k49 49 wr w0.heap.size P0_ (.slice A l0.length c) X) ∧ Aside0 (Below w0.heap.size w0 wr) ∧ Aside0 (Kept w wr P0_))
  case atStart => exact ⟨0, a1, l0, Nat.zero_le _, by omega, rfl, rfl, rfl, ⟨rfl⟩, HF0, HS0, HB0, ⟨Kept.refl _ _⟩⟩
  case round =>
    obtain ⟨n, m, X, hn, hg, rfl, rfl, hXl, HX, HF, HS, HB, HK⟩ := hrel
    by_cases hlt : n < l0.length
    · have hltz : (n : Int) < (l0.length : Int) := by omega
      obtain ⟨g, cap, e, gb, gl, HG⟩ := Kd.R_form (Kd.S_R HS.out) (by omega)
      injection e with e1 e2 e3
      subst e1
      subst e3
      clear e2
      obtain ⟨oki, c', hcl, hM, hcc, hoki, hH⟩ := Kd.S_lend HS.out l0[n] (n : Int) (by omega) (by omega)
      have hXn : X.getD (n : Int).toNat l0[n] = l0[n] := by
        have h1 := congrArg List.head? HX.out
        rw [List.head?_drop, List.head?_drop, List.getElem?_eq_getElem hlt] at h1
        rw [List.getD_eq_getElem?_getD, Int.toNat_natCast, h1]
        rfl
      rw [hXn] at hM
      clear hXn
      obtain ⟨v0, rfl, hR0⟩ := k49_openM hM
      obtain ⟨A1, c1, rfl⟩ := Kd.R_slice hR0
      have hx0 := hcc 0 _ rfl
      simp only [show (k49).sz = 1 from rfl, Int.toNat_natCast, Nat.add_zero, Nat.mul_one] at hx0
      have hF := HF.out
      rw [List.drop_eq_getElem_cons hlt] at hF
      simp only [laws_markBasketS.f] at hF
      obtain ⟨t, ht, hF⟩ := Option.bind_eq_some_iff.1 hF
      have HF2 := Aside0.mk hF
      have HT := Aside0.mk ht
      have HR0 := Aside0.mk hR0
      have HH := Aside0.mk hH
      have HOK := Aside0.mk hoki
      have HGB := Aside0.mk gb
      have hXl' : n < X.length := by omega
      clear hF ht hR0 hH hoki gb gl HG hcc hM hcl
      obtain ⟨t1, t2⟩ := t
      go_wp2_with (go_at_call 27; refine (laws_markIntS.calls k oki _ l0[n].f0 m t1 t2 w0 _ ?cb ?co HT.out).mono ?_; (case cb => exact HB.out); (case co => exact HR0.out); rintro e w2 ⟨rfl, hR2, hB2, hK2⟩; have hS2 := Kd.H_back (Kd.H_step HH.out (fun q _ hn hlt => hK2.2 q hlt hn)) (x' := ⟨t2⟩) (k49_mkM w2 _ _ ⟨t2⟩ (Kd.R_tight rfl hR2)) (fun q hq => HR0.out.1 q hq.symm); have HS2 := Aside0.mk hS2; have HB2 := Aside0.mk hB2; have HK2 := Aside0.mk hK2; clear hR2 hB2 hK2 hS2)
      go_roundg (l0.length - (n + 1))
      case measure => omega
      case rel =>
        refine ⟨n + 1, t1, _, by omega, by omega, rfl, by go_num, ?_, ⟨?_⟩, HF2, HS2, HB2, ⟨HK.out.then_ HK2.out (fun q hq => .inl (HOK.out q hq).1)⟩⟩
        · simp [hXl]
        · rw [Int.toNat_natCast, List.drop_set_of_lt (by omega)]
          have h1 := congrArg (List.drop 1) HX.out
          rwa [List.drop_drop, List.drop_drop] at h1
    · have hltz : ¬ (n : Int) < (l0.length : Int) := by omega
      have hF := HF.out
      rw [List.drop_of_length_le (by omega)] at hF
      obtain rfl := Option.some.inj hF
      clear hF
      go_wp2
      go_ret
      exact ⟨rfl, HB.out, HK.out⟩


/-! ### laws_markIntSS: function 23 -/
theorem handRowsGe {α : Type} {d : Kd α} {e base : Nat} {ok : Nat → Prop} {w : World} {v : Value} {xs : List α} (h : Kd.S d e w base ok v xs) : Kd.S d e w base (fun k => ok k ∧ base ≤ k) v xs := Kd.S_mono (Kd.S_bound h) (fun _ h => ⟨h.1, h.2.1⟩)
def laws_markIntSS.f : Nat → List (List Int) → Int → Option (Int × List (List Int))
  | _, [], m => some (m, [])
  | k, x :: xs, m => (laws_markIntS.f k x m).bind fun t => (laws_markIntSS.f k xs t.1).bind fun q => some (q.1, t.2 :: q.2)
theorem laws_markIntSS.mono : ∀ a0 a1 k, LeO (laws_markIntSS.f k a0 a1) (laws_markIntSS.f (k + 1) a0 a1) := by
  intro a0
  induction a0 with
  | nil => intro a1 k; exact LeO.refl _
  | cons x xs ih =>
    intro a1 k
    simp only [laws_markIntSS.f]
    exact LeO.bind (laws_markIntS.mono _ _ k) (fun t => LeO.bind (ih _ k) (fun _ => LeO.refl _))
set_option maxHeartbeats 8000000 in
set_option maxRecDepth 100000 in
theorem laws_markIntSS.calls (k : Nat) (P0_ : Nat → Prop) (u9000_ : Value) (l0 : List (List Int)) (a1 : Int) (r1 : Int) (r2 : List (List Int)) (w0 w : World) (hB : Below w0.heap.size w0 w) (ho0 : Kd.S (Kd.slice 3 (Kd.int .i64)) 29 w w0.heap.size P0_ u9000_ l0) (h : laws_markIntSS.f k l0 a1 = some (r1, r2)) :
    Calls Try.prog 23 #[u9000_, .int .i64 a1] w fun e w' => e = .returned (.int .i64 r1) ∧ Kd.S (Kd.slice 3 (Kd.int .i64)) 29 w' w0.heap.size (fun k_ => (P0_ k_ ∨ w.heap.size ≤ k_)) u9000_ r2 ∧ Below w0.heap.size w0 w' ∧ Kept w w' (fun k_ => P0_ k_) := by
  obtain ⟨A, c, rfl, hlc, hC⟩ := Kd.R_reads (Kd.S_R ho0)
  have hm := hC.2.1
  have HS0 := Aside0.mk ho0
  have HF0 := Aside0.mk h
  have HB0 := Aside0.mk hB
  clear ho0 h hB hC hlc
  go_enter Try.func23, Try.ntmps23
  go_wp2
  go_loopg [1, 5] l0.length (fun gg v1 v5 wr => ∃ (n : Nat) (m : Int) (X q : List (List Int)), n ≤ l0.length ∧ l0.length - n ≤ gg ∧ v1 = .int .i64 m ∧ v5 = .int .i64 n ∧ X.length = l0.length ∧ Aside0 (X.drop n = l0.drop n) ∧ Aside0 (laws_markIntSS.f k (l0.drop n) m = some (r1, q)) ∧ Aside0 (r2 = X.take n ++ q) ∧ Aside0 (Kd.S (Kd.slice 3 (Kd.int .i64)) 29 wr w0.heap.size P0_ (.slice A l0.length c) X) ∧ Aside0 (Below w0.heap.size w0 wr) ∧ Aside0 (Kept w wr P0_))
  case atStart => exact ⟨0, a1, l0, r2, Nat.zero_le _, by omega, rfl, rfl, rfl, ⟨rfl⟩, HF0, ⟨rfl⟩, HS0, HB0, ⟨Kept.refl _ _⟩⟩
  case round =>
    obtain ⟨n, m, X, q, hn, hg, rfl, rfl, hXl, HX, HF, HQ, HS, HB, HK⟩ := hrel
    by_cases hlt : n < l0.length
    · have hltz : (n : Int) < (l0.length : Int) := by omega
      obtain ⟨g, cap, e, gb, gl, HG⟩ := Kd.R_form (Kd.S_R HS.out) (by omega)
      injection e with e1 e2 e3
      subst e1
      subst e3
      clear e2
      obtain ⟨oki, c', hcl, hM, hcc, hoki, hH⟩ := Kd.S_lend HS.out l0[n] (n : Int) (by omega) (by omega)
      have hXn : X.getD (n : Int).toNat l0[n] = l0[n] := by
        have h1 := congrArg List.head? HX.out
        rw [List.head?_drop, List.head?_drop, List.getElem?_eq_getElem hlt] at h1
        rw [List.getD_eq_getElem?_getD, Int.toNat_natCast, h1]
        rfl
      rw [hXn] at hM
      clear hXn
      obtain ⟨v0, rfl, hR0⟩ := hM
      obtain ⟨A1, c1, rfl⟩ := Kd.R_slice hR0
      have hx0 := hcc 0 _ rfl
      simp only [show (Kd.slice 3 (Kd.int .i64)).sz = 1 from rfl, Int.toNat_natCast, Nat.add_zero, Nat.mul_one] at hx0
      have hF := HF.out
      rw [List.drop_eq_getElem_cons hlt] at hF
      simp only [laws_markIntSS.f] at hF
      obtain ⟨t, ht, hF⟩ := Option.bind_eq_some_iff.1 hF
      obtain ⟨⟨z1, z2⟩, hz, hF⟩ := Option.bind_eq_some_iff.1 hF
      have hF1 := congrArg Prod.fst (Option.some.inj hF)
      have hF2 := congrArg Prod.snd (Option.some.inj hF)
      simp only at hF1 hF2
      subst hF1
      subst hF2
      have HF2 := Aside0.mk hz
      clear hz
      have HT := Aside0.mk ht
      have HR0 := Aside0.mk hR0
      have HH := Aside0.mk hH
      have HOK := Aside0.mk hoki
      have HGB := Aside0.mk gb
      have hXl' : n < X.length := by omega
      clear hF ht hR0 hH hoki gb gl HG hcc hcl
      obtain ⟨t1, t2⟩ := t
      go_wp2_with (go_at_call 27; refine (laws_markIntS.calls k oki _ l0[n] m t1 t2 w0 _ ?cb ?co HT.out).mono ?_; (case cb => exact HB.out); (case co => exact HR0.out); rintro e w2 ⟨rfl, hR2, hB2, hK2⟩; have hS2 := Kd.H_back (Kd.H_step HH.out (fun q _ hn hlt => hK2.2 q hlt hn)) (x' := t2) ⟨_, rfl, Kd.R_tight rfl hR2⟩ (fun q hq => HR0.out.1 q hq.symm); have HS2 := Aside0.mk hS2; have HB2 := Aside0.mk hB2; have HK2 := Aside0.mk hK2; clear hR2 hB2 hK2 hS2)
      go_roundg (l0.length - (n + 1))
      case measure => omega
      case rel =>
        refine ⟨n + 1, t1, _, z2, by omega, by omega, rfl, by go_num, ?_, ⟨?_⟩, HF2, ⟨?_⟩, HS2, HB2, ⟨HK.out.then_ HK2.out (fun q hq => .inl (HOK.out q hq).1)⟩⟩
        · simp [hXl]
        · rw [Int.toNat_natCast, List.drop_set_of_lt (by omega)]
          have h1 := congrArg (List.drop 1) HX.out
          rwa [List.drop_drop, List.drop_drop] at h1
        · rw [HQ.out, Int.toNat_natCast, List.take_succ_eq_append_getElem (by rw [List.length_set]; omega), List.take_set_of_le (Nat.le_refl _), List.getElem_set_self, List.append_assoc]
          rfl
    · have hltz : ¬ (n : Int) < (l0.length : Int) := by omega
      have hF := HF.out
      rw [List.drop_of_length_le (by omega)] at hF
      have hF1 := congrArg Prod.fst (Option.some.inj hF)
      have hF2 := congrArg Prod.snd (Option.some.inj hF)
      simp only at hF1 hF2
      subst hF1
      subst hF2
      have hr2 := HQ.out
      rw [List.append_nil, List.take_of_length_le (by omega)] at hr2
      clear hF
      go_wp2
      go_ret
      exact ⟨rfl, by first | exact Kd.S_mono HS.out (fun _ h => .inl h) | (rw [hr2]; exact Kd.S_mono HS.out (fun _ h => .inl h)), HB.out, HK.out⟩


/-! ### laws_heldIntS: function 28 -/
def laws_heldIntS.l0 : Nat → List Int → Int → Int → Option (Int)
 | 0, _, _, _ => none
 | k + 1, x0, x1, x5 => if x5 < (x0.length : Int) then (if 0 ≤ x5 then (if (rd x0 x5) = x1 then (laws_heldIntS.l0 k x0 (wrap64 (x1 + 1)) (wrap64 (x5 + 1))) else (some (-1))) else (none)) else (some x1)
def laws_heldIntS.f (k : Nat) (l0 : List Int) (a1 : Int) : Option (Int) := laws_heldIntS.l0 k l0 a1 0
theorem laws_heldIntS.mono_l : ∀ k, (∀ y0 y1 y2, LeO (laws_heldIntS.l0 k y0 y1 y2) (laws_heldIntS.l0 (k + 1) y0 y1 y2))
 | 0 => fun _ _ _ r h => by simp [laws_heldIntS.l0] at h
 | k + 1 => by
  have ih0 := laws_heldIntS.mono_l k
  ·intro y0 y1 y2
   unfold laws_heldIntS.l0
   repeat' first
   | (with_reducible exact ih0 _ _ _)
   | (with_reducible exact LeO.refl _)
   | (with_reducible exact LeO.none _)
   | (with_reducible refine LeO.ite ?_ ?_)
   | (with_reducible refine LeO.bind ?_ (fun _ => ?_))
   | exact ih0 _ _ _
   | exact LeO.none _
   | refine LeO.ite ?_ ?_
   | refine LeO.bind ?_ (fun _ => ?_)
theorem laws_heldIntS.mono : ∀ a0 a1 k, LeO (laws_heldIntS.f k a0 a1) (laws_heldIntS.f (k + 1) a0 a1) := by
 intro a0 a1 k
 have ih0 := laws_heldIntS.mono_l k
 unfold laws_heldIntS.f
 repeat' first
   | (with_reducible exact ih0 _ _ _)
   | (with_reducible exact LeO.refl _)
   | (with_reducible exact LeO.none _)
   | (with_reducible refine LeO.ite ?_ ?_)
   | (with_reducible refine LeO.bind ?_ (fun _ => ?_))
   | exact ih0 _ _ _
   | exact LeO.none _
   | refine LeO.ite ?_ ?_
   | refine LeO.bind ?_ (fun _ => ?_)
set_option maxHeartbeats 8000000 in
set_option maxRecDepth 100000 in
theorem laws_heldIntS.calls (k : Nat) (A0 : Option Addr) (c0 : Nat) (l0 : List Int) (a1 : Int) (r : Int) (w : World) (hr0 : Kd.C (Kd.int .i64) w A0 l0.length l0) (hc0 : l0.length ≤ c0) (h : laws_heldIntS.f k l0 a1 = some r) :
  Calls Try.prog 28 #[.slice A0 l0.length c0, .int .i64 a1] w fun e w' => e = .returned (.int .i64 r) ∧ Drawn0 w w' := by
 have HR0 := Aside0.mk hr0
 have HC0 := Aside0.mk hc0
 clear hr0 hc0
 have H : (laws_heldIntS.l0 k l0 a1 0) = some r := h
 clear h
 have H' := Aside0.mk H
 clear H
 go_enter Try.func28, Try.ntmps28
 go_wp2
 go_loopg [1, 5] k (fun kq v1 v5 w' => ∃ (x1_1 : Int) (x5_1 : Int), v1 = .int .i64 x1_1 ∧ v5 = .int .i64 x5_1 ∧ Aside0 (laws_heldIntS.l0 kq l0 x1_1 x5_1 = some r) ∧ Aside0 (kq ≤ k) ∧ Drawn0 w w')
 case atStart => exact ⟨(a1), (0), (by first | rfl | (simp; done) | (simp [*]; done)), (by first | rfl | (simp; done) | (simp [*]; done)), H', ⟨Nat.le_refl _⟩, by repeat (first | exact Drawn0.refl _ | apply Drawn0.step)⟩
 case round =>
  clear H'
  try clear c2
  try clear p2
  obtain ⟨x1_1, x5_1, rfl, rfl, HA, HK1, ⟨m1, rfl⟩⟩ := hrel
  cases gk with
  | zero => exact absurd HA.out (by simp [laws_heldIntS.l0])
  | succ k1 =>
   have H := HA.out
   clear HA
   simp only [laws_heldIntS.l0] at H
   by_cases c3 : x5_1 < (l0.length : Int)
   ·rw [if_pos c3] at H
    have c3b0 : decide (x5_1 < (l0.length : Int)) = true := decide_eq_true c3
    clear c3
    by_cases c4 : 0 ≤ x5_1
    ·rw [if_pos c4] at H
     have c4b0 : decide (0 ≤ x5_1) = true := decide_eq_true c4
     clear c4
     by_cases c5 : (rd l0 x5_1) = x1_1
     ·rw [if_pos c5] at H
      have c5b0 : ((rd l0 x5_1) == x1_1) = true := beq_iff_eq.mpr c5
      have c5b1 : ((rd l0 x5_1) != x1_1) = false := bne_eq_false_iff_eq.mpr c5
      clear c5
      have H' := Aside0.mk H
      clear H
      have p175 : 0 ≤ (x5_1 : Int) := of_decide_eq_true (by first | (with_reducible assumption) | assumption)
      have q175 : x5_1 < (l0.length : Int) := of_decide_eq_true (by first | (with_reducible assumption) | assumption)
      obtain ⟨ad175, e175, hx175_0⟩ := Kd.at_int HR0.out x5_1 p175 q175
      cases e175
      replace p175 := eq_true p175
      replace q175 := eq_true q175
      go_wp2
      go_roundg k1
      case measure => have := HK1.out; omega
      case rel => exact ⟨(wrap64 (x1_1 + 1)), (wrap64 (x5_1 + 1)), (by first | rfl | (simp; done) | (simp [*]; done)), (by first | rfl | (simp; done) | (simp [*]; done)), H', ⟨by have := HK1.out; omega⟩, by repeat (first | exact Drawn0.refl _ | apply Drawn0.step)⟩
     ·rw [if_neg c5] at H
      have c5b0 : ((rd l0 x5_1) == x1_1) = false := beq_eq_false_iff_ne.mpr c5
      have c5b1 : ((rd l0 x5_1) != x1_1) = true := bne_iff_ne.mpr c5
      obtain rfl := Option.some.inj H
      have p175 : 0 ≤ (x5_1 : Int) := of_decide_eq_true (by first | (with_reducible assumption) | assumption)
      have q175 : x5_1 < (l0.length : Int) := of_decide_eq_true (by first | (with_reducible assumption) | assumption)
      obtain ⟨ad175, e175, hx175_0⟩ := Kd.at_int HR0.out x5_1 p175 q175
      cases e175
      replace p175 := eq_true p175
      replace q175 := eq_true q175
      go_wp2
      go_ret
      exact ⟨by first | rfl | (simp; done) | (simp [*]; done), by repeat (first | exact Drawn0.refl _ | apply Drawn0.step)⟩
    ·rw [if_neg c4] at H
     exact absurd H (by simp)
   ·rw [if_neg c3] at H
    have c3b0 : decide (x5_1 < (l0.length : Int)) = false := decide_eq_false c3
    clear c3
    obtain rfl := Option.some.inj H
    go_wp2
    go_ret
    exact ⟨by first | rfl | (simp; done) | (simp [*]; done), by repeat (first | exact Drawn0.refl _ | apply Drawn0.step)⟩

/-! ### laws_heldIntSS: function 24 -/
def laws_heldIntSS.l0 : Nat → List (List Int) → Int → Int → Option (Int)
 | 0, _, _, _ => none
 | k + 1, x0, x1, x5 => if x5 < (x0.length : Int) then (if 0 ≤ x5 then ((laws_heldIntS.f k (rd_L1 x0 x5) x1).bind fun t177 => (if t177 < 0 then (some (-1)) else (laws_heldIntSS.l0 k x0 t177 (wrap64 (x5 + 1))))) else (none)) else (some x1)
def laws_heldIntSS.f (k : Nat) (l0 : List (List Int)) (a1 : Int) : Option (Int) := laws_heldIntSS.l0 k l0 a1 0
theorem laws_heldIntSS.mono_l : ∀ k, (∀ y0 y1 y2, LeO (laws_heldIntSS.l0 k y0 y1 y2) (laws_heldIntSS.l0 (k + 1) y0 y1 y2))
 | 0 => fun _ _ _ r h => by simp [laws_heldIntSS.l0] at h
 | k + 1 => by
  have ih0 := laws_heldIntSS.mono_l k
  ·intro y0 y1 y2
   unfold laws_heldIntSS.l0
   repeat' first
   | (with_reducible exact ih0 _ _ _)
   | (with_reducible exact laws_heldIntS.mono _ _ _)
   | (with_reducible exact LeO.refl _)
   | (with_reducible exact LeO.none _)
   | (with_reducible refine LeO.ite ?_ ?_)
   | (with_reducible refine LeO.bind ?_ (fun _ => ?_))
   | exact ih0 _ _ _
   | exact laws_heldIntS.mono _ _ _
   | exact LeO.none _
   | refine LeO.ite ?_ ?_
   | refine LeO.bind ?_ (fun _ => ?_)
theorem laws_heldIntSS.mono : ∀ a0 a1 k, LeO (laws_heldIntSS.f k a0 a1) (laws_heldIntSS.f (k + 1) a0 a1) := by
 intro a0 a1 k
 have ih0 := laws_heldIntSS.mono_l k
 unfold laws_heldIntSS.f
 repeat' first
   | (with_reducible exact ih0 _ _ _)
   | (with_reducible exact laws_heldIntS.mono _ _ _)
   | (with_reducible exact LeO.refl _)
   | (with_reducible exact LeO.none _)
   | (with_reducible refine LeO.ite ?_ ?_)
   | (with_reducible refine LeO.bind ?_ (fun _ => ?_))
   | exact ih0 _ _ _
   | exact laws_heldIntS.mono _ _ _
   | exact LeO.none _
   | refine LeO.ite ?_ ?_
   | refine LeO.bind ?_ (fun _ => ?_)
set_option maxHeartbeats 8000000 in
set_option maxRecDepth 100000 in
theorem laws_heldIntSS.calls (k : Nat) (A0 : Option Addr) (c0 : Nat) (l0 : List (List Int)) (a1 : Int) (r : Int) (w : World) (hr0 : Kd.C (Kd.slice 3 (Kd.int .i64)) w A0 l0.length l0) (hc0 : l0.length ≤ c0) (h : laws_heldIntSS.f k l0 a1 = some r) :
  Calls Try.prog 24 #[.slice A0 l0.length c0, .int .i64 a1] w fun e w' => e = .returned (.int .i64 r) ∧ Drawn0 w w' := by
 have HR0 := Aside0.mk hr0
 have HC0 := Aside0.mk hc0
 clear hr0 hc0
 have H : (laws_heldIntSS.l0 k l0 a1 0) = some r := h
 clear h
 have H' := Aside0.mk H
 clear H
 go_enter Try.func24, Try.ntmps24
 go_wp2
 go_loopg [1, 5] k (fun kq v1 v5 w' => ∃ (x1_1 : Int) (x5_1 : Int), v1 = .int .i64 x1_1 ∧ v5 = .int .i64 x5_1 ∧ Aside0 (laws_heldIntSS.l0 kq l0 x1_1 x5_1 = some r) ∧ Aside0 (kq ≤ k) ∧ Drawn0 w w')
 case atStart => exact ⟨(a1), (0), (by first | rfl | (simp; done) | (simp [*]; done)), (by first | rfl | (simp; done) | (simp [*]; done)), H', ⟨Nat.le_refl _⟩, by repeat (first | exact Drawn0.refl _ | apply Drawn0.step)⟩
 case round =>
  clear H'
  try clear c2
  try clear p2
  obtain ⟨x1_1, x5_1, rfl, rfl, HA, HK1, ⟨m1, rfl⟩⟩ := hrel
  cases gk with
  | zero => exact absurd HA.out (by simp [laws_heldIntSS.l0])
  | succ k1 =>
   have H := HA.out
   clear HA
   simp only [laws_heldIntSS.l0] at H
   by_cases c3 : x5_1 < (l0.length : Int)
   ·rw [if_pos c3] at H
    have c3b0 : decide (x5_1 < (l0.length : Int)) = true := decide_eq_true c3
    clear c3
    by_cases c4 : 0 ≤ x5_1
    ·rw [if_pos c4] at H
     have c4b0 : decide (0 ≤ x5_1) = true := decide_eq_true c4
     clear c4
     replace H := Option.bind_eq_some_iff.mp H
     obtain ⟨t177, A50, H⟩ := H
     replace H : (if t177 < 0 then (some (-1)) else (laws_heldIntSS.l0 k1 l0 t177 (wrap64 (x5_1 + 1)))) = some r := H
     have A5 := Aside0.mk A50
     clear A50
     by_cases c6 : t177 < 0
     ·rw [if_pos c6] at H
      have c6b0 : decide (t177 < 0) = true := decide_eq_true c6
      clear c6
      obtain rfl := Option.some.inj H
      have p176 : 0 ≤ (x5_1 : Int) := of_decide_eq_true (by first | (with_reducible assumption) | assumption)
      have q176 : x5_1 < (l0.length : Int) := of_decide_eq_true (by first | (with_reducible assumption) | assumption)
      obtain ⟨ad176, A176_0, c176_0, e176, hx176_0, hl176_0, hi176_0⟩ := at_L1 HR0.out x5_1 p176 q176
      cases e176
      have HR176_0 := Aside0.mk hi176_0
      have HC176_0 := Aside0.mk hl176_0
      clear hi176_0 hl176_0
      replace p176 := eq_true p176
      replace q176 := eq_true q176
      go_wp2_with (first | ((with_reducible refine gate_callee (f := 28) rfl ?_); refine goesL_ (some 17) rfl rfl Try.func28 (by kernel_rfl) rfl #[.slice A176_0 (rd_L1 l0 x5_1).length c176_0, .int .i64 x1_1] rfl (by (try simp only [List.map_toArray, List.map_cons, List.map_nil]); first | done | rfl | (simp only [List.length_drop, List.length_take]; rfl)) ?_; (with_reducible refine (laws_heldIntS.calls k1 _ _ (rd_L1 l0 x5_1) x1_1 t177 _ ?side1 ?side2 A5.out).mono ?_); (case side1 => repeat (first | exact HR176_0.out | (with_reducible refine Kd.C_alloc ?_ _) | (with_reducible refine Kd.C_drewN ?_ _) | (with_reducible refine Kd.C_drew ?_))); (case side2 => exact HC176_0.out); rintro e w' ⟨rfl, ⟨nd, rfl⟩⟩; refine ⟨_, rfl, ?_⟩))
      go_ret
      exact ⟨by first | rfl | (simp; done) | (simp [*]; done), by repeat (first | exact Drawn0.refl _ | apply Drawn0.step)⟩
     ·rw [if_neg c6] at H
      have c6b0 : decide (t177 < 0) = false := decide_eq_false c6
      clear c6
      have H' := Aside0.mk H
      clear H
      have p176 : 0 ≤ (x5_1 : Int) := of_decide_eq_true (by first | (with_reducible assumption) | assumption)
      have q176 : x5_1 < (l0.length : Int) := of_decide_eq_true (by first | (with_reducible assumption) | assumption)
      obtain ⟨ad176, A176_0, c176_0, e176, hx176_0, hl176_0, hi176_0⟩ := at_L1 HR0.out x5_1 p176 q176
      cases e176
      have HR176_0 := Aside0.mk hi176_0
      have HC176_0 := Aside0.mk hl176_0
      clear hi176_0 hl176_0
      replace p176 := eq_true p176
      replace q176 := eq_true q176
      go_wp2_with (first | ((with_reducible refine gate_callee (f := 28) rfl ?_); refine goesL_ (some 17) rfl rfl Try.func28 (by kernel_rfl) rfl #[.slice A176_0 (rd_L1 l0 x5_1).length c176_0, .int .i64 x1_1] rfl (by (try simp only [List.map_toArray, List.map_cons, List.map_nil]); first | done | rfl | (simp only [List.length_drop, List.length_take]; rfl)) ?_; (with_reducible refine (laws_heldIntS.calls k1 _ _ (rd_L1 l0 x5_1) x1_1 t177 _ ?side1 ?side2 A5.out).mono ?_); (case side1 => repeat (first | exact HR176_0.out | (with_reducible refine Kd.C_alloc ?_ _) | (with_reducible refine Kd.C_drewN ?_ _) | (with_reducible refine Kd.C_drew ?_))); (case side2 => exact HC176_0.out); rintro e w' ⟨rfl, ⟨nd, rfl⟩⟩; refine ⟨_, rfl, ?_⟩))
      go_roundg k1
      case measure => have := HK1.out; omega
      case rel => exact ⟨(t177), (wrap64 (x5_1 + 1)), (by first | rfl | (simp; done) | (simp [*]; done)), (by first | rfl | (simp; done) | (simp [*]; done)), H', ⟨by have := HK1.out; omega⟩, by repeat (first | exact Drawn0.refl _ | apply Drawn0.step)⟩
    ·rw [if_neg c4] at H
     exact absurd H (by simp)
   ·rw [if_neg c3] at H
    have c3b0 : decide (x5_1 < (l0.length : Int)) = false := decide_eq_false c3
    clear c3
    obtain rfl := Option.some.inj H
    go_wp2
    go_ret
    exact ⟨by first | rfl | (simp; done) | (simp [*]; done), by repeat (first | exact Drawn0.refl _ | apply Drawn0.step)⟩

/-! ### laws_FnExactCommonPairs: function 5 -/
def laws_FnExactCommonPairs.j0 : Nat → List (S51) → Int → List (List Int) → List (List Int) → Bool → Option (Bool)
 | 0, _, _, _, _, _ => none
 | k + 1, x0, x1, x6, x8, x46 => if x46 = true then (some false) else ((laws_markIntSS.f k x8 1).bind fun bt198 => ((laws_heldIntSS.f k bt198.2 1).bind fun t200 => (if t200 < 0 then (some false) else (if t200 = bt198.1 then ((laws_toBasketS.f k x0).bind fun t201 => ((impl_CommonPairs.f k t201 x1).bind fun t204 => ((laws_eqIntSS.f k t204 x6).bind fun t207 => (if t207 = true then ((laws_heldIntSS.f k bt198.2 1).bind fun t208 => (if t208 < 0 then (some false) else (if t208 = bt198.1 then (some true) else (some false)))) else (some false))))) else (some false)))))
def laws_FnExactCommonPairs.f (k : Nat) (l0 : List (S51)) (a1 : Int) : Option (Bool) := (laws_szBasketS.f k l0 1048576).bind fun t178 => (if t178 < 0 then (some true) else ((laws_toBasketS.f k l0).bind fun t179 => ((spec_CommonPairs.f k t179 a1).bind fun t182 => ((laws_toBasketS.f k l0).bind fun t185 => ((impl_CommonPairs.f k t185 a1).bind fun t188 => ((laws_eqIntSS.f k t188 t182).bind fun t191 => (if t191 = true then ((laws_toBasketS.f k l0).bind fun t192 => ((laws_eqBasketS.f k t185 t192).bind fun t195 => (if t195 = true then ((laws_markBasketS.f k t185 1).bind fun t196 => (if t196 < 0 then (laws_FnExactCommonPairs.j0 k l0 a1 t182 t188 true) else ((laws_eqIntSS.f k t188 t182).bind fun t197 => (laws_FnExactCommonPairs.j0 k l0 a1 t182 t188 (!t197))))) else (some false)))) else (some false))))))))
theorem laws_FnExactCommonPairs.mono_l : ∀ k, (∀ y0 y1 y2 y3 y4, LeO (laws_FnExactCommonPairs.j0 k y0 y1 y2 y3 y4) (laws_FnExactCommonPairs.j0 (k + 1) y0 y1 y2 y3 y4))
 | 0 => fun _ _ _ _ _ r h => by simp [laws_FnExactCommonPairs.j0] at h
 | k + 1 => by
  have ih0 := laws_FnExactCommonPairs.mono_l k
  ·intro y0 y1 y2 y3 y4
   unfold laws_FnExactCommonPairs.j0
   repeat' first
   | (with_reducible exact ih0 _ _ _ _ _)
   | (with_reducible exact impl_CommonPairs.mono _ _ _)
   | (with_reducible exact laws_eqBasketS.mono _ _ _)
   | (with_reducible exact laws_eqIntSS.mono _ _ _)
   | (with_reducible exact laws_heldIntSS.mono _ _ _)
   | (with_reducible exact laws_markBasketS.mono _ _ _)
   | (with_reducible exact laws_markIntSS.mono _ _ _)
   | (with_reducible exact laws_szBasketS.mono _ _ _)
   | (with_reducible exact laws_toBasketS.mono _ _)
   | (with_reducible exact spec_CommonPairs.mono _ _ _)
   | (with_reducible exact LeO.refl _)
   | (with_reducible exact LeO.none _)
   | (with_reducible refine LeO.ite ?_ ?_)
   | (with_reducible refine LeO.bind ?_ (fun _ => ?_))
   | exact ih0 _ _ _ _ _
   | exact impl_CommonPairs.mono _ _ _
   | exact laws_eqBasketS.mono _ _ _
   | exact laws_eqIntSS.mono _ _ _
   | exact laws_heldIntSS.mono _ _ _
   | exact laws_markBasketS.mono _ _ _
   | exact laws_markIntSS.mono _ _ _
   | exact laws_szBasketS.mono _ _ _
   | exact laws_toBasketS.mono _ _
   | exact spec_CommonPairs.mono _ _ _
   | exact LeO.none _
   | refine LeO.ite ?_ ?_
   | refine LeO.bind ?_ (fun _ => ?_)
theorem laws_FnExactCommonPairs.mono : ∀ a0 a1 k, LeO (laws_FnExactCommonPairs.f k a0 a1) (laws_FnExactCommonPairs.f (k + 1) a0 a1) := by
 intro a0 a1 k
 have ih0 := laws_FnExactCommonPairs.mono_l k
 unfold laws_FnExactCommonPairs.f
 repeat' first
   | (with_reducible exact ih0 _ _ _ _ _)
   | (with_reducible exact impl_CommonPairs.mono _ _ _)
   | (with_reducible exact laws_eqBasketS.mono _ _ _)
   | (with_reducible exact laws_eqIntSS.mono _ _ _)
   | (with_reducible exact laws_heldIntSS.mono _ _ _)
   | (with_reducible exact laws_markBasketS.mono _ _ _)
   | (with_reducible exact laws_markIntSS.mono _ _ _)
   | (with_reducible exact laws_szBasketS.mono _ _ _)
   | (with_reducible exact laws_toBasketS.mono _ _)
   | (with_reducible exact spec_CommonPairs.mono _ _ _)
   | (with_reducible exact LeO.refl _)
   | (with_reducible exact LeO.none _)
   | (with_reducible refine LeO.ite ?_ ?_)
   | (with_reducible refine LeO.bind ?_ (fun _ => ?_))
   | exact ih0 _ _ _ _ _
   | exact impl_CommonPairs.mono _ _ _
   | exact laws_eqBasketS.mono _ _ _
   | exact laws_eqIntSS.mono _ _ _
   | exact laws_heldIntSS.mono _ _ _
   | exact laws_markBasketS.mono _ _ _
   | exact laws_markIntSS.mono _ _ _
   | exact laws_szBasketS.mono _ _ _
   | exact laws_toBasketS.mono _ _
   | exact spec_CommonPairs.mono _ _ _
   | exact LeO.none _
   | refine LeO.ite ?_ ?_
   | refine LeO.bind ?_ (fun _ => ?_)
theorem laws_FnExactCommonPairs.j0_no {k : Nat} {x0 : List (S51)} {x1 : Int} {x6 : List (List Int)} {x8 : List (List Int)} {r : Bool} (hr : r = true) (h : laws_FnExactCommonPairs.j0 k x0 x1 x6 x8 true = some r) : False := by
 subst hr
 cases k <;> simp [laws_FnExactCommonPairs.j0] at h
set_option maxHeartbeats 8000000 in
set_option maxRecDepth 100000 in
theorem laws_FnExactCommonPairs.calls (k : Nat) (A0 : Option Addr) (c0 : Nat) (l0 : List (S51)) (a1 : Int) (r : Bool) (w : World) (hr0 : Kd.C k51 w A0 l0.length l0) (hc0 : l0.length ≤ c0) (hrt_ : r = true) (h : laws_FnExactCommonPairs.f k l0 a1 = some r) :
  Calls Try.prog 5 #[.slice A0 l0.length c0, .int .i64 a1] w fun e w' => e = .returned (.bool r) ∧ Below w.heap.size w w' := by
 have HRT := Aside0.mk hrt_
 clear hrt_
 have HR0 := Aside0.mk hr0
 have HC0 := Aside0.mk hc0
 clear hr0 hc0
 have HB := Aside0.mk (Below.refl w.heap.size w)
 have H : ((laws_szBasketS.f k l0 1048576).bind fun t178 => (if t178 < 0 then (some true) else ((laws_toBasketS.f k l0).bind fun t179 => ((spec_CommonPairs.f k t179 a1).bind fun t182 => ((laws_toBasketS.f k l0).bind fun t185 => ((impl_CommonPairs.f k t185 a1).bind fun t188 => ((laws_eqIntSS.f k t188 t182).bind fun t191 => (if t191 = true then ((laws_toBasketS.f k l0).bind fun t192 => ((laws_eqBasketS.f k t185 t192).bind fun t195 => (if t195 = true then ((laws_markBasketS.f k t185 1).bind fun t196 => (if t196 < 0 then (laws_FnExactCommonPairs.j0 k l0 a1 t182 t188 true) else ((laws_eqIntSS.f k t188 t182).bind fun t197 => (laws_FnExactCommonPairs.j0 k l0 a1 t182 t188 (!t197))))) else (some false)))) else (some false))))))))) = some r := h
 clear h
 replace H := Option.bind_eq_some_iff.mp H
 obtain ⟨t178, A30, H⟩ := H
 replace H : (if t178 < 0 then (some true) else ((laws_toBasketS.f k l0).bind fun t179 => ((spec_CommonPairs.f k t179 a1).bind fun t182 => ((laws_toBasketS.f k l0).bind fun t185 => ((impl_CommonPairs.f k t185 a1).bind fun t188 => ((laws_eqIntSS.f k t188 t182).bind fun t191 => (if t191 = true then ((laws_toBasketS.f k l0).bind fun t192 => ((laws_eqBasketS.f k t185 t192).bind fun t195 => (if t195 = true then ((laws_markBasketS.f k t185 1).bind fun t196 => (if t196 < 0 then (laws_FnExactCommonPairs.j0 k l0 a1 t182 t188 true) else ((laws_eqIntSS.f k t188 t182).bind fun t197 => (laws_FnExactCommonPairs.j0 k l0 a1 t182 t188 (!t197))))) else (some false)))) else (some false)))))))) = some r := H
 have A3 := Aside0.mk A30
 clear A30
 by_cases c4 : t178 < 0
 ·rw [if_pos c4] at H
  have c4b0 : decide (t178 < 0) = true := decide_eq_true c4
  clear c4
  obtain rfl := Option.some.inj H
  go_enter Try.func5, Try.ntmps5
  go_wp2_with (first | ((with_reducible refine gate_callee (f := 10) rfl ?_); refine goesL_ (some 15) rfl rfl Try.func10 (by kernel_rfl) rfl #[.slice A0 l0.length c0, .int .i64 1048576] rfl (by (try simp only [List.map_toArray, List.map_cons, List.map_nil]); first | done | rfl | (simp only [List.length_drop, List.length_take]; rfl)) ?_; (with_reducible refine (laws_szBasketS.calls k _ _ l0 1048576 t178 _ ?side1 ?side2 A3.out).mono ?_); (case side1 => repeat (first | exact HR0.out | (with_reducible refine Kd.C_alloc ?_ _) | (with_reducible refine Kd.C_drewN ?_ _) | (with_reducible refine Kd.C_drew ?_))); (case side2 => exact HC0.out); rintro e w5 ⟨rfl, hb⟩; refine ⟨_, rfl, ?_⟩; have n0_ := Aside0.mk (below_step (by repeat (first | (with_reducible first | exact HB.out | apply below_alloc | apply pw_below_drewN | apply below_drew1) | exact HB.out)) hb); clear HB; have HB := n0_; clear n0_; (try clear hb); (try clear hb2); (try clear hk); (try clear hi)))
  go_ret
  exact ⟨by first | rfl | (simp [errW_none, errW_some] <;> rfl) | (simp [*, errW_none, errW_some] <;> rfl), by repeat (first | (with_reducible first | exact HB.out | apply below_alloc | apply pw_below_drewN | apply below_drew1) | exact HB.out)⟩
 ·rw [if_neg c4] at H
  have c4b0 : decide (t178 < 0) = false := decide_eq_false c4
  clear c4
  replace H := Option.bind_eq_some_iff.mp H
  obtain ⟨t179, A60, H⟩ := H
  replace H : ((spec_CommonPairs.f k t179 a1).bind fun t182 => ((laws_toBasketS.f k l0).bind fun t185 => ((impl_CommonPairs.f k t185 a1).bind fun t188 => ((laws_eqIntSS.f k t188 t182).bind fun t191 => (if t191 = true then ((laws_toBasketS.f k l0).bind fun t192 => ((laws_eqBasketS.f k t185 t192).bind fun t195 => (if t195 = true then ((laws_markBasketS.f k t185 1).bind fun t196 => (if t196 < 0 then (laws_FnExactCommonPairs.j0 k l0 a1 t182 t188 true) else ((laws_eqIntSS.f k t188 t182).bind fun t197 => (laws_FnExactCommonPairs.j0 k l0 a1 t182 t188 (!t197))))) else (some false)))) else (some false)))))) = some r := H
  have A6 := Aside0.mk A60
  clear A60
  replace H := Option.bind_eq_some_iff.mp H
  obtain ⟨t182, A70, H⟩ := H
  replace H : ((laws_toBasketS.f k l0).bind fun t185 => ((impl_CommonPairs.f k t185 a1).bind fun t188 => ((laws_eqIntSS.f k t188 t182).bind fun t191 => (if t191 = true then ((laws_toBasketS.f k l0).bind fun t192 => ((laws_eqBasketS.f k t185 t192).bind fun t195 => (if t195 = true then ((laws_markBasketS.f k t185 1).bind fun t196 => (if t196 < 0 then (laws_FnExactCommonPairs.j0 k l0 a1 t182 t188 true) else ((laws_eqIntSS.f k t188 t182).bind fun t197 => (laws_FnExactCommonPairs.j0 k l0 a1 t182 t188 (!t197))))) else (some false)))) else (some false))))) = some r := H
  have A7 := Aside0.mk A70
  clear A70
  replace H := Option.bind_eq_some_iff.mp H
  obtain ⟨t185, A80, H⟩ := H
  replace H : ((impl_CommonPairs.f k t185 a1).bind fun t188 => ((laws_eqIntSS.f k t188 t182).bind fun t191 => (if t191 = true then ((laws_toBasketS.f k l0).bind fun t192 => ((laws_eqBasketS.f k t185 t192).bind fun t195 => (if t195 = true then ((laws_markBasketS.f k t185 1).bind fun t196 => (if t196 < 0 then (laws_FnExactCommonPairs.j0 k l0 a1 t182 t188 true) else ((laws_eqIntSS.f k t188 t182).bind fun t197 => (laws_FnExactCommonPairs.j0 k l0 a1 t182 t188 (!t197))))) else (some false)))) else (some false)))) = some r := H
  have A8 := Aside0.mk A80
  clear A80
  replace H := Option.bind_eq_some_iff.mp H
  obtain ⟨t188, A90, H⟩ := H
  replace H : ((laws_eqIntSS.f k t188 t182).bind fun t191 => (if t191 = true then ((laws_toBasketS.f k l0).bind fun t192 => ((laws_eqBasketS.f k t185 t192).bind fun t195 => (if t195 = true then ((laws_markBasketS.f k t185 1).bind fun t196 => (if t196 < 0 then (laws_FnExactCommonPairs.j0 k l0 a1 t182 t188 true) else ((laws_eqIntSS.f k t188 t182).bind fun t197 => (laws_FnExactCommonPairs.j0 k l0 a1 t182 t188 (!t197))))) else (some false)))) else (some false))) = some r := H
  have A9 := Aside0.mk A90
  clear A90
  replace H := Option.bind_eq_some_iff.mp H
  obtain ⟨t191, A100, H⟩ := H
  replace H : (if t191 = true then ((laws_toBasketS.f k l0).bind fun t192 => ((laws_eqBasketS.f k t185 t192).bind fun t195 => (if t195 = true then ((laws_markBasketS.f k t185 1).bind fun t196 => (if t196 < 0 then (laws_FnExactCommonPairs.j0 k l0 a1 t182 t188 true) else ((laws_eqIntSS.f k t188 t182).bind fun t197 => (laws_FnExactCommonPairs.j0 k l0 a1 t182 t188 (!t197))))) else (some false)))) else (some false)) = some r := H
  have A10 := Aside0.mk A100
  clear A100
  by_cases c11 : t191 = true
  ·subst c11
   have H1 : ((laws_toBasketS.f k l0).bind fun t192 => ((laws_eqBasketS.f k t185 t192).bind fun t195 => (if t195 = true then ((laws_markBasketS.f k t185 1).bind fun t196 => (if t196 < 0 then (laws_FnExactCommonPairs.j0 k l0 a1 t182 t188 true) else ((laws_eqIntSS.f k t188 t182).bind fun t197 => (laws_FnExactCommonPairs.j0 k l0 a1 t182 t188 (!t197))))) else (some false)))) = some r := by rw [if_pos rfl] at H; exact H
   clear H
   have H := H1
   clear H1
   replace H := Option.bind_eq_some_iff.mp H
   obtain ⟨t192, A120, H⟩ := H
   replace H : ((laws_eqBasketS.f k t185 t192).bind fun t195 => (if t195 = true then ((laws_markBasketS.f k t185 1).bind fun t196 => (if t196 < 0 then (laws_FnExactCommonPairs.j0 k l0 a1 t182 t188 true) else ((laws_eqIntSS.f k t188 t182).bind fun t197 => (laws_FnExactCommonPairs.j0 k l0 a1 t182 t188 (!t197))))) else (some false))) = some r := H
   have A12 := Aside0.mk A120
   clear A120
   replace H := Option.bind_eq_some_iff.mp H
   obtain ⟨t195, A130, H⟩ := H
   replace H : (if t195 = true then ((laws_markBasketS.f k t185 1).bind fun t196 => (if t196 < 0 then (laws_FnExactCommonPairs.j0 k l0 a1 t182 t188 true) else ((laws_eqIntSS.f k t188 t182).bind fun t197 => (laws_FnExactCommonPairs.j0 k l0 a1 t182 t188 (!t197))))) else (some false)) = some r := H
   have A13 := Aside0.mk A130
   clear A130
   by_cases c14 : t195 = true
   ·subst c14
    have H1 : ((laws_markBasketS.f k t185 1).bind fun t196 => (if t196 < 0 then (laws_FnExactCommonPairs.j0 k l0 a1 t182 t188 true) else ((laws_eqIntSS.f k t188 t182).bind fun t197 => (laws_FnExactCommonPairs.j0 k l0 a1 t182 t188 (!t197))))) = some r := by rw [if_pos rfl] at H; exact H
    clear H
    have H := H1
    clear H1
    replace H := Option.bind_eq_some_iff.mp H
    obtain ⟨t196, A150, H⟩ := H
    replace H : (if t196 < 0 then (laws_FnExactCommonPairs.j0 k l0 a1 t182 t188 true) else ((laws_eqIntSS.f k t188 t182).bind fun t197 => (laws_FnExactCommonPairs.j0 k l0 a1 t182 t188 (!t197)))) = some r := H
    have A15 := Aside0.mk A150
    clear A150
    have HC16 := Aside0.mk H
    clear H
    go_enter Try.func5, Try.ntmps5
    go_upto_region 14 with (first | ((with_reducible refine gate_callee (f := 10) rfl ?_); refine goesL_ (some 15) rfl rfl Try.func10 (by kernel_rfl) rfl #[.slice A0 l0.length c0, .int .i64 1048576] rfl (by (try simp only [List.map_toArray, List.map_cons, List.map_nil]); first | done | rfl | (simp only [List.length_drop, List.length_take]; rfl)) ?_; (with_reducible refine (laws_szBasketS.calls k _ _ l0 1048576 t178 _ ?side1 ?side2 A3.out).mono ?_); (case side1 => repeat (first | exact HR0.out | (with_reducible refine Kd.C_alloc ?_ _) | (with_reducible refine Kd.C_drewN ?_ _) | (with_reducible refine Kd.C_drew ?_))); (case side2 => exact HC0.out); rintro e w17 ⟨rfl, hb⟩; refine ⟨_, rfl, ?_⟩; have n0_ := Aside0.mk (below_step (by repeat (first | (with_reducible first | exact HB.out | apply below_alloc | apply pw_below_drewN | apply below_drew1) | exact HB.out)) hb); clear HB; have HB := n0_; clear n0_; (try clear hb); (try clear hb2); (try clear hk); (try clear hi)) | ((with_reducible refine gate_callee (f := 12) rfl ?_); refine goesL_ (some 19) rfl rfl Try.func12 (by kernel_rfl) rfl #[.slice A0 l0.length c0] rfl (by (try simp only [List.map_toArray, List.map_cons, List.map_nil]); first | done | rfl | (simp only [List.length_drop, List.length_take]; rfl)) ?_; (with_reducible refine (laws_toBasketS.calls k _ _ l0 t179 _ ?side1 ?side2 A6.out).mono ?_); (case side1 => repeat (first | exact (Kd.C_below HR0.out HB.out) | (with_reducible refine Kd.C_alloc ?_ _) | (with_reducible refine Kd.C_drewN ?_ _) | (with_reducible refine Kd.C_drew ?_))); (case side2 => exact HC0.out); rintro e w18 ⟨v180, rfl, ho0, hb⟩; refine ⟨_, rfl, ?_⟩; have n0_ := Aside0.mk (Kd.S_lower (handRowsGe ho0) (below_size (by repeat (first | (with_reducible first | exact HB.out | apply below_alloc | apply pw_below_drewN | apply below_drew1) | exact HB.out)))); have n1_ := Aside0.mk (below_step (by repeat (first | (with_reducible first | exact HB.out | apply below_alloc | apply pw_below_drewN | apply below_drew1) | exact HB.out)) hb); clear HB; have HO181 := n0_; have HB := n1_; clear n0_ n1_; (try clear hb); (try clear hb2); (try clear hk); (try clear hi); (try clear ho0); obtain ⟨Ao19, co19, eo19⟩ := Kd.S_slice HO181.out; subst eo19) | ((with_reducible refine gate_callee (f := 19) rfl ?_); refine goesL_ (some 21) rfl rfl Try.func19 (by kernel_rfl) rfl #[.slice Ao19 t179.length co19, .int .i64 a1] rfl (by (try simp only [List.map_toArray, List.map_cons, List.map_nil]); first | done | rfl | (simp only [List.length_drop, List.length_take]; rfl)) ?_; (with_reducible refine (spec_CommonPairs.calls k _ _ t179 a1 t182 _ ?side1 ?side2 A7.out).mono ?_); (case side1 => repeat (first | exact (Kd.S_reads' HO181.out).2.2 | (with_reducible refine Kd.C_alloc ?_ _) | (with_reducible refine Kd.C_drewN ?_ _) | (with_reducible refine Kd.C_drew ?_))); (case side2 => exact (Kd.S_reads' HO181.out).2.1); rintro e w20 ⟨v183, rfl, ho0, hb⟩; refine ⟨_, rfl, ?_⟩; have n0_ := Aside0.mk (Kd.S_old (by (with_reducible repeat (first | apply Kd.S_alloc | apply Kd.S_drewN | apply Kd.S_drew)); exact HO181.out) hb); have n1_ := Aside0.mk (Kd.S_lower (handRowsGe ho0) (below_size (by repeat (first | (with_reducible first | exact HB.out | apply below_alloc | apply pw_below_drewN | apply below_drew1) | exact HB.out)))); have n2_ := Aside0.mk (below_step (by repeat (first | (with_reducible first | exact HB.out | apply below_alloc | apply pw_below_drewN | apply below_drew1) | exact HB.out)) hb); clear HO181 HB; have HO181 := n0_; have HO184 := n1_; have HB := n2_; clear n0_ n1_ n2_; (try clear hb); (try clear hb2); (try clear hk); (try clear hi); (try clear ho0)) | ((with_reducible refine gate_callee (f := 12) rfl ?_); refine goesL_ (some 23) rfl rfl Try.func12 (by kernel_rfl) rfl #[.slice A0 l0.length c0] rfl (by (try simp only [List.map_toArray, List.map_cons, List.map_nil]); first | done | rfl | (simp only [List.length_drop, List.length_take]; rfl)) ?_; (with_reducible refine (laws_toBasketS.calls k _ _ l0 t185 _ ?side1 ?side2 A8.out).mono ?_); (case side1 => repeat (first | exact (Kd.C_below HR0.out HB.out) | (with_reducible refine Kd.C_alloc ?_ _) | (with_reducible refine Kd.C_drewN ?_ _) | (with_reducible refine Kd.C_drew ?_))); (case side2 => exact HC0.out); rintro e w21 ⟨v186, rfl, ho0, hb⟩; refine ⟨_, rfl, ?_⟩; have n0_ := Aside0.mk (Kd.S_told (Kd.S_old (by (with_reducible repeat (first | apply Kd.S_alloc | apply Kd.S_drewN | apply Kd.S_drew)); exact HO181.out) hb) (Kd.S_base ho0)); have n1_ := Aside0.mk (Kd.S_old (by (with_reducible repeat (first | apply Kd.S_alloc | apply Kd.S_drewN | apply Kd.S_drew)); exact HO184.out) hb); have n2_ := Aside0.mk (Kd.S_lower (handRowsGe (Kd.S_new' ho0 (Kd.S_lt (by (with_reducible repeat (first | apply Kd.S_alloc | apply Kd.S_drewN | apply Kd.S_drew)); exact HO181.out)))) (below_size (by repeat (first | (with_reducible first | exact HB.out | apply below_alloc | apply pw_below_drewN | apply below_drew1) | exact HB.out)))); have n3_ := Aside0.mk (below_step (by repeat (first | (with_reducible first | exact HB.out | apply below_alloc | apply pw_below_drewN | apply below_drew1) | exact HB.out)) hb); clear HO181 HO184 HB; have HO181 := n0_; have HO184 := n1_; have HO187 := n2_; have HB := n3_; clear n0_ n1_ n2_ n3_; (try clear hb); (try clear hb2); (try clear hk); (try clear hi); (try clear ho0); obtain ⟨Ao22, co22, eo22⟩ := Kd.S_slice HO187.out; subst eo22) | ((with_reducible refine gate_callee (f := 20) rfl ?_); refine goesL_ (some 26) rfl rfl Try.func20 (by kernel_rfl) rfl #[.slice Ao22 t185.length co22, .int .i64 a1] rfl (by (try simp only [List.map_toArray, List.map_cons, List.map_nil]); first | done | rfl | (simp only [List.length_drop, List.length_take]; rfl)) ?_; (with_reducible refine (impl_CommonPairs.calls k _ _ t185 a1 t188 _ ?side1 ?side2 A9.out).mono ?_); (case side1 => repeat (first | exact (Kd.S_reads' HO187.out).2.2 | (with_reducible refine Kd.C_alloc ?_ _) | (with_reducible refine Kd.C_drewN ?_ _) | (with_reducible refine Kd.C_drew ?_))); (case side2 => exact (Kd.S_reads' HO187.out).2.1); rintro e w23 ⟨v189, rfl, ho0, hb⟩; refine ⟨_, rfl, ?_⟩; have n0_ := Aside0.mk (Kd.S_old (by (with_reducible repeat (first | apply Kd.S_alloc | apply Kd.S_drewN | apply Kd.S_drew)); exact HO181.out) hb); have n1_ := Aside0.mk (Kd.S_told (Kd.S_old (by (with_reducible repeat (first | apply Kd.S_alloc | apply Kd.S_drewN | apply Kd.S_drew)); exact HO184.out) hb) (Kd.S_base ho0)); have n2_ := Aside0.mk (Kd.S_old (by (with_reducible repeat (first | apply Kd.S_alloc | apply Kd.S_drewN | apply Kd.S_drew)); exact HO187.out) hb); have n3_ := Aside0.mk (Kd.S_lower (handRowsGe (Kd.S_new' ho0 (Kd.S_lt (by (with_reducible repeat (first | apply Kd.S_alloc | apply Kd.S_drewN | apply Kd.S_drew)); exact HO184.out)))) (below_size (by repeat (first | (with_reducible first | exact HB.out | apply below_alloc | apply pw_below_drewN | apply below_drew1) | exact HB.out)))); have n4_ := Aside0.mk (below_step (by repeat (first | (with_reducible first | exact HB.out | apply below_alloc | apply pw_below_drewN | apply below_drew1) | exact HB.out)) hb); clear HO181 HO184 HO187 HB; have HO181 := n0_; have HO184 := n1_; have HO187 := n2_; have HO190 := n3_; have HB := n4_; clear n0_ n1_ n2_ n3_ n4_; (try clear hb); (try clear hb2); (try clear hk); (try clear hi); (try clear ho0); obtain ⟨Ao24, co24, eo24⟩ := Kd.S_slice HO190.out; subst eo24; obtain ⟨Ao25, co25, eo25⟩ := Kd.S_slice HO184.out; subst eo25) | ((with_reducible refine gate_callee (f := 21) rfl ?_); refine goesL_ (some 29) rfl rfl Try.func21 (by kernel_rfl) rfl #[.slice Ao24 t188.length co24, .slice Ao25 t182.length co25] rfl (by (try simp only [List.map_toArray, List.map_cons, List.map_nil]); first | done | rfl | (simp only [List.length_drop, List.length_take]; rfl)) ?_; (with_reducible refine (laws_eqIntSS.calls k _ _ t188 _ _ t182 true _ ?side1 ?side2 ?side3 ?side4 A10.out).mono ?_); (case side1 => repeat (first | exact (Kd.S_reads' HO190.out).2.2 | (with_reducible refine Kd.C_alloc ?_ _) | (with_reducible refine Kd.C_drewN ?_ _) | (with_reducible refine Kd.C_drew ?_))); (case side2 => exact (Kd.S_reads' HO190.out).2.1); (case side3 => repeat (first | exact (Kd.S_reads' HO184.out).2.2 | (with_reducible refine Kd.C_alloc ?_ _) | (with_reducible refine Kd.C_drewN ?_ _) | (with_reducible refine Kd.C_drew ?_))); (case side4 => exact (Kd.S_reads' HO184.out).2.1); rintro e w' ⟨rfl, ⟨nd, rfl⟩⟩; refine ⟨_, rfl, ?_⟩) | ((with_reducible refine gate_callee (f := 12) rfl ?_); refine goesL_ (some 33) rfl rfl Try.func12 (by kernel_rfl) rfl #[.slice A0 l0.length c0] rfl (by (try simp only [List.map_toArray, List.map_cons, List.map_nil]); first | done | rfl | (simp only [List.length_drop, List.length_take]; rfl)) ?_; (with_reducible refine (laws_toBasketS.calls k _ _ l0 t192 _ ?side1 ?side2 A12.out).mono ?_); (case side1 => repeat (first | exact (Kd.C_below HR0.out (by repeat (first | (with_reducible first | exact HB.out | apply below_alloc | apply pw_below_drewN | apply below_drew1) | exact HB.out))) | (with_reducible refine Kd.C_alloc ?_ _) | (with_reducible refine Kd.C_drewN ?_ _) | (with_reducible refine Kd.C_drew ?_))); (case side2 => exact HC0.out); rintro e w26 ⟨v193, rfl, ho0, hb⟩; refine ⟨_, rfl, ?_⟩; have n0_ := Aside0.mk (Kd.S_told (Kd.S_old (by (with_reducible repeat (first | apply Kd.S_alloc | apply Kd.S_drewN | apply Kd.S_drew)); exact HO181.out) hb) (Kd.S_base ho0)); have n1_ := Aside0.mk (Kd.S_old (by (with_reducible repeat (first | apply Kd.S_alloc | apply Kd.S_drewN | apply Kd.S_drew)); exact HO184.out) hb); have n2_ := Aside0.mk (Kd.S_told (Kd.S_old (by (with_reducible repeat (first | apply Kd.S_alloc | apply Kd.S_drewN | apply Kd.S_drew)); exact HO187.out) hb) (Kd.S_base ho0)); have n3_ := Aside0.mk (Kd.S_old (by (with_reducible repeat (first | apply Kd.S_alloc | apply Kd.S_drewN | apply Kd.S_drew)); exact HO190.out) hb); have n4_ := Aside0.mk (Kd.S_lower (handRowsGe (Kd.S_new' (Kd.S_new' ho0 (Kd.S_lt (by (with_reducible repeat (first | apply Kd.S_alloc | apply Kd.S_drewN | apply Kd.S_drew)); exact HO181.out))) (Kd.S_lt (by (with_reducible repeat (first | apply Kd.S_alloc | apply Kd.S_drewN | apply Kd.S_drew)); exact HO187.out)))) (below_size (by repeat (first | (with_reducible first | exact HB.out | apply below_alloc | apply pw_below_drewN | apply below_drew1) | exact HB.out)))); have n5_ := Aside0.mk (below_step (by repeat (first | (with_reducible first | exact HB.out | apply below_alloc | apply pw_below_drewN | apply below_drew1) | exact HB.out)) hb); clear HO181 HO184 HO187 HO190 HB; have HO181 := n0_; have HO184 := n1_; have HO187 := n2_; have HO190 := n3_; have HO194 := n4_; have HB := n5_; clear n0_ n1_ n2_ n3_ n4_ n5_; (try clear hb); (try clear hb2); (try clear hk); (try clear hi); (try clear ho0); obtain ⟨Ao27, co27, eo27⟩ := Kd.S_slice HO194.out; subst eo27) | ((with_reducible refine gate_callee (f := 14) rfl ?_); refine goesL_ (some 34) rfl rfl Try.func14 (by kernel_rfl) rfl #[.slice Ao22 t185.length co22, .slice Ao27 t192.length co27] rfl (by (try simp only [List.map_toArray, List.map_cons, List.map_nil]); first | done | rfl | (simp only [List.length_drop, List.length_take]; rfl)) ?_; (with_reducible refine (laws_eqBasketS.calls k _ _ t185 _ _ t192 true _ ?side1 ?side2 ?side3 ?side4 A13.out).mono ?_); (case side1 => repeat (first | exact (Kd.S_reads' HO187.out).2.2 | (with_reducible refine Kd.C_alloc ?_ _) | (with_reducible refine Kd.C_drewN ?_ _) | (with_reducible refine Kd.C_drew ?_))); (case side2 => exact (Kd.S_reads' HO187.out).2.1); (case side3 => repeat (first | exact (Kd.S_reads' HO194.out).2.2 | (with_reducible refine Kd.C_alloc ?_ _) | (with_reducible refine Kd.C_drewN ?_ _) | (with_reducible refine Kd.C_drew ?_))); (case side4 => exact (Kd.S_reads' HO194.out).2.1); rintro e w28 ⟨rfl, hb⟩; refine ⟨_, rfl, ?_⟩; have n0_ := Aside0.mk (Kd.S_below (by (with_reducible repeat (first | apply Kd.S_alloc | apply Kd.S_drewN | apply Kd.S_drew)); exact HO181.out) hb); have n1_ := Aside0.mk (Kd.S_below (by (with_reducible repeat (first | apply Kd.S_alloc | apply Kd.S_drewN | apply Kd.S_drew)); exact HO184.out) hb); have n2_ := Aside0.mk (Kd.S_below (by (with_reducible repeat (first | apply Kd.S_alloc | apply Kd.S_drewN | apply Kd.S_drew)); exact HO187.out) hb); have n3_ := Aside0.mk (Kd.S_below (by (with_reducible repeat (first | apply Kd.S_alloc | apply Kd.S_drewN | apply Kd.S_drew)); exact HO190.out) hb); have n4_ := Aside0.mk (Kd.S_below (by (with_reducible repeat (first | apply Kd.S_alloc | apply Kd.S_drewN | apply Kd.S_drew)); exact HO194.out) hb); have n5_ := Aside0.mk (below_step (by repeat (first | (with_reducible first | exact HB.out | apply below_alloc | apply pw_below_drewN | apply below_drew1) | exact HB.out)) hb); clear HO181 HO184 HO187 HO190 HO194 HB; have HO181 := n0_; have HO184 := n1_; have HO187 := n2_; have HO190 := n3_; have HO194 := n4_; have HB := n5_; clear n0_ n1_ n2_ n3_ n4_ n5_; (try clear hb); (try clear hb2); (try clear hk); (try clear hi)) | ((with_reducible refine gate_callee (f := 22) rfl ?_); refine goesL_ (some 38) rfl rfl Try.func22 (by kernel_rfl) rfl #[.slice Ao22 t185.length co22, .int .i64 1] rfl (by (try simp only [List.map_toArray, List.map_cons, List.map_nil]); first | done | rfl | (simp only [List.length_drop, List.length_take]; rfl)) ?_; (with_reducible refine (laws_markBasketS.calls k ?ownP (.slice Ao22 t185.length co22) t185 1 t196 w _ ?side1 ?side2 A15.out).mono ?_); (case side1 => repeat (first | (with_reducible first | exact HB.out | apply below_alloc | apply pw_below_drewN | apply below_drew1) | exact HB.out)); (case side2 => exact Kd.S_bound HO187.out); rintro e w29 ⟨rfl, hb, hkp⟩; refine ⟨_, rfl, ?_⟩; have n0_ := Aside0.mk (Kd.S_mono (ok' := fun k_ => some k_ ≠ (.slice Ao27 t192.length co27 : Value).ownBlock) (Kd.S_keptB (HO181.out) hkp (fun k_ hk_ hs_ => (fun e_ => Nat.not_lt.2 (e_.1.1.1.1.2) (hk_.1.1.1.2)) hs_)) (fun k_ hk_ => hk_.1.1.2)); have n1_ := Aside0.mk (Kd.S_keptB (HO184.out) hkp (fun k_ hk_ hs_ => (fun e_ => Nat.not_lt.2 (e_.1.1.1.1.2) (hk_.1.1.1.2)) hs_)); have n2_ := Aside0.mk (Kd.S_keptB (HO190.out) hkp (fun k_ hk_ hs_ => (fun e_ => Nat.not_lt.2 (hk_.1.2) (e_.1.1.1.2)) hs_)); have n3_ := Aside0.mk (Kd.S_mono (ok' := fun k_ => some k_ ≠ (.slice Ao19 t179.length co19 : Value).ownBlock) (Kd.S_keptB (HO194.out) hkp (fun k_ hk_ hs_ => (fun e_ => Nat.not_lt.2 (hk_.2) (e_.1.2)) hs_)) (fun k_ hk_ => hk_.1.1.1.2)); have n4_ := Aside0.mk (hb); clear HO181 HO184 HO190 HO194 HB HO187; have HO181 := n0_; have HO184 := n1_; have HO190 := n2_; have HO194 := n3_; have HB := n4_; clear n0_ n1_ n2_ n3_ n4_; (try clear hb); (try clear hkp)))
    (try simp only [Act.put, List.setIfInBounds_toArray, List.set_cons_zero, List.set_cons_succ])
    go_cut [46] (fun v46 wc => ∃ (kq : Nat) (x46_15 : Bool) (ok6_ ok8_ : Nat → Prop), v46 = .bool x46_15 ∧ Aside0 (laws_FnExactCommonPairs.j0 kq l0 a1 t182 t188 x46_15 = some r) ∧ Aside0 (kq ≤ k) ∧ Aside0 (Kd.S (Kd.slice 3 (Kd.int .i64)) 29 wc w.heap.size ok6_ (.slice Ao25 t182.length co25) t182) ∧ Aside0 (Kd.S (Kd.slice 3 (Kd.int .i64)) 29 wc w.heap.size ok8_ (.slice Ao24 t188.length co24) t188) ∧ Aside0 (∀ k_, ok8_ k_ → ¬ ok6_ k_) ∧ Aside0 (Below w.heap.size w wc))
    case first =>
     have H := HC16.out
     clear HC16
     by_cases c30 : t196 < 0
     ·rw [if_pos c30] at H
      have c30b0 : decide (t196 < 0) = true := decide_eq_true c30
      clear c30
      (first | rw [c30b0] | (simp only [i64_w, i32_w]; rw [c30b0]) | skip)
      exact (laws_FnExactCommonPairs.j0_no HRT.out H).elim
     ·rw [if_neg c30] at H
      have c30b0 : decide (t196 < 0) = false := decide_eq_false c30
      clear c30
      (first | rw [c30b0] | (simp only [i64_w, i32_w]; rw [c30b0]) | skip)
      replace H := Option.bind_eq_some_iff.mp H
      obtain ⟨t197, A310, H⟩ := H
      replace H : (laws_FnExactCommonPairs.j0 k l0 a1 t182 t188 (!t197)) = some r := H
      have A31 := Aside0.mk A310
      clear A310
      have H' := Aside0.mk H
      clear H
      go_wp2_with (first | (go_at_call 21; (with_reducible refine (laws_eqIntSS.calls k _ _ t188 _ _ t182 t197 _ ?side1 ?side2 ?side3 ?side4 A31.out).mono ?_); (case side1 => repeat (first | exact (Kd.S_reads' HO190.out).2.2 | (with_reducible refine Kd.C_alloc ?_ _) | (with_reducible refine Kd.C_drewN ?_ _) | (with_reducible refine Kd.C_drew ?_))); (case side2 => exact (Kd.S_reads' HO190.out).2.1); (case side3 => repeat (first | exact (Kd.S_reads' HO184.out).2.2 | (with_reducible refine Kd.C_alloc ?_ _) | (with_reducible refine Kd.C_drewN ?_ _) | (with_reducible refine Kd.C_drew ?_))); (case side4 => exact (Kd.S_reads' HO184.out).2.1); rintro e w' ⟨rfl, ⟨nd, rfl⟩⟩))
      go_meet
      case rel => exact ⟨_, (!t197), _, _, (by first | rfl | (simp; done) | (simp [*]; done)), H', ⟨by first | omega | exact Nat.le_refl _⟩, ⟨by (with_reducible repeat (first | apply Kd.S_alloc | apply Kd.S_drewN | apply Kd.S_drew)); exact HO184.out⟩, ⟨by (with_reducible repeat (first | apply Kd.S_alloc | apply Kd.S_drewN | apply Kd.S_drew)); exact HO190.out⟩, ⟨by exact fun k_ h8_ h6_ => Nat.not_lt.2 (h8_.1.1.2) (h6_.1.1.2)⟩, ⟨by repeat (first | (with_reducible first | exact HB.out | apply below_alloc | apply pw_below_drewN | apply below_drew1) | exact HB.out)⟩⟩
    case rest =>
     clear HC16
     try clear c1
     try clear c2
     try clear p2
     try clear c3
     try clear c4
     try clear c4b0
     try clear c5
     try clear c10
     try clear c11
     try clear c12
     try clear c14
     try clear c19
     try clear c20
     try clear c21
     try clear c22
     try clear c30
     try clear c30b0
     obtain ⟨kq, x46_15, ok6_, ok8_, rfl, HA, HJ15, HO_6, HO_8, HD68, HB⟩ := hcut
     cases kq with
     | zero => exact absurd HA.out (by simp [laws_FnExactCommonPairs.j0])
     | succ kj15 =>
      have H := HA.out
      clear HA
      simp only [laws_FnExactCommonPairs.j0] at H
      by_cases c32 : x46_15 = true
      ·subst c32
       have H1 : (some false) = some r := by rw [if_pos rfl] at H; exact H
       clear H
       have H := H1
       clear H1
       exact absurd (H.trans (congrArg some HRT.out)) (by simp)
      ·replace c32 := Bool.eq_false_iff.mpr c32
       subst c32
       have H1 : ((laws_markIntSS.f kj15 t188 1).bind fun bt198 => ((laws_heldIntSS.f kj15 bt198.2 1).bind fun t200 => (if t200 < 0 then (some false) else (if t200 = bt198.1 then ((laws_toBasketS.f kj15 l0).bind fun t201 => ((impl_CommonPairs.f kj15 t201 a1).bind fun t204 => ((laws_eqIntSS.f kj15 t204 t182).bind fun t207 => (if t207 = true then ((laws_heldIntSS.f kj15 bt198.2 1).bind fun t208 => (if t208 < 0 then (some false) else (if t208 = bt198.1 then (some true) else (some false)))) else (some false))))) else (some false))))) = some r := by rw [if_neg (show ¬ (false = true) by decide)] at H; exact H
       clear H
       have H := H1
       clear H1
       replace H := Option.bind_eq_some_iff.mp H
       obtain ⟨⟨t198, t199⟩, A330, H⟩ := H
       replace H : ((laws_heldIntSS.f kj15 t199 1).bind fun t200 => (if t200 < 0 then (some false) else (if t200 = t198 then ((laws_toBasketS.f kj15 l0).bind fun t201 => ((impl_CommonPairs.f kj15 t201 a1).bind fun t204 => ((laws_eqIntSS.f kj15 t204 t182).bind fun t207 => (if t207 = true then ((laws_heldIntSS.f kj15 t199 1).bind fun t208 => (if t208 < 0 then (some false) else (if t208 = t198 then (some true) else (some false)))) else (some false))))) else (some false)))) = some r := H
       have A33 := Aside0.mk A330
       clear A330
       replace H := Option.bind_eq_some_iff.mp H
       obtain ⟨t200, A340, H⟩ := H
       replace H : (if t200 < 0 then (some false) else (if t200 = t198 then ((laws_toBasketS.f kj15 l0).bind fun t201 => ((impl_CommonPairs.f kj15 t201 a1).bind fun t204 => ((laws_eqIntSS.f kj15 t204 t182).bind fun t207 => (if t207 = true then ((laws_heldIntSS.f kj15 t199 1).bind fun t208 => (if t208 < 0 then (some false) else (if t208 = t198 then (some true) else (some false)))) else (some false))))) else (some false))) = some r := H
       have A34 := Aside0.mk A340
       clear A340
       by_cases c35 : t200 < 0
       ·rw [if_pos c35] at H
        have c35b0 : decide (t200 < 0) = true := decide_eq_true c35
        clear c35
        exact absurd (H.trans (congrArg some HRT.out)) (by simp)
       ·rw [if_neg c35] at H
        have c35b0 : decide (t200 < 0) = false := decide_eq_false c35
        clear c35
        by_cases c36 : t200 = t198
        ·rw [if_pos c36] at H
         have c36b0 : (t200 == t198) = true := beq_iff_eq.mpr c36
         have c36b1 : (t200 != t198) = false := bne_eq_false_iff_eq.mpr c36
         clear c36
         replace H := Option.bind_eq_some_iff.mp H
         obtain ⟨t201, A370, H⟩ := H
         replace H : ((impl_CommonPairs.f kj15 t201 a1).bind fun t204 => ((laws_eqIntSS.f kj15 t204 t182).bind fun t207 => (if t207 = true then ((laws_heldIntSS.f kj15 t199 1).bind fun t208 => (if t208 < 0 then (some false) else (if t208 = t198 then (some true) else (some false)))) else (some false)))) = some r := H
         have A37 := Aside0.mk A370
         clear A370
         replace H := Option.bind_eq_some_iff.mp H
         obtain ⟨t204, A380, H⟩ := H
         replace H : ((laws_eqIntSS.f kj15 t204 t182).bind fun t207 => (if t207 = true then ((laws_heldIntSS.f kj15 t199 1).bind fun t208 => (if t208 < 0 then (some false) else (if t208 = t198 then (some true) else (some false)))) else (some false))) = some r := H
         have A38 := Aside0.mk A380
         clear A380
         replace H := Option.bind_eq_some_iff.mp H
         obtain ⟨t207, A390, H⟩ := H
         replace H : (if t207 = true then ((laws_heldIntSS.f kj15 t199 1).bind fun t208 => (if t208 < 0 then (some false) else (if t208 = t198 then (some true) else (some false)))) else (some false)) = some r := H
         have A39 := Aside0.mk A390
         clear A390
         by_cases c40 : t207 = true
         ·subst c40
          have H1 : ((laws_heldIntSS.f kj15 t199 1).bind fun t208 => (if t208 < 0 then (some false) else (if t208 = t198 then (some true) else (some false)))) = some r := by rw [if_pos rfl] at H; exact H
          clear H
          have H := H1
          clear H1
          replace H := Option.bind_eq_some_iff.mp H
          obtain ⟨t208, A410, H⟩ := H
          replace H : (if t208 < 0 then (some false) else (if t208 = t198 then (some true) else (some false))) = some r := H
          have A41 := Aside0.mk A410
          clear A410
          by_cases c42 : t208 < 0
          ·rw [if_pos c42] at H
           have c42b0 : decide (t208 < 0) = true := decide_eq_true c42
           clear c42
           exact absurd (H.trans (congrArg some HRT.out)) (by simp)
          ·rw [if_neg c42] at H
           have c42b0 : decide (t208 < 0) = false := decide_eq_false c42
           clear c42
           by_cases c43 : t208 = t198
           ·rw [if_pos c43] at H
            have c43b0 : (t208 == t198) = true := beq_iff_eq.mpr c43
            have c43b1 : (t208 != t198) = false := bne_eq_false_iff_eq.mpr c43
            clear c43
            obtain rfl := Option.some.inj H
            go_wp2_with (first | ((with_reducible refine gate_callee (f := 23) rfl ?_); refine goesL_ (some 49) rfl rfl Try.func23 (by kernel_rfl) rfl #[.slice Ao24 t188.length co24, .int .i64 1] rfl (by (try simp only [List.map_toArray, List.map_cons, List.map_nil]); first | done | rfl | (simp only [List.length_drop, List.length_take]; rfl)) ?_; (with_reducible refine (laws_markIntSS.calls kj15 ok8_ (.slice Ao24 t188.length co24) t188 1 t198 t199 w _ ?side1 ?side2 A33.out).mono ?_); (case side1 => repeat (first | (with_reducible first | exact HB.out | apply below_alloc | apply pw_below_drewN | apply below_drew1) | exact HB.out)); (case side2 => exact HO_8.out); rintro e w44 ⟨rfl, hy0, hb, hkp⟩; refine ⟨_, rfl, ?_⟩; have n0_ := Aside0.mk hy0; have n1_ := Aside0.mk (hb); have n2_ := Aside0.mk (Kd.S_keptB (HO_6.out) hkp (fun k_ h6_ h8_ => HD68.out k_ h8_ h6_)); clear HO_8 HB HO_6; have HO_8 := n0_; have HB := n1_; have HO_6 := n2_; clear n0_ n1_ n2_; (try clear hb); (try clear hkp); (try clear hy0)) | ((with_reducible refine gate_callee (f := 24) rfl ?_); refine goesL_ (some 52) rfl rfl Try.func24 (by kernel_rfl) rfl #[.slice Ao24 t199.length co24, .int .i64 1] rfl (by (try simp only [List.map_toArray, List.map_cons, List.map_nil]); first | done | (rw [show t199.length = t188.length from (Kd.S_reads' HO_8.out).1.symm] <;> rfl) | rfl | (simp only [List.length_drop, List.length_take]; rfl)) ?_; (with_reducible refine (laws_heldIntSS.calls kj15 _ _ t199 1 t200 _ ?side1 ?side2 A34.out).mono ?_); (case side1 => repeat (first | exact (Kd.S_reads' HO_8.out).2.2 | (with_reducible refine Kd.C_alloc ?_ _) | (with_reducible refine Kd.C_drewN ?_ _) | (with_reducible refine Kd.C_drew ?_))); (case side2 => rw [show t199.length = t188.length from (Kd.S_reads' HO_8.out).1.symm]; exact (Kd.S_reads' HO_8.out).2.1); rintro e w' ⟨rfl, ⟨nd, rfl⟩⟩; refine ⟨_, rfl, ?_⟩) | ((with_reducible refine gate_callee (f := 12) rfl ?_); refine goesL_ (some 59) rfl rfl Try.func12 (by kernel_rfl) rfl #[.slice A0 l0.length c0] rfl (by (try simp only [List.map_toArray, List.map_cons, List.map_nil]); first | done | rfl | (simp only [List.length_drop, List.length_take]; rfl)) ?_; (with_reducible refine (laws_toBasketS.calls kj15 _ _ l0 t201 _ ?side1 ?side2 A37.out).mono ?_); (case side1 => repeat (first | exact (Kd.C_below HR0.out (by repeat (first | (with_reducible first | exact HB.out | apply below_alloc | apply pw_below_drewN | apply below_drew1) | exact HB.out))) | (with_reducible refine Kd.C_alloc ?_ _) | (with_reducible refine Kd.C_drewN ?_ _) | (with_reducible refine Kd.C_drew ?_))); (case side2 => exact HC0.out); rintro e w45 ⟨v202, rfl, ho0, hb⟩; refine ⟨_, rfl, ?_⟩; have n0_ := Aside0.mk (Kd.S_old (by (with_reducible repeat (first | apply Kd.S_alloc | apply Kd.S_drewN | apply Kd.S_drew)); exact HO_8.out) hb); have n1_ := Aside0.mk (Kd.S_lower (handRowsGe ho0) (below_size (by repeat (first | (with_reducible first | exact HB.out | apply below_alloc | apply pw_below_drewN | apply below_drew1) | exact HB.out)))); have n2_ := Aside0.mk (below_step (by repeat (first | (with_reducible first | exact HB.out | apply below_alloc | apply pw_below_drewN | apply below_drew1) | exact HB.out)) hb); have m6_ := Aside0.mk (Kd.S_below (by (with_reducible repeat (first | apply Kd.S_alloc | apply Kd.S_drewN | apply Kd.S_drew)); exact HO_6.out) hb); clear HO_6; have HO_6 := m6_; clear m6_; clear HO_8 HB; have HO_8 := n0_; have HO203 := n1_; have HB := n2_; clear n0_ n1_ n2_; (try clear hb); (try clear hb2); (try clear hk); (try clear hi); (try clear ho0); obtain ⟨Ao46, co46, eo46⟩ := Kd.S_slice HO203.out; subst eo46) | ((with_reducible refine gate_callee (f := 20) rfl ?_); refine goesL_ (some 61) rfl rfl Try.func20 (by kernel_rfl) rfl #[.slice Ao46 t201.length co46, .int .i64 a1] rfl (by (try simp only [List.map_toArray, List.map_cons, List.map_nil]); first | done | rfl | (simp only [List.length_drop, List.length_take]; rfl)) ?_; (with_reducible refine (impl_CommonPairs.calls kj15 _ _ t201 a1 t204 _ ?side1 ?side2 A38.out).mono ?_); (case side1 => repeat (first | exact (Kd.S_reads' HO203.out).2.2 | (with_reducible refine Kd.C_alloc ?_ _) | (with_reducible refine Kd.C_drewN ?_ _) | (with_reducible refine Kd.C_drew ?_))); (case side2 => exact (Kd.S_reads' HO203.out).2.1); rintro e w47 ⟨v205, rfl, ho0, hb⟩; refine ⟨_, rfl, ?_⟩; have n0_ := Aside0.mk (Kd.S_told (Kd.S_old (by (with_reducible repeat (first | apply Kd.S_alloc | apply Kd.S_drewN | apply Kd.S_drew)); exact HO_8.out) hb) (Kd.S_base ho0)); have n1_ := Aside0.mk (Kd.S_old (by (with_reducible repeat (first | apply Kd.S_alloc | apply Kd.S_drewN | apply Kd.S_drew)); exact HO203.out) hb); have n2_ := Aside0.mk (Kd.S_lower (handRowsGe (Kd.S_new' ho0 (Kd.S_lt (by (with_reducible repeat (first | apply Kd.S_alloc | apply Kd.S_drewN | apply Kd.S_drew)); exact HO_8.out)))) (below_size (by repeat (first | (with_reducible first | exact HB.out | apply below_alloc | apply pw_below_drewN | apply below_drew1) | exact HB.out)))); have n3_ := Aside0.mk (below_step (by repeat (first | (with_reducible first | exact HB.out | apply below_alloc | apply pw_below_drewN | apply below_drew1) | exact HB.out)) hb); have m6_ := Aside0.mk (Kd.S_below (by (with_reducible repeat (first | apply Kd.S_alloc | apply Kd.S_drewN | apply Kd.S_drew)); exact HO_6.out) hb); clear HO_6; have HO_6 := m6_; clear m6_; clear HO_8 HO203 HB; have HO_8 := n0_; have HO203 := n1_; have HO206 := n2_; have HB := n3_; clear n0_ n1_ n2_ n3_; (try clear hb); (try clear hb2); (try clear hk); (try clear hi); (try clear ho0); obtain ⟨Ao48, co48, eo48⟩ := Kd.S_slice HO206.out; subst eo48) | ((with_reducible refine gate_callee (f := 21) rfl ?_); refine goesL_ (some 64) rfl rfl Try.func21 (by kernel_rfl) rfl #[.slice Ao48 t204.length co48, .slice Ao25 t182.length co25] rfl (by (try simp only [List.map_toArray, List.map_cons, List.map_nil]); first | done | rfl | (simp only [List.length_drop, List.length_take]; rfl)) ?_; (with_reducible refine (laws_eqIntSS.calls kj15 _ _ t204 _ _ t182 true _ ?side1 ?side2 ?side3 ?side4 A39.out).mono ?_); (case side1 => repeat (first | exact (Kd.S_reads' HO206.out).2.2 | (with_reducible refine Kd.C_alloc ?_ _) | (with_reducible refine Kd.C_drewN ?_ _) | (with_reducible refine Kd.C_drew ?_))); (case side2 => exact (Kd.S_reads' HO206.out).2.1); (case side3 => repeat (first | exact (Kd.S_reads' HO_6.out).2.2 | (with_reducible refine Kd.C_alloc ?_ _) | (with_reducible refine Kd.C_drewN ?_ _) | (with_reducible refine Kd.C_drew ?_))); (case side4 => exact (Kd.S_reads' HO_6.out).2.1); rintro e w' ⟨rfl, ⟨nd, rfl⟩⟩; refine ⟨_, rfl, ?_⟩) | ((with_reducible refine gate_callee (f := 24) rfl ?_); refine goesL_ (some 68) rfl rfl Try.func24 (by kernel_rfl) rfl #[.slice Ao24 t199.length co24, .int .i64 1] rfl (by (try simp only [List.map_toArray, List.map_cons, List.map_nil]); first | done | (rw [show t199.length = t188.length from (Kd.S_reads' HO_8.out).1.symm] <;> rfl) | rfl | (simp only [List.length_drop, List.length_take]; rfl)) ?_; (with_reducible refine (laws_heldIntSS.calls kj15 _ _ t199 1 t208 _ ?side1 ?side2 A41.out).mono ?_); (case side1 => repeat (first | exact (Kd.S_reads' HO_8.out).2.2 | (with_reducible refine Kd.C_alloc ?_ _) | (with_reducible refine Kd.C_drewN ?_ _) | (with_reducible refine Kd.C_drew ?_))); (case side2 => rw [show t199.length = t188.length from (Kd.S_reads' HO_8.out).1.symm]; exact (Kd.S_reads' HO_8.out).2.1); rintro e w' ⟨rfl, ⟨nd, rfl⟩⟩; refine ⟨_, rfl, ?_⟩))
            go_ret
            exact ⟨by first | rfl | (simp [errW_none, errW_some] <;> rfl) | (simp [*, errW_none, errW_some] <;> rfl), by repeat (first | (with_reducible first | exact HB.out | apply below_alloc | apply pw_below_drewN | apply below_drew1) | exact HB.out)⟩
           ·rw [if_neg c43] at H
            have c43b0 : (t208 == t198) = false := beq_eq_false_iff_ne.mpr c43
            have c43b1 : (t208 != t198) = true := bne_iff_ne.mpr c43
            exact absurd (H.trans (congrArg some HRT.out)) (by simp)
         ·replace c40 := Bool.eq_false_iff.mpr c40
          subst c40
          have H1 : (some false) = some r := by rw [if_neg (show ¬ (false = true) by decide)] at H; exact H
          clear H
          have H := H1
          clear H1
          exact absurd (H.trans (congrArg some HRT.out)) (by simp)
        ·rw [if_neg c36] at H
         have c36b0 : (t200 == t198) = false := beq_eq_false_iff_ne.mpr c36
         have c36b1 : (t200 != t198) = true := bne_iff_ne.mpr c36
         exact absurd (H.trans (congrArg some HRT.out)) (by simp)
   ·replace c14 := Bool.eq_false_iff.mpr c14
    subst c14
    have H1 : (some false) = some r := by rw [if_neg (show ¬ (false = true) by decide)] at H; exact H
    clear H
    have H := H1
    clear H1
    exact absurd (H.trans (congrArg some HRT.out)) (by simp)
  ·replace c11 := Bool.eq_false_iff.mpr c11
   subst c11
   have H1 : (some false) = some r := by rw [if_neg (show ¬ (false = true) by decide)] at H; exact H
   clear H
   have H := H1
   clear H1
   exact absurd (H.trans (congrArg some HRT.out)) (by simp)
def wfS51 (x_ : S51) : Prop := (x_.f0.length ≤ maxLen ∧ ∀ y_ ∈ x_.f0, (Lit.int .i64 y_).wf = true)
/-- THE ONE PURE STATEMENT of laws_FnExactCommonPairs. -/
def laws_FnExactCommonPairs.Pure : Prop := ∀ (l0 : List (S51)) (a1 : Int), l0.length ≤ maxLen → l0.length * 24 ≤ 140737488351232 → (∀ x ∈ l0, wfS51 x) → (Lit.int .i64 a1).wf = true → ∃ k, laws_FnExactCommonPairs.f k l0 a1 = some true
theorem laws_FnExactCommonPairs.walk (P : laws_FnExactCommonPairs.Pure) (A0 : Option Addr) (c0 : Nat) (l0 : List (S51)) (a1 : Int) (w : World) (hr0 : Kd.C k51 w A0 l0.length l0) (hc0 : l0.length ≤ c0) (y0 : l0.length ≤ maxLen) (y1 : l0.length * 24 ≤ 140737488351232) (y2 : (∀ x ∈ l0, wfS51 x)) (y3 : (Lit.int .i64 a1).wf = true) :
  Calls Try.prog 5 #[.slice A0 l0.length c0, .int .i64 a1] w fun e w' => e = .returned (.bool true) ∧ Below w.heap.size w w' := by
 obtain ⟨k, h⟩ := P l0 a1 y0 y1 y2 y3
 refine (laws_FnExactCommonPairs.calls k A0 c0 l0 a1 true w hr0 hc0 rfl h).mono ?_
 rintro e w' ⟨rfl, hd⟩
 exact ⟨rfl, hd⟩

end Go.Proofs.Ytkgigoefmpkngaa.PCP
