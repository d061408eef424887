/- What is reached from a lot: plain law of the closure, and of the reference's rounds. -/
import Derived.Test.YthdgbngnddkkiaaPureLots
namespace Go.Proofs.Ythdgbngnddkkiaa.Pure
set_option linter.unusedVariables false
set_option linter.unusedSimpArgs false
open Go.RowKit Go.Proofs.Ythdgbngnddkkiaa.PHX Go.Proofs.Ythdgbngnddkkiaa.Base Go.Proofs.YthdgbngnddkkiaaW.PrintWords Go.Proofs.YthdgbngnddkkiaaW.PrintLast

theorem rb_set (L : List Bool) (i : Int) (h0 : 0 ≤ i) (h1 : i < (L.length : Int)) (x : Int) : rdOf false (L.set i.toNat true) x = (decide (x.toNat = i.toNat) || rdOf false L x) := by
  unfold rdOf
  rw [List.getD_eq_getElem?_getD, List.getD_eq_getElem?_getD]
  by_cases e : x.toNat = i.toNat
  · rw [e, List.getElem?_set_self (by omega)]; simp
  · rw [List.getElem?_set_ne (fun q => e q.symm)]; simp [e]
theorem set_same (L : List Bool) (i : Int) (h0 : 0 ≤ i) (h1 : i < (L.length : Int)) (h : rdOf false L i = true) : L.set i.toNat true = L := by
  apply List.ext_getElem?
  intro j
  by_cases e : j = i.toNat
  · subst e
    rw [List.getElem?_set_self (by omega)]
    unfold rdOf at h
    rw [List.getD_eq_getElem?_getD, List.getElem?_eq_getElem (by omega)] at h
    rw [List.getElem?_eq_getElem (by omega)]
    simp only [Option.getD_some] at h
    rw [h]
  · rw [List.getElem?_set_ne (fun q => e q.symm)]
/-- The lots that are reached: the lot itself, if it was used; and what shares a bread with one that is reached. -/
inductive RL (l : List Us) (lot : Int) : Int → Prop
  | start : (∃ u ∈ l, u.f0 = lot) → RL l lot lot
  | step (u v : Us) : RL l lot u.f0 → u ∈ l → v ∈ l → u.f1 = v.f1 → RL l lot v.f0
theorem RL.used {l : List Us} {lot x : Int} (h : RL l lot x) : ∃ u ∈ l, u.f0 = x := by
  cases h with
  | start h => exact h
  | step u v _ _ hv _ => exact ⟨v, hv, rfl⟩
theorem RL.first {l : List Us} {lot x : Int} (h : RL l lot x) : ∃ u ∈ l, u.f0 = lot := by
  induction h with
  | start h => exact h
  | step u v _ _ _ _ ih => exact ih
theorem RL.trans {l : List Us} {a b c : Int} (h : RL l a b) (h2 : RL l b c) : RL l a c := by
  induction h2 with
  | start _ => exact h
  | step u v _ hu hv e ih => exact .step u v ih hu hv e
theorem RL.symm {l : List Us} {a b : Int} (h : RL l a b) : RL l b a := by
  induction h with
  | start h => exact .start h
  | step u v hp hu hv e ih => exact .trans (.step v u (.start ⟨v, hv, rfl⟩) hv hu e.symm) ih

abbrev Bo := List Bool × List Bool
def stepU (s : Bo) (u : Us) : Bo := if (rdOf false s.1 u.f0 || rdOf false s.2 u.f1) = true then (s.1.set u.f0.toNat true, s.2.set u.f1.toNat true) else s
def passU (l : List Us) (s : Bo) : Bo := l.foldl stepU s
def Okay (u : Us) : Prop := (1 ≤ u.f0 ∧ u.f0 ≤ 50) ∧ (1 ≤ u.f1 ∧ u.f1 ≤ 50)
def Len (s : Bo) : Prop := s.1.length = 51 ∧ s.2.length = 51
def actU (s : Bo) (u : Us) : Bool := rdOf false s.1 u.f0 && rdOf false s.2 u.f1
def touch (s : Bo) (u : Us) : Bool := rdOf false s.1 u.f0 || rdOf false s.2 u.f1
theorem step_len (s : Bo) (u : Us) (h : Len s) : Len (stepU s u) := by
  unfold stepU
  split
  · exact ⟨by simp [h.1], by simp [h.2]⟩
  · exact h
theorem step_mono (s : Bo) (u : Us) (h : Len s) (hu : Okay u) (x : Int) : (rdOf false s.1 x = true → rdOf false (stepU s u).1 x = true) ∧ (rdOf false s.2 x = true → rdOf false (stepU s u).2 x = true) := by
  have h1 := h.1
  have h2 := h.2
  obtain ⟨⟨a, b⟩, c, d⟩ := hu
  unfold stepU
  split
  · simp only
    rw [rb_set _ _ (by omega) (by omega), rb_set _ _ (by omega) (by omega)]
    exact ⟨fun e => by simp [e], fun e => by simp [e]⟩
  · exact ⟨fun e => e, fun e => e⟩
theorem step_act (s : Bo) (u : Us) (h : Len s) (hu : Okay u) (ht : touch s u = true) : actU (stepU s u) u = true := by
  have h1 := h.1
  have h2 := h.2
  obtain ⟨⟨a, b⟩, c, d⟩ := hu
  unfold touch at ht
  unfold stepU actU
  rw [if_pos ht]
  simp only
  rw [rb_set _ _ (by omega) (by omega), rb_set _ _ (by omega) (by omega)]
  simp
theorem pass_len : ∀ (m : List Us) (s : Bo), Len s → Len (passU m s)
  | [], s, h => h
  | u :: m, s, h => pass_len m _ (step_len s u h)
theorem pass_mono : ∀ (m : List Us) (s : Bo), Len s → (∀ u ∈ m, Okay u) → ∀ x, (rdOf false s.1 x = true → rdOf false (passU m s).1 x = true) ∧ (rdOf false s.2 x = true → rdOf false (passU m s).2 x = true)
  | [], s, h, hu, x => ⟨fun e => e, fun e => e⟩
  | u :: m, s, h, hu, x => by
    have h1 := step_mono s u h (hu u (by simp)) x
    have h2 := pass_mono m (stepU s u) (step_len s u h) (fun v hv => hu v (by simp [hv])) x
    exact ⟨fun e => h2.1 (h1.1 e), fun e => h2.2 (h1.2 e)⟩
theorem act_mono (s s' : Bo) (h : ∀ x, (rdOf false s.1 x = true → rdOf false s'.1 x = true) ∧ (rdOf false s.2 x = true → rdOf false s'.2 x = true)) (u : Us) (ha : actU s u = true) : actU s' u = true := by
  unfold actU at *
  rw [Bool.and_eq_true] at *
  exact ⟨(h _).1 ha.1, (h _).2 ha.2⟩
theorem touch_mono (s s' : Bo) (h : ∀ x, (rdOf false s.1 x = true → rdOf false s'.1 x = true) ∧ (rdOf false s.2 x = true → rdOf false s'.2 x = true)) (u : Us) (ha : touch s u = true) : touch s' u = true := by
  unfold touch at *
  rw [Bool.or_eq_true] at *
  exact ha.imp (h _).1 (h _).2
theorem pass_act : ∀ (m : List Us) (s : Bo), Len s → (∀ u ∈ m, Okay u) → ∀ u ∈ m, touch s u = true → actU (passU m s) u = true
  | [], s, h, hu, u, hm, _ => by cases hm
  | v :: m, s, h, hu, u, hm, ht => by
    have hv := hu v (by simp)
    have hm' := fun w (hw : w ∈ m) => hu w (by simp [hw])
    rcases List.mem_cons.1 hm with rfl | hm
    · exact act_mono _ _ (pass_mono m (stepU s u) (step_len s u h) hm') u (step_act s u h hv ht)
    · exact pass_act m (stepU s v) (step_len s v h) hm' u hm (touch_mono _ _ (step_mono s v h hv) u ht)
def ClosedU (l : List Us) (s : Bo) : Prop := ∀ u ∈ l, touch s u = true → actU s u = true
theorem closed_id (l : List Us) (s : Bo) (h : Len s) (hu : ∀ u ∈ l, Okay u) (hc : ClosedU l s) : passU l s = s := by
  have : ∀ m : List Us, (∀ u ∈ m, u ∈ l) → passU m s = s := by
    intro m
    induction m with
    | nil => intro _; rfl
    | cons u m ih =>
      intro hm
      have hul := hm u (by simp)
      have e : stepU s u = s := by
        unfold stepU
        split
        · rename_i ht
          have ha := hc u hul ht
          unfold actU at ha
          rw [Bool.and_eq_true] at ha
          obtain ⟨⟨a, b⟩, c, d⟩ := hu u hul
          have h1 := h.1
          have h2 := h.2
          rw [set_same _ _ (by omega) (by omega) ha.1, set_same _ _ (by omega) (by omega) ha.2]
        · rfl
      show passU m (stepU s u) = s
      rw [e]
      exact ih (fun v hv => hm v (by simp [hv]))
  exact this l (fun _ h => h)
theorem count_le : ∀ (l : List Us) (p q : Us → Bool), (∀ u ∈ l, p u = true → q u = true) → l.countP p ≤ l.countP q
  | [], _, _, _ => Nat.le_refl _
  | u :: l, p, q, h => by
    have ih := count_le l p q (fun v hv => h v (by simp [hv]))
    have := h u (by simp)
    rw [List.countP_cons, List.countP_cons]
    cases hp : p u <;> cases hq : q u <;> simp_all <;> omega
theorem count_lt : ∀ (l : List Us) (p q : Us → Bool), (∀ u ∈ l, p u = true → q u = true) → (∃ u ∈ l, p u = false ∧ q u = true) → l.countP p + 1 ≤ l.countP q
  | [], _, _, _, h => by obtain ⟨u, hu, _⟩ := h; cases hu
  | u :: l, p, q, h, hx => by
    obtain ⟨v, hv, h1, h2⟩ := hx
    rw [List.countP_cons, List.countP_cons]
    rcases List.mem_cons.1 hv with rfl | hv
    · have ih := count_le l p q (fun v hv => h v (by simp [hv]))
      rw [h1, h2]
      simp
      omega
    · have ih := count_lt l p q (fun v hv => h v (by simp [hv])) ⟨v, hv, h1, h2⟩
      have := h u (by simp)
      cases hp : p u <;> cases hq : q u <;> simp_all <;> omega
def roundsU (l : List Us) : Nat → Bo → Bo
  | 0, s => s
  | n + 1, s => roundsU l n (passU l s)
theorem rounds_succ (l : List Us) : ∀ (n : Nat) (s : Bo), roundsU l (n + 1) s = passU l (roundsU l n s)
  | 0, s => rfl
  | n + 1, s => rounds_succ l n (passU l s)
theorem rounds_len (l : List Us) : ∀ (n : Nat) (s : Bo), Len s → Len (roundsU l n s)
  | 0, s, h => h
  | n + 1, s, h => rounds_len l n _ (pass_len l s h)
theorem rounds_mono (l : List Us) (hu : ∀ u ∈ l, Okay u) : ∀ (n : Nat) (s : Bo), Len s → ∀ x, (rdOf false s.1 x = true → rdOf false (roundsU l n s).1 x = true) ∧ (rdOf false s.2 x = true → rdOf false (roundsU l n s).2 x = true)
  | 0, s, h, x => ⟨fun e => e, fun e => e⟩
  | n + 1, s, h, x => by
    have h1 := pass_mono l s h hu x
    have h2 := rounds_mono l hu n (passU l s) (pass_len l s h) x
    exact ⟨fun e => h2.1 (h1.1 e), fun e => h2.2 (h1.2 e)⟩
theorem rounds_closed (l : List Us) (hu : ∀ u ∈ l, Okay u) (s : Bo) (h : Len s) : ∀ n, ClosedU l (roundsU l n s) ∨ n ≤ l.countP (actU (roundsU l n s))
  | 0 => .inr (Nat.zero_le _)
  | n + 1 => by
    rw [rounds_succ]
    have hl := rounds_len l n s h
    by_cases hc : ClosedU l (roundsU l n s)
    · left
      rw [closed_id l _ hl hu hc]
      exact hc
    · rcases rounds_closed l hu s h n with hc' | hn
      · exact absurd hc' hc
      · right
        have hx : ∃ u ∈ l, touch (roundsU l n s) u = true ∧ actU (roundsU l n s) u = false := by
          by_cases q : ∃ u ∈ l, touch (roundsU l n s) u = true ∧ actU (roundsU l n s) u = false
          · exact q
          · exact absurd (fun u hm ht => by
              cases ha : actU (roundsU l n s) u with
              | true => rfl
              | false => exact absurd ⟨u, hm, ht, ha⟩ q) hc
        obtain ⟨u, hm, ht, ha⟩ := hx
        have := count_lt l (actU (roundsU l n s)) (actU (passU l (roundsU l n s))) (fun v _ hv => act_mono _ _ (pass_mono l _ hl hu) v hv) ⟨u, hm, ha, pass_act l _ hl hu u hm ht⟩
        omega
theorem rounds_60 (l : List Us) (hu : ∀ u ∈ l, Okay u) (hl : l.length ≤ 60) (s : Bo) (h : Len s) : ClosedU l (roundsU l 60 s) := by
  rcases rounds_closed l hu s h 60 with hc | hn
  · exact hc
  · have h1 := List.countP_le_length (p := actU (roundsU l 60 s)) (l := l)
    have h2 : l.countP (actU (roundsU l 60 s)) = l.length := by omega
    rw [List.countP_eq_length] at h2
    exact fun u hm _ => h2 u hm
/-- What is marked is reached. -/
def Snd (l : List Us) (lot : Int) (s : Bo) : Prop := (∀ x, 0 ≤ x → rdOf false s.1 x = true → RL l lot x) ∧ (∀ b, 0 ≤ b → rdOf false s.2 b = true → ∃ u ∈ l, RL l lot u.f0 ∧ u.f1 = b)
theorem step_snd (l : List Us) (lot : Int) (s : Bo) (u : Us) (h : Len s) (hu : Okay u) (hm : u ∈ l) (hs : Snd l lot s) : Snd l lot (stepU s u) := by
  have h1 := h.1
  have h2 := h.2
  unfold stepU
  split
  · rename_i ht
    have hR : RL l lot u.f0 := by
      obtain ⟨⟨a, b⟩, c, d⟩ := hu
      rcases Bool.or_eq_true _ _ ▸ ht with e | e
      · exact hs.1 _ (by omega) e
      · obtain ⟨v, hv, hr, e1⟩ := hs.2 _ (by omega) e
        exact .step v u hr hv hm e1
    obtain ⟨⟨a, b⟩, c, d⟩ := hu
    refine ⟨fun x h0 e => ?_, fun x h0 e => ?_⟩
    · simp only at e
      rw [rb_set _ _ (by omega) (by omega), Bool.or_eq_true, decide_eq_true_eq] at e
      rcases e with e | e
      · obtain rfl : x = u.f0 := by omega
        exact hR
      · exact hs.1 x h0 e
    · simp only at e
      rw [rb_set _ _ (by omega) (by omega), Bool.or_eq_true, decide_eq_true_eq] at e
      rcases e with e | e
      · obtain rfl : x = u.f1 := by omega
        exact ⟨u, hm, hR, rfl⟩
      · exact hs.2 x h0 e
  · exact hs
theorem pass_snd (l : List Us) (lot : Int) (hu : ∀ u ∈ l, Okay u) : ∀ (m : List Us) (s : Bo), Len s → (∀ u ∈ m, u ∈ l) → Snd l lot s → Snd l lot (passU m s)
  | [], s, _, _, hs => hs
  | u :: m, s, h, hm, hs => pass_snd l lot hu m _ (step_len s u h) (fun v hv => hm v (by simp [hv])) (step_snd l lot s u h (hu u (hm u (by simp))) (hm u (by simp)) hs)
theorem rounds_snd (l : List Us) (lot : Int) (hu : ∀ u ∈ l, Okay u) : ∀ (n : Nat) (s : Bo), Len s → Snd l lot s → Snd l lot (roundsU l n s)
  | 0, s, _, hs => hs
  | n + 1, s, h, hs => rounds_snd l lot hu n _ (pass_len l s h) (pass_snd l lot hu l s h (fun _ hm => hm) hs)
/-- The marks that the reference begins with. -/
def mark0 (l : List Us) (lot : Int) : Bo := (if (l.any fun u => decide (u.f0 = lot)) = true then (List.replicate 51 false).set lot.toNat true else List.replicate 51 false, List.replicate 51 false)
theorem rep_false (x : Int) : rdOf false (List.replicate 51 false) x = false := by
  unfold rdOf
  rw [List.getD_eq_getElem?_getD, List.getElem?_replicate]
  split <;> rfl
theorem mark0_len (l : List Us) (lot : Int) : Len (mark0 l lot) := by
  unfold mark0 Len
  split <;> simp
theorem rounds_is (l : List Us) (lot : Int) (hu : ∀ u ∈ l, Okay u) (hl : l.length ≤ 60) (x : Int) (hx : 0 ≤ x) : rdOf false (roundsU l 60 (mark0 l lot)).1 x = true ↔ RL l lot x := by
  have hL := mark0_len l lot
  have hS : Snd l lot (mark0 l lot) := by
    unfold mark0
    by_cases ha : (l.any fun u => decide (u.f0 = lot)) = true
    · rw [if_pos ha]
      rw [List.any_eq_true] at ha
      obtain ⟨u, hm, e⟩ := ha
      rw [decide_eq_true_eq] at e
      obtain ⟨⟨a, b⟩, c, d⟩ := hu u hm
      refine ⟨fun x h0 ex => ?_, fun b _ eb => ?_⟩
      · simp only at ex
        rw [rb_set _ _ (by omega) (by simp; omega), Bool.or_eq_true, decide_eq_true_eq, rep_false] at ex
        rcases ex with ex | ex
        · obtain rfl : x = lot := by omega
          exact .start ⟨u, hm, e⟩
        · cases ex
      · simp only at eb
        rw [rep_false] at eb
        cases eb
    · rw [if_neg ha]
      refine ⟨fun x _ ex => ?_, fun b _ eb => ?_⟩
      · simp only at ex
        rw [rep_false] at ex
        cases ex
      · simp only at eb
        rw [rep_false] at eb
        cases eb
  constructor
  · exact fun e => (rounds_snd l lot hu 60 _ hL hS).1 x hx e
  · intro hr
    have hC := rounds_60 l hu hl (mark0 l lot) hL
    clear hx
    induction hr with
    | start h =>
      obtain ⟨u, hm, e⟩ := h
      obtain ⟨⟨a, b⟩, c, d⟩ := hu u hm
      refine (rounds_mono l hu 60 _ hL lot).1 ?_
      unfold mark0
      rw [if_pos (List.any_eq_true.2 ⟨u, hm, by simp [e]⟩)]
      simp only
      rw [rb_set _ _ (by omega) (by simp; omega)]
      simp
    | step u v _ hmu hmv e ih =>
      have h1 := hC u hmu (by unfold touch; rw [ih]; rfl)
      unfold actU at h1
      rw [Bool.and_eq_true] at h1
      have h2 := hC v hmv (by unfold touch; rw [← e, h1.2]; simp)
      unfold actU at h2
      rw [Bool.and_eq_true] at h2
      exact h2.1
end Go.Proofs.Ythdgbngnddkkiaa.Pure
