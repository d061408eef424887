/- Shifts: what the program computes is what the reference computes. -/
import Derived.Test.YtdlolekpdophcaaShift
namespace Go.Proofs.Ytdlolekpdophcaa.Pure
set_option linter.unusedVariables false
set_option linter.unusedSimpArgs false
open Go.RowKit Go.Proofs.Ytdlolekpdophcaa.PE Go.Proofs.Ytdlolekpdophcaa.Base Go.Proofs.YtdlolekpdophcaaW.PrintWords Go.Proofs.YtdlolekpdophcaaW.PrintLast

abbrev Sh := S39
def shOk (x : Sh) : Bool := inB 0 167 x.f0 && inB (wrap64 (x.f0 + 1)) (wrap64 (x.f0 + 12)) x.f1
theorem sh_both (a b : Int) : spec_l22Ok.f a b = some (shOk ⟨a, b⟩) ∧ impl_shiftOk.f a b = some (shOk ⟨a, b⟩) := by
  simp only [spec_l22Ok.f, impl_shiftOk.f, spec_in, in_is, Option.bind_some, shOk]
  cases inB 0 167 a <;> simp
theorem shOk_iff (x : Sh) : shOk x = true ↔ (0 ≤ x.f0 ∧ x.f0 ≤ 167) ∧ x.f0 + 1 ≤ x.f1 ∧ x.f1 ≤ x.f0 + 12 := by
  unfold shOk
  simp only [Bool.and_eq_true, inB_iff]
  constructor
  · rintro ⟨h1, h2⟩
    rw [w64 (by omega) (by omega), w64 (by omega) (by omega)] at h2
    exact ⟨h1, h2⟩
  · rintro ⟨h1, h2⟩
    refine ⟨h1, ?_⟩
    rw [w64 (by omega) (by omega), w64 (by omega) (by omega)]
    exact h2
/-- Every shift from n on has its form, and begins when the one before has ended. -/
def ShFrom (l : List Sh) (n : Nat) : Prop := ∀ j (hj : j < l.length), n ≤ j → shOk l[j] = true ∧ (∀ h : 0 < j, l[j - 1].f1 ≤ l[j].f0)
theorem shifts_l (l : List Sh) (hb : l.length ≤ 9223372036854775800) : ∀ (d : Nat) (k n : Nat), n + d = l.length → d < k →
    ∃ r, spec_ShiftsOk.l0 k l (n : Int) = some r ∧ impl_ShiftsOk.l0 k l l (l.length : Int) (n : Int) = some r ∧ (r = true ↔ (l.length ≤ 14 ∧ ShFrom l n)) := by
  intro d
  induction d with
  | zero =>
    intro k n hn hk
    obtain ⟨k, rfl⟩ : ∃ m, k = m + 1 := ⟨k - 1, by omega⟩
    simp only [spec_ShiftsOk.l0, impl_ShiftsOk.l0]
    rw [if_neg (by omega), if_neg (by omega)]
    refine ⟨_, rfl, rfl, ?_⟩
    rw [decide_eq_true_eq]
    exact ⟨fun h => ⟨by omega, fun j hj hnj => absurd hj (by omega)⟩, fun h => by omega⟩
  | succ d ih =>
    intro k n hn hk
    obtain ⟨k, rfl⟩ : ∃ m, k = m + 1 := ⟨k - 1, by omega⟩
    obtain ⟨r, g1, g2, g3⟩ := ih k (n + 1) (by omega) (by omega)
    have hn' : n < l.length := by omega
    simp only [spec_ShiftsOk.l0, impl_ShiftsOk.l0, rdIShift l n hn', (sh_both _ _).1, (sh_both _ _).2, Option.bind_some]
    rw [if_pos (show (n : Int) < (l.length : Int) by omega), if_pos (show (0 : Int) ≤ (n : Int) by omega), if_pos (show (n : Int) < (l.length : Int) by omega), if_pos (show (0 : Int) ≤ (n : Int) by omega), if_pos (show (n : Int) < (l.length : Int) by omega), wn n (by omega)]
    have key : ShFrom l n ↔ (shOk l[n] = true ∧ (∀ h : 0 < n, l[n - 1].f1 ≤ l[n].f0)) ∧ ShFrom l (n + 1) := by
      constructor
      · intro h
        exact ⟨h n hn' (Nat.le_refl _), fun j hj hnj => h j hj (by omega)⟩
      · rintro ⟨h1, h2⟩ j hj hnj
        by_cases e : j = n
        · subst e; exact h1
        · exact h2 j hj (by omega)
    cases hs : shOk l[n] with
    | false =>
      refine ⟨false, by simp [hs], by simp [hs], ?_⟩
      simp only [key, hs]
      simp
    | true =>
      have hs' : shOk ⟨l[n].f0, l[n].f1⟩ = true := hs
      simp only [hs', if_true]
      by_cases h0 : (n : Int) > 0
      · have hw : wrap64 ((n : Int) - 1) = ((n - 1 : Nat) : Int) := by rw [w64 (by omega) (by omega)]; omega
        rw [if_pos h0, if_pos h0, hw, if_pos (by omega), if_pos (by omega), rdIShift l (n - 1) (by omega)]
        by_cases hlt : l[n].f0 < l[n - 1].f1
        · refine ⟨false, by rw [if_pos hlt], by rw [if_pos (show (0 : Int) ≤ ((n - 1 : Nat) : Int) by omega), if_pos (show ((n - 1 : Nat) : Int) < (l.length : Int) by omega), if_pos hlt], ?_⟩
          simp only [key]
          constructor
          · intro h; cases h
          · rintro ⟨_, ⟨_, h⟩, _⟩
            have := h (by omega)
            omega
        · refine ⟨r, by rw [if_neg hlt]; exact g1, by rw [if_pos (show (0 : Int) ≤ ((n - 1 : Nat) : Int) by omega), if_pos (show ((n - 1 : Nat) : Int) < (l.length : Int) by omega), if_neg hlt]; exact g2, ?_⟩
          rw [g3, key]
          exact ⟨fun ⟨h1, h2⟩ => ⟨h1, ⟨hs, fun _ => by omega⟩, h2⟩, fun ⟨h1, _, h2⟩ => ⟨h1, h2⟩⟩
      · rw [if_neg h0, if_neg h0]
        refine ⟨r, g1, g2, ?_⟩
        rw [g3, key]
        exact ⟨fun ⟨h1, h2⟩ => ⟨h1, ⟨hs, fun h => absurd h (by omega)⟩, h2⟩, fun ⟨h1, _, h2⟩ => ⟨h1, h2⟩⟩
theorem shifts_both (l : List Sh) (k : Nat) (hb : l.length ≤ 9223372036854775800) (hk : l.length < k) : ∃ r, spec_ShiftsOk.f k l = some r ∧ impl_ShiftsOk.f k l = some r ∧ (r = true ↔ (l.length ≤ 14 ∧ ShFrom l 0)) :=
  shifts_l l hb l.length k 0 (by omega) hk

theorem hours_l (l : List Sh) (hb : l.length ≤ 9223372036854775800) : ∀ (d : Nat) (k n : Nat) (s : Int), n + d = l.length → d < k → ∃ r, spec_HoursOf.l0 k l s (n : Int) = some r ∧ impl_HoursOf.l0 k s l (l.length : Int) (n : Int) = some r := by
  intro d
  induction d with
  | zero =>
    intro k n s hn hk
    obtain ⟨k, rfl⟩ : ∃ m, k = m + 1 := ⟨k - 1, by omega⟩
    simp only [spec_HoursOf.l0, impl_HoursOf.l0]
    rw [if_neg (by omega), if_neg (by omega)]
    exact ⟨_, rfl, rfl⟩
  | succ d ih =>
    intro k n s hn hk
    obtain ⟨k, rfl⟩ : ∃ m, k = m + 1 := ⟨k - 1, by omega⟩
    have hn' : n < l.length := by omega
    simp only [spec_HoursOf.l0, impl_HoursOf.l0, rdIShift l n hn']
    rw [if_pos (show (n : Int) < (l.length : Int) by omega), if_pos (show (0 : Int) ≤ (n : Int) by omega), if_pos (show (n : Int) < (l.length : Int) by omega), if_pos (show (0 : Int) ≤ (n : Int) by omega), if_pos (show (n : Int) < (l.length : Int) by omega), wn n (by omega)]
    have e : wrap64 (wrap64 (s + l[n].f1) - l[n].f0) = wrap64 (s + wrap64 (l[n].f1 - l[n].f0)) := by unfold wrap64; omega
    rw [e]
    exact ih k (n + 1) _ (by omega) (by omega)
theorem hours_both (l : List Sh) (k : Nat) (hb : l.length ≤ 9223372036854775800) (hk : l.length < k) : ∃ r, spec_HoursOf.f k l = some r ∧ impl_HoursOf.f k l = some r := by
  obtain ⟨b, h1, h2, _⟩ := shifts_both l k hb hk
  simp only [spec_HoursOf.f, impl_HoursOf.f, h1, h2, Option.bind_some]
  cases b with
  | false => exact ⟨-1, by simp, by simp⟩
  | true =>
    obtain ⟨r, g1, g2⟩ := hours_l l hb l.length k 0 0 (by omega) hk
    exact ⟨r, by simpa using g1, by simpa using g2⟩

theorem rest_l (l : List Sh) (hb : l.length ≤ 9223372036854775800) : ∀ (d : Nat) (k n : Nat) (s : Int), 0 < n → n + d = l.length ∨ (l.length < n ∧ n ≤ 1) → d < k → ∃ r, spec_RestBetween.l0 k l s (n : Int) = some r ∧ impl_RestBetween.l0 k l s (n : Int) = some r := by
  intro d
  induction d with
  | zero =>
    intro k n s h0 hn hk
    obtain ⟨k, rfl⟩ : ∃ m, k = m + 1 := ⟨k - 1, by omega⟩
    simp only [spec_RestBetween.l0, impl_RestBetween.l0]
    rw [if_neg (by omega), if_neg (by omega)]
    exact ⟨_, rfl, rfl⟩
  | succ d ih =>
    intro k n s h0 hn hk
    obtain ⟨k, rfl⟩ : ∃ m, k = m + 1 := ⟨k - 1, by omega⟩
    simp only [spec_RestBetween.l0, impl_RestBetween.l0]
    by_cases hlt : (n : Int) < (l.length : Int)
    · have hw : wrap64 ((n : Int) - 1) = ((n - 1 : Nat) : Int) := by rw [w64 (by omega) (by omega)]; omega
      rw [if_pos hlt, if_pos hlt, if_pos (by omega), hw, if_pos (by omega), if_pos (by omega), if_pos (show (0 : Int) ≤ (n : Int) by omega), if_pos (show (0 : Int) ≤ ((n - 1 : Nat) : Int) by omega), if_pos (show ((n - 1 : Nat) : Int) < (l.length : Int) by omega), wn n (by omega)]
      exact ih k (n + 1) _ (by omega) (by omega) (by omega)
    · rw [if_neg hlt, if_neg hlt]
      exact ⟨_, rfl, rfl⟩
theorem rest_both (l : List Sh) (k : Nat) (hb : l.length ≤ 9223372036854775800) (hk : l.length + 1 < k) : ∃ r, spec_RestBetween.f k l = some r ∧ impl_RestBetween.f k l = some r := by
  obtain ⟨b, h1, h2, _⟩ := shifts_both l k hb (by omega)
  simp only [spec_RestBetween.f, impl_RestBetween.f, h1, h2, Option.bind_some]
  cases b with
  | false => exact ⟨-1, by simp, by simp⟩
  | true =>
    obtain ⟨r, g1, g2⟩ := rest_l l hb (l.length - 1) k 1 168 (by omega) (by omega) (by omega)
    exact ⟨r, by simpa using g1, by simpa using g2⟩

/-- Both loops of the nights, by what is left of them. -/
theorem night_l (l : List Sh) (hl : l.length ≤ 14) (hok : ∀ j (hj : j < l.length), shOk l[j] = true) : ∀ (m : Nat) (k : Nat), m < k →
    (∀ (n : Nat) (s : Int), n ≤ l.length → (l.length - n) * 20 ≤ m → ∃ r, spec_NightHours.l0 k l s (n : Int) = some r ∧ impl_NightHours.l0 k s l (l.length : Int) (n : Int) = some r) ∧
    (∀ (n : Nat) (s h : Int) (hn : n < l.length), l[n].f0 ≤ h → h ≤ l[n].f1 → (l.length - n - 1) * 20 + (l[n].f1 - h).toNat + 1 ≤ m → ∃ r, spec_NightHours.l1 k l s (n : Int) h = some r ∧ impl_NightHours.l1 k s h l (l.length : Int) (n : Int) l[n].f0 l[n].f1 = some r) := by
  intro m
  induction m using Nat.strongRecOn with
  | _ m ih =>
    intro k hk
    obtain ⟨k, rfl⟩ : ∃ j, k = j + 1 := ⟨k - 1, by omega⟩
    constructor
    · intro n s hn hm
      simp only [spec_NightHours.l0, impl_NightHours.l0]
      by_cases hlt : n < l.length
      · rw [if_pos (by omega), if_pos (by omega), if_pos (show (n : Int) < (l.length : Int) by omega), if_pos (by omega), if_pos (by omega), rdIShift l n hlt]
        have ho := (shOk_iff _).1 (hok n hlt)
        obtain ⟨r, g1, g2⟩ := (ih ((l.length - n - 1) * 20 + (l[n].f1 - l[n].f0).toNat + 1) (by omega) k (by omega)).2 n s l[n].f0 hlt (Int.le_refl _) (by omega) (Nat.le_refl _)
        exact ⟨r, g1, g2⟩
      · rw [if_neg (by omega), if_neg (by omega)]
        exact ⟨_, rfl, rfl⟩
    · intro n s h hn h0 h1 hm
      have ho := (shOk_iff _).1 (hok n hn)
      simp only [spec_NightHours.l1, impl_NightHours.l1]
      rw [if_pos (show (0 : Int) ≤ (n : Int) by omega), if_pos (show (n : Int) < (l.length : Int) by omega), rdIShift l n hn, wn n (by omega)]
      by_cases hlt : h < l[n].f1
      · rw [if_pos hlt, if_pos hlt, w64 (show -9223372036854775808 ≤ h + 1 by omega) (by omega)]
        have hrec : ∀ s', ∃ r, spec_NightHours.l1 k l s' (n : Int) (h + 1) = some r ∧ impl_NightHours.l1 k s' (h + 1) l (l.length : Int) (n : Int) l[n].f0 l[n].f1 = some r := fun s' =>
          (ih ((l.length - n - 1) * 20 + (l[n].f1 - (h + 1)).toNat + 1) (by omega) k (by omega)).2 n s' (h + 1) hn (by omega) (by omega) (Nat.le_refl _)
        by_cases c1 : Int.tmod h 24 < 6
        · rw [if_pos c1, if_pos c1]; exact hrec _
        · rw [if_neg c1, if_neg c1]
          by_cases c2 : Int.tmod h 24 ≥ 22
          · rw [if_pos c2, if_pos c2]; exact hrec _
          · rw [if_neg c2, if_neg c2]; exact hrec _
      · rw [if_neg hlt, if_neg hlt]
        exact (ih ((l.length - (n + 1)) * 20) (by omega) k (by omega)).1 (n + 1) s (by omega) (Nat.le_refl _)
theorem night_both (l : List Sh) (k : Nat) (hb : l.length ≤ 9223372036854775800) (hk : l.length + 1000 < k) : ∃ r, spec_NightHours.f k l = some r ∧ impl_NightHours.f k l = some r := by
  obtain ⟨b, h1, h2, h3⟩ := shifts_both l k hb (by omega)
  simp only [spec_NightHours.f, impl_NightHours.f, h1, h2, Option.bind_some]
  cases b with
  | false => exact ⟨-1, by simp, by simp⟩
  | true =>
    obtain ⟨hl, hf⟩ := h3.1 rfl
    obtain ⟨r, g1, g2⟩ := (night_l l hl (fun j hj => (hf j hj (by omega)).1) (l.length * 20) k (by omega)).1 0 0 (by omega) (by simp)
    exact ⟨r, by simpa using g1, by simpa using g2⟩
theorem allowed_both (l : List Sh) (a b : Int) (k : Nat) (hb : l.length ≤ 9223372036854775800) (hk : l.length + 1 < k) : ∃ r, spec_IsAllowed.f k l a b = some r ∧ impl_IsAllowed.f k l a b = some r := by
  obtain ⟨p, h1, h2, _⟩ := shifts_both l k hb (by omega)
  obtain ⟨q, h3, h4⟩ := rest_both l k hb hk
  obtain ⟨r, h5, h6⟩ := hours_both l k hb (by omega)
  simp only [spec_IsAllowed.f, impl_IsAllowed.f, h1, h2, h3, h4, h5, h6, Option.bind_some]
  cases p with
  | false => exact ⟨false, by simp, by simp⟩
  | true =>
    by_cases hq : q ≥ a
    · exact ⟨decide (r ≤ b), by simp [hq], by simp [hq]⟩
    · exact ⟨false, by simp [hq], by simp [hq]⟩

theorem FnExactShiftsOk : laws_FnExactShiftsOk.Pure := by
  intro l hm hl hw
  refine ⟨l.length + 2000, ?_⟩
  unfold laws_FnExactShiftsOk.f
  rw [szShift_is l hm]
  simp only [Option.bind_some]
  by_cases h : l.length > 1048576
  · rw [if_pos h, if_pos (by omega)]
  · obtain ⟨r, h1, h2, _⟩ := shifts_both (l.map cvShift) (l.length + 2000) (by simp; omega) (by simp)
    rw [if_neg h, if_neg (by omega), toShift_is l _ hl (by omega)]
    simp only [Option.bind_some, h1, h2]
    rw [eqShift_is _ _ (by simp; omega) (by simp)]
    simp
theorem FnExactHoursOf : laws_FnExactHoursOf.Pure := by
  intro l hm hl hw
  refine ⟨l.length + 2000, ?_⟩
  unfold laws_FnExactHoursOf.f
  rw [szShift_is l hm]
  simp only [Option.bind_some]
  by_cases h : l.length > 1048576
  · rw [if_pos h, if_pos (by omega)]
  · obtain ⟨r, h1, h2⟩ := hours_both (l.map cvShift) (l.length + 2000) (by simp; omega) (by simp)
    rw [if_neg h, if_neg (by omega), toShift_is l _ hl (by omega)]
    simp only [Option.bind_some, h1, h2]
    rw [eqShift_is _ _ (by simp; omega) (by simp)]
    simp
theorem FnExactRestBetween : laws_FnExactRestBetween.Pure := by
  intro l hm hl hw
  refine ⟨l.length + 2000, ?_⟩
  unfold laws_FnExactRestBetween.f
  rw [szShift_is l hm]
  simp only [Option.bind_some]
  by_cases h : l.length > 1048576
  · rw [if_pos h, if_pos (by omega)]
  · obtain ⟨r, h1, h2⟩ := rest_both (l.map cvShift) (l.length + 2000) (by simp; omega) (by simp)
    rw [if_neg h, if_neg (by omega), toShift_is l _ hl (by omega)]
    simp only [Option.bind_some, h1, h2]
    rw [eqShift_is _ _ (by simp; omega) (by simp)]
    simp
theorem FnExactNightHours : laws_FnExactNightHours.Pure := by
  intro l hm hl hw
  refine ⟨l.length + 2000, ?_⟩
  unfold laws_FnExactNightHours.f
  rw [szShift_is l hm]
  simp only [Option.bind_some]
  by_cases h : l.length > 1048576
  · rw [if_pos h, if_pos (by omega)]
  · obtain ⟨r, h1, h2⟩ := night_both (l.map cvShift) (l.length + 2000) (by simp; omega) (by simp)
    rw [if_neg h, if_neg (by omega), toShift_is l _ hl (by omega)]
    simp only [Option.bind_some, h1, h2]
    rw [eqShift_is _ _ (by simp; omega) (by simp)]
    simp
theorem FnExactIsAllowed : laws_FnExactIsAllowed.Pure := by
  intro l a b hm hl hw _ _
  refine ⟨l.length + 2000, ?_⟩
  unfold laws_FnExactIsAllowed.f
  rw [szShift_is l hm]
  simp only [Option.bind_some]
  by_cases h : l.length > 1048576
  · rw [if_pos h, if_pos (by omega)]
  · obtain ⟨r, h1, h2⟩ := allowed_both (l.map cvShift) a b (l.length + 2000) (by simp; omega) (by simp)
    rw [if_neg h, if_neg (by omega), toShift_is l _ hl (by omega)]
    simp only [Option.bind_some, h1, h2]
    rw [eqShift_is _ _ (by simp; omega) (by simp)]
    simp
end Go.Proofs.Ytdlolekpdophcaa.Pure
