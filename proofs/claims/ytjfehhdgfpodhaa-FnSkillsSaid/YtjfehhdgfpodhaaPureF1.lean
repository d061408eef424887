/- Skills: valid, and the order in which they are learned. -/
import Derived.Test.YtjfehhdgfpodhaaInts
namespace Go.Proofs.Ytjfehhdgfpodhaa.Pure
set_option linter.unusedVariables false
set_option linter.unusedSimpArgs false
open Go.RowKit Go.Proofs.Ytjfehhdgfpodhaa.PFL Go.Proofs.Ytjfehhdgfpodhaa.Base Go.Proofs.YtjfehhdgfpodhaaW.PrintWords Go.Proofs.YtjfehhdgfpodhaaW.PrintLast

abbrev Sk := S34
abbrev SkL := S54
def cvSk (x : SkL) : Sk := ⟨x.f0, x.f1⟩
theorem rdL (xs : List SkL) (i : Nat) (h : i < xs.length) : rd_T54 xs (i : Int) = xs[i] := by simp [rd_T54, h]
theorem rdI (xs : List Sk) (i : Nat) (h : i < xs.length) : rd_T34 xs (i : Int) = xs[i] := by simp [rd_T34, h]
theorem sz_l (l : List SkL) (hm : ∀ x ∈ l, x.f0.length ≤ maxLen) (hb : l.length ≤ 9223372036854775800) : ∀ (d k n : Nat) (a : Int), n + d = l.length → d < k → 0 ≤ a → a ≤ 1048576 →
    ∃ r, laws_szSkillS.l0 k l a (n : Int) = some r ∧ (0 ≤ r → ∀ j (hj : j < l.length), n ≤ j → l[j].f0.length ≤ 1048576) := by
  intro d
  induction d with
  | zero =>
    intro k n a hn hk h0 h1
    obtain ⟨k, rfl⟩ : ∃ m, k = m + 1 := ⟨k - 1, by omega⟩
    simp only [laws_szSkillS.l0]
    rw [if_neg (by omega)]
    exact ⟨_, rfl, fun _ j hj hnj => absurd hj (by omega)⟩
  | succ d ih =>
    intro k n a hn hk h0 h1
    obtain ⟨k, rfl⟩ : ∃ m, k = m + 1 := ⟨k - 1, by omega⟩
    have hn' : n < l.length := by omega
    have hx := hm l[n] (List.getElem_mem hn')
    simp only [maxLen] at hx
    simp only [laws_szSkillS.l0, laws_szSkill.f, laws_szIntS.f, rdL l n hn']
    rw [if_pos (by omega), if_pos (by omega), w64 (by omega) (by omega), wn n (by omega)]
    by_cases hneg : a - (l[n].f0.length : Int) < 0
    · exact ⟨-1, by simp [hneg], fun h => absurd h (by omega)⟩
    · obtain ⟨r, g1, g2⟩ := ih k (n + 1) (a - (l[n].f0.length : Int)) (by omega) (by omega) (by omega) (by omega)
      refine ⟨r, by rw [if_neg hneg]; simp only [Option.bind_some]; rw [if_neg hneg]; simp only [Option.bind_some]; rw [if_neg hneg]; exact g1, fun h j hj hnj => ?_⟩
      by_cases e : j = n
      · subst e; omega
      · exact g2 h j hj (by omega)
theorem sz_is (l : List SkL) (k : Nat) (hl : l.length ≤ maxLen) (hm : ∀ x ∈ l, x.f0.length ≤ maxLen) (hk : l.length < k) : ∃ r, laws_szSkillS.f k l 1048576 = some r ∧ (0 ≤ r → l.length ≤ 1048576 ∧ ∀ x ∈ l, x.f0.length ≤ 1048576) := by
  simp only [maxLen] at hl
  unfold laws_szSkillS.f
  rw [w64 (by omega) (by omega)]
  by_cases h : (1048576 : Int) - (l.length : Int) < 0
  · rw [if_pos h]
    exact ⟨-1, rfl, fun h => absurd h (by omega)⟩
  · rw [if_neg h]
    obtain ⟨r, g1, g2⟩ := sz_l l hm (by omega) l.length k 0 _ (by omega) hk (by omega) (show (1048576 : Int) - (l.length : Int) ≤ 1048576 by omega)
    refine ⟨r, g1, fun h0 => ⟨by omega, fun x hx => ?_⟩⟩
    obtain ⟨i, hi, rfl⟩ := List.getElem_of_mem hx
    exact g2 h0 i hi (Nat.zero_le _)
theorem toSk_l (a : List SkL) (hm : ∀ x ∈ a, x.f0.length ≤ 1048576) (hb : a.length ≤ 9223372036854775800) : ∀ (d : Nat) (k n : Nat) (x : List Sk), n + d = a.length → d + 1048577 < k → x.length = a.length → (∀ j, j < n → x[j]? = (a.map cvSk)[j]?) → laws_toSkillS.l0 k a x (n : Int) = some (a.map cvSk) := by
  intro d
  induction d with
  | zero =>
    intro k n x hn hk hx hj
    obtain ⟨k, rfl⟩ : ∃ m, k = m + 1 := ⟨k - 1, by omega⟩
    simp only [laws_toSkillS.l0]
    rw [if_neg (by omega)]
    congr 1
    apply List.ext_getElem?
    intro j
    by_cases h : j < n
    · exact hj j h
    · rw [List.getElem?_eq_none (by omega), List.getElem?_eq_none (by rw [List.length_map]; omega)]
  | succ d ih =>
    intro k n x hn hk hx hj
    obtain ⟨k, rfl⟩ : ∃ m, k = m + 1 := ⟨k - 1, by omega⟩
    have hn' : n < a.length := by omega
    have hq := hm a[n] (List.getElem_mem hn')
    simp only [laws_toSkillS.l0, laws_toSkill.f, rdL a n hn']
    rw [if_pos (by omega), if_pos (by omega), toInts _ k (by omega) (by omega)]
    simp only [Option.bind_some]
    rw [if_pos (by omega), wn n (by omega)]
    refine ih k (n + 1) _ (by omega) (by omega) (by simp [hx]) (fun j hjn => ?_)
    by_cases e : j = n
    · subst e
      simp [hx, show j < a.length by omega, cvSk]
    · rw [show ((n : Int)).toNat = n by omega, List.getElem?_set_ne (by omega)]
      exact hj j (by omega)
theorem toSk_is (a : List SkL) (k : Nat) (ha : a.length ≤ 1048576) (hm : ∀ x ∈ a, x.f0.length ≤ 1048576) (hk : a.length + 1048577 < k) : laws_toSkillS.f k a = some (a.map cvSk) := by
  unfold laws_toSkillS.f
  rw [if_pos (by omega), if_pos (by omega)]
  have := toSk_l a hm (by omega) a.length k 0 (List.replicate a.length z34) (by omega) hk (by simp) (fun j h => absurd h (by omega))
  simpa using this
theorem eqSk_l (a : List Sk) (hm : ∀ x ∈ a, x.f0.length ≤ 1048576) (hb : a.length ≤ 9223372036854775800) : ∀ (d : Nat) (k n : Nat), n + d = a.length → d + 1048577 < k → laws_eqSkillS.l0 k a a (n : Int) = some true := by
  intro d
  induction d with
  | zero =>
    intro k n hn hk
    obtain ⟨k, rfl⟩ : ∃ m, k = m + 1 := ⟨k - 1, by omega⟩
    simp only [laws_eqSkillS.l0]
    rw [if_neg (by omega)]
  | succ d ih =>
    intro k n hn hk
    obtain ⟨k, rfl⟩ : ∃ m, k = m + 1 := ⟨k - 1, by omega⟩
    have hn' : n < a.length := by omega
    have hq := hm a[n] (List.getElem_mem hn')
    simp only [laws_eqSkillS.l0, laws_eqSkill.f, rdI a n hn']
    rw [if_pos (by omega), if_pos (by omega), if_pos (by omega), eqInts _ _ k (by omega) (by omega), wn n (by omega)]
    simp only [decide_true, Option.bind_some, if_true]
    exact ih k (n + 1) (by omega) (by omega)
theorem eqSk_is (a : List Sk) (k : Nat) (ha : a.length ≤ 1048576) (hm : ∀ x ∈ a, x.f0.length ≤ 1048576) (hk : a.length + 1048577 < k) : laws_eqSkillS.f k a a = some true := by
  unfold laws_eqSkillS.f
  rw [if_pos rfl]
  exact eqSk_l a hm (by omega) a.length k 0 (by omega) hk

/-! ### words of numbers -/
theorem has_l (l : List Int) (a : Int) (hb : l.length ≤ 9223372036854775800) : ∀ (d k n : Nat), n + d = l.length → d < k → spec_l17Has.l0 k l a (n : Int) = some ((l.drop n).contains a) := by
  intro d
  induction d with
  | zero =>
    intro k n hn hk
    obtain ⟨k, rfl⟩ : ∃ m, k = m + 1 := ⟨k - 1, by omega⟩
    simp only [spec_l17Has.l0]
    rw [if_neg (by omega), List.drop_of_length_le (by omega)]
    rfl
  | succ d ih =>
    intro k n hn hk
    obtain ⟨k, rfl⟩ : ∃ m, k = m + 1 := ⟨k - 1, by omega⟩
    have hn' : n < l.length := by omega
    simp only [spec_l17Has.l0]
    rw [if_pos (by omega), if_pos (by omega), rd_get l n hn', wn n (by omega), ih k (n + 1) (by omega) (by omega), List.drop_eq_getElem_cons hn', List.contains_cons]
    by_cases e : l[n] = a
    · rw [if_pos e, e]; simp
    · rw [if_neg e]
      have : (a == l[n]) = false := by simp; exact fun h => e h.symm
      rw [this]; simp
theorem has_is (l : List Int) (a : Int) (k : Nat) (hb : l.length ≤ 9223372036854775800) (hk : l.length < k) : spec_l17Has.f k l a = some (l.contains a) := by
  have := has_l l a hb l.length k 0 (by omega) hk
  simpa [spec_l17Has.f] using this
def Up (l : List Int) (n : Nat) : Prop := ∀ j (hj : j < l.length), n ≤ j → ∀ h : 0 < j, l[j - 1] < l[j]
theorem up_step (l : List Int) (n : Nat) (hn : n < l.length) : Up l n ↔ (∀ h : 0 < n, l[n - 1] < l[n]) ∧ Up l (n + 1) := by
  constructor
  · intro h
    exact ⟨h n hn (Nat.le_refl _), fun j hj hnj => h j hj (by omega)⟩
  · rintro ⟨h1, h2⟩ j hj hnj
    by_cases e : j = n
    · subst e; exact h1
    · exact h2 j hj (by omega)
theorem up_end (l : List Int) (n : Nat) (hn : l.length ≤ n) : Up l n := fun j hj hnj => absurd hj (by omega)
theorem rising_l (l : List Int) (a b : Int) (hb : l.length ≤ 9223372036854775800) : ∀ (d k n : Nat), n + d = l.length → d < k →
    ∃ r, spec_l20Rising.l0 k l a b (n : Int) = some r ∧ (r = true ↔ (∀ x ∈ l.drop n, a ≤ x ∧ x ≤ b) ∧ Up l n) := by
  intro d
  induction d with
  | zero =>
    intro k n hn hk
    obtain ⟨k, rfl⟩ : ∃ m, k = m + 1 := ⟨k - 1, by omega⟩
    simp only [spec_l20Rising.l0]
    rw [if_neg (by omega), List.drop_of_length_le (by omega)]
    exact ⟨true, rfl, by simp [up_end l n (by omega)]⟩
  | succ d ih =>
    intro k n hn hk
    obtain ⟨k, rfl⟩ : ∃ m, k = m + 1 := ⟨k - 1, by omega⟩
    have hn' : n < l.length := by omega
    obtain ⟨r, g1, g2⟩ := ih k (n + 1) (by omega) (by omega)
    simp only [spec_l20Rising.l0, rd_get l n hn', spec_in, Option.bind_some]
    rw [if_pos (by omega), if_pos (by omega), wn n (by omega)]
    have key : ((∀ x ∈ l.drop n, a ≤ x ∧ x ≤ b) ∧ Up l n) ↔ ((a ≤ l[n] ∧ l[n] ≤ b) ∧ (∀ h : 0 < n, l[n - 1] < l[n])) ∧ r = true := by
      rw [g2, up_step l n hn', List.drop_eq_getElem_cons hn']
      simp only [List.mem_cons, forall_eq_or_imp]
      exact ⟨fun ⟨⟨h1, h2⟩, h3, h4⟩ => ⟨⟨h1, h3⟩, h2, h4⟩, fun ⟨⟨h1, h3⟩, h2, h4⟩ => ⟨⟨h1, h2⟩, h3, h4⟩⟩
    rw [key]
    cases hi : inB a b l[n] with
    | false =>
      rw [inB_false] at hi
      exact ⟨false, by simp, by simp [hi]⟩
    | true =>
      rw [inB_iff] at hi
      simp only [if_true]
      by_cases h0 : (n : Int) > 0
      · have hw : wrap64 ((n : Int) - 1) = ((n - 1 : Nat) : Int) := by rw [w64 (by omega) (by omega)]; omega
        rw [if_pos h0, hw, if_pos (by omega), if_pos (by omega), rd_get l (n - 1) (by omega)]
        by_cases hlt : l[n] ≤ l[n - 1]
        · rw [if_pos hlt]
          refine ⟨false, rfl, ?_⟩
          constructor
          · intro h; cases h
          · rintro ⟨⟨_, h⟩, _⟩
            have := h (by omega)
            omega
        · rw [if_neg hlt]
          refine ⟨r, g1, ?_⟩
          exact ⟨fun h => ⟨⟨hi, fun _ => by omega⟩, h⟩, fun h => h.2⟩
      · rw [if_neg h0]
        refine ⟨r, g1, ?_⟩
        exact ⟨fun h => ⟨⟨hi, fun h => absurd h (by omega)⟩, h⟩, fun h => h.2⟩
theorem ascending_l (l : List Int) (m : Int) (hb : l.length ≤ 9223372036854775800) : ∀ (d k n : Nat), n + d = l.length → d < k →
    ∃ r, impl_ascending.l0 k l m l (l.length : Int) (n : Int) = some r ∧ (r = true ↔ (∀ x ∈ l, 0 ≤ x ∧ x ≤ wrap64 (m - 1)) ∧ Up l n) := by
  intro d
  induction d with
  | zero =>
    intro k n hn hk
    obtain ⟨k, rfl⟩ : ∃ m, k = m + 1 := ⟨k - 1, by omega⟩
    simp only [impl_ascending.l0, impl_allIn.f, Option.bind_some]
    rw [if_neg (by omega)]
    refine ⟨_, rfl, ?_⟩
    rw [List.all_eq_true]
    exact ⟨fun h => ⟨fun x hx => (inB_iff _ _ _).1 (h x hx), up_end l n (by omega)⟩, fun h x hx => (inB_iff _ _ _).2 (h.1 x hx)⟩
  | succ d ih =>
    intro k n hn hk
    obtain ⟨k, rfl⟩ : ∃ m, k = m + 1 := ⟨k - 1, by omega⟩
    have hn' : n < l.length := by omega
    obtain ⟨r, g1, g2⟩ := ih k (n + 1) (by omega) (by omega)
    simp only [impl_ascending.l0, rd_get l n hn']
    rw [if_pos (by omega), if_pos (by omega), if_pos (by omega), wn n (by omega)]
    rw [up_step l n hn']
    by_cases h0 : (n : Int) > 0
    · have hw : wrap64 ((n : Int) - 1) = ((n - 1 : Nat) : Int) := by rw [w64 (by omega) (by omega)]; omega
      rw [if_pos h0, hw, if_pos (by omega), if_pos (by omega), rd_get l (n - 1) (by omega)]
      by_cases hlt : l[n - 1] ≥ l[n]
      · rw [if_pos hlt]
        refine ⟨false, rfl, ?_⟩
        constructor
        · intro h; cases h
        · rintro ⟨_, h, _⟩
          have := h (by omega)
          omega
      · rw [if_neg hlt]
        refine ⟨r, g1, g2.trans ?_⟩
        exact ⟨fun h => ⟨h.1, fun _ => by omega, h.2⟩, fun h => ⟨h.1, h.2.2⟩⟩
    · rw [if_neg h0]
      refine ⟨r, g1, g2.trans ?_⟩
      exact ⟨fun h => ⟨h.1, fun h => absurd h (by omega), h.2⟩, fun h => ⟨h.1, h.2.2⟩⟩
/-- Strictly ascending indices below n. -/
def Asc (n : Nat) (l : List Int) : Prop := (∀ x ∈ l, 0 ≤ x ∧ x < (n : Int)) ∧ Up l 0
theorem asc_both (l : List Int) (n k : Nat) (hn : n ≤ 1048576) (hb : l.length ≤ 9223372036854775800) (hk : l.length < k) :
    ∃ r, spec_l20Rising.f k l 0 (wrap64 ((n : Int) - 1)) = some r ∧ impl_ascending.f k l (n : Int) = some r ∧ (r = true ↔ Asc n l) := by
  obtain ⟨r, g1, g2⟩ := rising_l l 0 (wrap64 ((n : Int) - 1)) hb l.length k 0 (by omega) hk
  obtain ⟨r', g1', g2'⟩ := ascending_l l n hb l.length k 0 (by omega) hk
  rw [List.drop_zero] at g2
  have e : r = r' := Bool.eq_iff_iff.2 (g2.trans g2'.symm)
  subst e
  refine ⟨r, g1, g1', g2.trans ?_⟩
  rw [w64 (by omega) (by omega)]
  exact ⟨fun h => ⟨fun x hx => by have := h.1 x hx; omega, h.2⟩, fun h => ⟨fun x hx => by have := h.1 x hx; omega, h.2⟩⟩
end Go.Proofs.Ytjfehhdgfpodhaa.Pure
