/- Baskets: what the laws share. -/
import Derived.Test.YtkgigoefmpkngaaInts
import Derived.Test.YtkgigoefmpkngaaPCPx5
import Derived.Laws.BitsLemmas
namespace Go.Proofs.Ytkgigoefmpkngaa.Pure
set_option linter.unusedVariables false
set_option linter.unusedSimpArgs false
open Go.RowKit Go.Proofs.Ytkgigoefmpkngaa.PCP Go.Proofs.Ytkgigoefmpkngaa.Base Go.Proofs.YtkgigoefmpkngaaW.PrintWords Go.Proofs.YtkgigoefmpkngaaW.PrintLast

abbrev Bk := S49
abbrev BkL := S51
def cvBk (x : BkL) : Bk := ⟨x.f0⟩
theorem rdL (xs : List BkL) (i : Nat) (h : i < xs.length) : rd_T51 xs (i : Int) = xs[i] := by simp [rd_T51, h]
theorem rdI (xs : List Bk) (i : Nat) (h : i < xs.length) : rd_T49 xs (i : Int) = xs[i] := by simp [rd_T49, h]
theorem sz_l (l : List BkL) (hm : ∀ x ∈ l, x.f0.length ≤ maxLen) (hb : l.length ≤ 9223372036854775800) : ∀ (d k n : Nat) (a : Int), n + d = l.length → d < k → 0 ≤ a → a ≤ 1048576 →
    ∃ r, laws_szBasketS.l0 k l a (n : Int) = some r ∧ (0 ≤ r → ∀ j (hj : j < l.length), n ≤ j → l[j].f0.length ≤ 1048576) := by
  intro d
  induction d with
  | zero =>
    intro k n a hn hk h0 h1
    obtain ⟨k, rfl⟩ : ∃ m, k = m + 1 := ⟨k - 1, by omega⟩
    simp only [laws_szBasketS.l0]
    rw [if_neg (by omega)]
    exact ⟨_, rfl, fun _ j hj hnj => absurd hj (by omega)⟩
  | succ d ih =>
    intro k n a hn hk h0 h1
    obtain ⟨k, rfl⟩ : ∃ m, k = m + 1 := ⟨k - 1, by omega⟩
    have hn' : n < l.length := by omega
    have hx := hm l[n] (List.getElem_mem hn')
    simp only [maxLen] at hx
    simp only [laws_szBasketS.l0, laws_szBasket.f, laws_szIntS.f, rdL l n hn']
    rw [if_pos (by omega), if_pos (by omega), w64 (by omega) (by omega), wn n (by omega)]
    by_cases hneg : a - (l[n].f0.length : Int) < 0
    · exact ⟨-1, by simp [hneg], fun h => absurd h (by omega)⟩
    · obtain ⟨r, g1, g2⟩ := ih k (n + 1) (a - (l[n].f0.length : Int)) (by omega) (by omega) (by omega) (by omega)
      refine ⟨r, by rw [if_neg hneg]; simp only [Option.bind_some]; rw [if_neg hneg]; simp only [Option.bind_some]; rw [if_neg hneg]; exact g1, fun h j hj hnj => ?_⟩
      by_cases e : j = n
      · subst e; omega
      · exact g2 h j hj (by omega)
theorem sz_is (l : List BkL) (k : Nat) (hl : l.length ≤ maxLen) (hm : ∀ x ∈ l, x.f0.length ≤ maxLen) (hk : l.length < k) : ∃ r, laws_szBasketS.f k l 1048576 = some r ∧ (0 ≤ r → l.length ≤ 1048576 ∧ ∀ x ∈ l, x.f0.length ≤ 1048576) := by
  simp only [maxLen] at hl
  unfold laws_szBasketS.f
  rw [w64 (by omega) (by omega)]
  by_cases h : (1048576 : Int) - (l.length : Int) < 0
  · rw [if_pos h]
    exact ⟨-1, rfl, fun h => absurd h (by omega)⟩
  · rw [if_neg h]
    obtain ⟨r, g1, g2⟩ := sz_l l hm (by omega) l.length k 0 _ (by omega) hk (by omega) (show (1048576 : Int) - (l.length : Int) ≤ 1048576 by omega)
    refine ⟨r, g1, fun h0 => ⟨by omega, fun x hx => ?_⟩⟩
    obtain ⟨i, hi, rfl⟩ := List.getElem_of_mem hx
    exact g2 h0 i hi (Nat.zero_le _)
theorem toBk_l (a : List BkL) (hm : ∀ x ∈ a, x.f0.length ≤ 1048576) (hb : a.length ≤ 9223372036854775800) : ∀ (d : Nat) (k n : Nat) (x : List Bk), n + d = a.length → d + 1048577 < k → x.length = a.length → (∀ j, j < n → x[j]? = (a.map cvBk)[j]?) → laws_toBasketS.l0 k a x (n : Int) = some (a.map cvBk) := by
  intro d
  induction d with
  | zero =>
    intro k n x hn hk hx hj
    obtain ⟨k, rfl⟩ : ∃ m, k = m + 1 := ⟨k - 1, by omega⟩
    simp only [laws_toBasketS.l0]
    rw [if_neg (by omega)]
    congr 1
    apply List.ext_getElem?
    intro j
    by_cases h : j < n
    · exact hj j h
    · rw [List.getElem?_eq_none (by omega), List.getElem?_eq_none (by rw [List.length_map]; omega)]
  | succ d ih =>
    intro k n x hn hk hx hj
    obtain ⟨k, rfl⟩ : ∃ m, k = m + 1 := ⟨k - 1, by omega⟩
    have hn' : n < a.length := by omega
    have hq := hm a[n] (List.getElem_mem hn')
    simp only [laws_toBasketS.l0, laws_toBasket.f, rdL a n hn']
    rw [if_pos (by omega), if_pos (by omega), toInts _ k (by omega) (by omega)]
    simp only [Option.bind_some]
    rw [if_pos (by omega), wn n (by omega)]
    refine ih k (n + 1) _ (by omega) (by omega) (by simp [hx]) (fun j hjn => ?_)
    by_cases e : j = n
    · subst e
      simp [hx, show j < a.length by omega, cvBk]
    · rw [show ((n : Int)).toNat = n by omega, List.getElem?_set_ne (by omega)]
      exact hj j (by omega)
theorem toBk_is (a : List BkL) (k : Nat) (ha : a.length ≤ 1048576) (hm : ∀ x ∈ a, x.f0.length ≤ 1048576) (hk : a.length + 1048577 < k) : laws_toBasketS.f k a = some (a.map cvBk) := by
  unfold laws_toBasketS.f
  rw [if_pos (by omega), if_pos (by omega)]
  have := toBk_l a hm (by omega) a.length k 0 (List.replicate a.length z49) (by omega) hk (by simp) (fun j h => absurd h (by omega))
  simpa using this
theorem eqBk_l (a : List Bk) (hm : ∀ x ∈ a, x.f0.length ≤ 1048576) (hb : a.length ≤ 9223372036854775800) : ∀ (d : Nat) (k n : Nat), n + d = a.length → d + 1048577 < k → laws_eqBasketS.l0 k a a (n : Int) = some true := by
  intro d
  induction d with
  | zero =>
    intro k n hn hk
    obtain ⟨k, rfl⟩ : ∃ m, k = m + 1 := ⟨k - 1, by omega⟩
    simp only [laws_eqBasketS.l0]
    rw [if_neg (by omega)]
  | succ d ih =>
    intro k n hn hk
    obtain ⟨k, rfl⟩ : ∃ m, k = m + 1 := ⟨k - 1, by omega⟩
    have hn' : n < a.length := by omega
    have hq := hm a[n] (List.getElem_mem hn')
    simp only [laws_eqBasketS.l0, laws_eqBasket.f, rdI a n hn']
    rw [if_pos (by omega), if_pos (by omega), if_pos (by omega), eqInts _ _ k (by omega) (by omega), wn n (by omega)]
    simp only [decide_true, Option.bind_some, if_true]
    exact ih k (n + 1) (by omega) (by omega)
theorem eqBk_is (a : List Bk) (k : Nat) (ha : a.length ≤ 1048576) (hm : ∀ x ∈ a, x.f0.length ≤ 1048576) (hk : a.length + 1048577 < k) : laws_eqBasketS.f k a a = some true := by
  unfold laws_eqBasketS.f
  rw [if_pos rfl]
  exact eqBk_l a hm (by omega) a.length k 0 (by omega) hk

/-! ### words of numbers -/
def Up (l : List Int) (n : Nat) : Prop := ∀ j (hj : j < l.length), n ≤ j → ∀ h : 0 < j, l[j - 1] < l[j]
theorem up_step (l : List Int) (n : Nat) (hn : n < l.length) : Up l n ↔ (∀ h : 0 < n, l[n - 1] < l[n]) ∧ Up l (n + 1) := by
  constructor
  · intro h
    exact ⟨h n hn (Nat.le_refl _), fun j hj hnj => h j hj (by omega)⟩
  · rintro ⟨h1, h2⟩ j hj hnj
    by_cases e : j = n
    · subst e; exact h1
    · exact h2 j hj (by omega)
theorem up_end (l : List Int) (n : Nat) (hn : l.length ≤ n) : Up l n := fun j hj hnj => absurd hj (by omega)
theorem rising_l (l : List Int) (a b : Int) (hb : l.length ≤ 9223372036854775800) : ∀ (d k n : Nat), n + d = l.length → d < k →
    ∃ r, spec_l20Rising.l0 k l a b (n : Int) = some r ∧ (r = true ↔ (∀ x ∈ l.drop n, a ≤ x ∧ x ≤ b) ∧ Up l n) := by
  intro d
  induction d with
  | zero =>
    intro k n hn hk
    obtain ⟨k, rfl⟩ : ∃ m, k = m + 1 := ⟨k - 1, by omega⟩
    simp only [spec_l20Rising.l0]
    rw [if_neg (by omega), List.drop_of_length_le (by omega)]
    exact ⟨true, rfl, by simp [up_end l n (by omega)]⟩
  | succ d ih =>
    intro k n hn hk
    obtain ⟨k, rfl⟩ : ∃ m, k = m + 1 := ⟨k - 1, by omega⟩
    have hn' : n < l.length := by omega
    obtain ⟨r, g1, g2⟩ := ih k (n + 1) (by omega) (by omega)
    simp only [spec_l20Rising.l0, rd_get l n hn', spec_in, Option.bind_some]
    rw [if_pos (by omega), if_pos (by omega), wn n (by omega)]
    have key : ((∀ x ∈ l.drop n, a ≤ x ∧ x ≤ b) ∧ Up l n) ↔ ((a ≤ l[n] ∧ l[n] ≤ b) ∧ (∀ h : 0 < n, l[n - 1] < l[n])) ∧ r = true := by
      rw [g2, up_step l n hn', List.drop_eq_getElem_cons hn']
      simp only [List.mem_cons, forall_eq_or_imp]
      exact ⟨fun ⟨⟨h1, h2⟩, h3, h4⟩ => ⟨⟨h1, h3⟩, h2, h4⟩, fun ⟨⟨h1, h3⟩, h2, h4⟩ => ⟨⟨h1, h2⟩, h3, h4⟩⟩
    rw [key]
    cases hi : inB a b l[n] with
    | false =>
      rw [inB_false] at hi
      exact ⟨false, by simp, by simp [hi]⟩
    | true =>
      rw [inB_iff] at hi
      simp only [if_true]
      by_cases h0 : (n : Int) > 0
      · have hw : wrap64 ((n : Int) - 1) = ((n - 1 : Nat) : Int) := by rw [w64 (by omega) (by omega)]; omega
        rw [if_pos h0, hw, if_pos (by omega), if_pos (by omega), rd_get l (n - 1) (by omega)]
        by_cases hlt : l[n] ≤ l[n - 1]
        · rw [if_pos hlt]
          refine ⟨false, rfl, ?_⟩
          constructor
          · intro h; cases h
          · rintro ⟨⟨_, h⟩, _⟩
            have := h (by omega)
            omega
        · rw [if_neg hlt]
          refine ⟨r, g1, ?_⟩
          exact ⟨fun h => ⟨⟨hi, fun _ => by omega⟩, h⟩, fun h => h.2⟩
      · rw [if_neg h0]
        refine ⟨r, g1, ?_⟩
        exact ⟨fun h => ⟨⟨hi, fun h => absurd h (by omega)⟩, h⟩, fun h => h.2⟩
theorem things_l (l : List Int) (hb : l.length ≤ 9223372036854775800) : ∀ (d k n : Nat), n + d = l.length → d < k →
    ∃ r, impl_areThings.l0 k l l (l.length : Int) (n : Int) = some r ∧ (r = true ↔ (∀ x ∈ l, 1 ≤ x ∧ x ≤ 9) ∧ Up l n) := by
  intro d
  induction d with
  | zero =>
    intro k n hn hk
    obtain ⟨k, rfl⟩ : ∃ m, k = m + 1 := ⟨k - 1, by omega⟩
    simp only [impl_areThings.l0, impl_allIn.f, Option.bind_some]
    rw [if_neg (by omega)]
    refine ⟨_, rfl, ?_⟩
    rw [List.all_eq_true]
    exact ⟨fun h => ⟨fun x hx => (inB_iff _ _ _).1 (h x hx), up_end l n (by omega)⟩, fun h x hx => (inB_iff _ _ _).2 (h.1 x hx)⟩
  | succ d ih =>
    intro k n hn hk
    obtain ⟨k, rfl⟩ : ∃ m, k = m + 1 := ⟨k - 1, by omega⟩
    have hn' : n < l.length := by omega
    obtain ⟨r, g1, g2⟩ := ih k (n + 1) (by omega) (by omega)
    simp only [impl_areThings.l0, rd_get l n hn']
    rw [if_pos (by omega), if_pos (by omega), if_pos (by omega), wn n (by omega)]
    rw [up_step l n hn']
    by_cases h0 : (n : Int) > 0
    · have hw : wrap64 ((n : Int) - 1) = ((n - 1 : Nat) : Int) := by rw [w64 (by omega) (by omega)]; omega
      rw [if_pos h0, hw, if_pos (by omega), if_pos (by omega), rd_get l (n - 1) (by omega)]
      by_cases hlt : l[n - 1] ≥ l[n]
      · rw [if_pos hlt]
        refine ⟨false, rfl, ?_⟩
        constructor
        · intro h; cases h
        · rintro ⟨_, h, _⟩
          have := h (by omega)
          omega
      · rw [if_neg hlt]
        refine ⟨r, g1, g2.trans ?_⟩
        exact ⟨fun h => ⟨h.1, fun _ => by omega, h.2⟩, fun h => ⟨h.1, h.2.2⟩⟩
    · rw [if_neg h0]
      refine ⟨r, g1, g2.trans ?_⟩
      exact ⟨fun h => ⟨h.1, fun h => absurd h (by omega), h.2⟩, fun h => ⟨h.1, h.2.2⟩⟩
/-- Strictly ascending things. -/
def Th (l : List Int) : Prop := (∀ x ∈ l, 1 ≤ x ∧ x ≤ 9) ∧ Up l 0
theorem th_both (l : List Int) (k : Nat) (hb : l.length ≤ 9223372036854775800) (hk : l.length < k) :
    ∃ r, spec_l20Rising.f k l 1 9 = some r ∧ impl_areThings.f k l = some r ∧ (r = true ↔ Th l) := by
  obtain ⟨r, g1, g2⟩ := rising_l l 1 9 hb l.length k 0 (by omega) hk
  obtain ⟨r', g1', g2'⟩ := things_l l hb l.length k 0 (by omega) hk
  rw [List.drop_zero] at g2
  have e : r = r' := Bool.eq_iff_iff.2 (g2.trans g2'.symm)
  subst e
  exact ⟨r, g1, g1', g2⟩
def Okb (l : List Bk) : Prop := l.length ≤ 30 ∧ ∀ b ∈ l, Th b.f0
theorem spec_ok_l (l : List Bk) (hs : l.length ≤ 1048576) (hn : ∀ s ∈ l, s.f0.length ≤ 1048576) : ∀ (d k n : Nat), n + d = l.length → d + 1048577 < k → (∀ j (hj : j < l.length), j < n → Th l[j].f0) →
    ∃ r, spec_BasketsOk.l0 k l (n : Int) = some r ∧ (r = true ↔ Okb l) := by
  intro d
  induction d with
  | zero =>
    intro k n hnn hk hp
    obtain ⟨k, rfl⟩ : ∃ m, k = m + 1 := ⟨k - 1, by omega⟩
    simp only [spec_BasketsOk.l0]
    rw [if_neg (by omega)]
    refine ⟨_, rfl, ?_⟩
    rw [decide_eq_true_eq]
    refine ⟨fun h => ⟨by omega, fun s hsm => ?_⟩, fun h => by have := h.1; omega⟩
    obtain ⟨i, hi, rfl⟩ := List.getElem_of_mem hsm
    exact hp i hi (by omega)
  | succ d ih =>
    intro k n hnn hk hp
    obtain ⟨k, rfl⟩ : ∃ m, k = m + 1 := ⟨k - 1, by omega⟩
    have hn' : n < l.length := by omega
    have hq := hn l[n] (List.getElem_mem hn')
    obtain ⟨ra, ga, _, ha⟩ := th_both l[n].f0 k (by omega) (by omega)
    simp only [spec_BasketsOk.l0, rdI l n hn', Option.bind_some, ga]
    rw [if_pos (by omega), if_pos (by omega), wn n (by omega)]
    cases ra with
    | false =>
      refine ⟨false, by simp, fun h => (by cases h), fun h => ?_⟩
      exact absurd (ha.2 (h.2 _ (List.getElem_mem hn'))) (by simp)
    | true =>
      simp only [if_true]
      refine ih k (n + 1) (by omega) (by omega) (fun j hj hjn => ?_)
      by_cases e : j = n
      · subst e; exact ha.1 rfl
      · exact hp j hj (by omega)
theorem impl_ok (l : List Bk) (hn : ∀ s ∈ l, s.f0.length ≤ 1048576) (k : Nat) (hk : 1048577 < k) : ∃ r, impl_BasketsOk.f k l = some r ∧ (r = true ↔ Okb l) := by
  unfold impl_BasketsOk.f
  by_cases hl : l.length ≤ 30
  · have hs : ∀ b ∈ l, (impl_areThings.f k b.f0).isSome = true := fun b hb => by
      have hq := hn b hb
      obtain ⟨r, _, g, _⟩ := th_both b.f0 k (by omega) (by omega)
      rw [g]; rfl
    rw [if_pos hl, if_pos hs]
    refine ⟨_, rfl, ?_⟩
    rw [List.all_eq_true]
    refine ⟨fun h => ⟨hl, fun b hb => ?_⟩, fun h b hb => ?_⟩
    · have hq := hn b hb
      obtain ⟨r, _, g, hr⟩ := th_both b.f0 k (by omega) (by omega)
      have := h b hb
      rw [g] at this
      cases r with
      | true => exact hr.1 rfl
      | false => cases this
    · have hq := hn b hb
      obtain ⟨r, _, g, hr⟩ := th_both b.f0 k (by omega) (by omega)
      rw [g, hr.2 (h.2 b hb)]
      rfl
  · rw [if_neg hl]
    exact ⟨false, rfl, fun h => (by cases h), fun h => absurd h.1 hl⟩
theorem ok_both (l : List Bk) (hs : l.length ≤ 1048576) (hn : ∀ s ∈ l, s.f0.length ≤ 1048576) (k : Nat) (hk : l.length + 1048577 < k) : ∃ r, spec_BasketsOk.f k l = some r ∧ impl_BasketsOk.f k l = some r := by
  obtain ⟨r, g1, g2⟩ := spec_ok_l l hs hn l.length k 0 (by omega) hk (fun j _ h => absurd h (by omega))
  obtain ⟨r', g1', g2'⟩ := impl_ok l hn k (by omega)
  have e : r = r' := Bool.eq_iff_iff.2 (g2.trans g2'.symm)
  subst e
  exact ⟨r, g1, g1'⟩
/-- The laws' size check passed, a body that holds in some rounds. -/
theorem frame (l : List BkL) (hl : l.length ≤ maxLen) (hw : ∀ x ∈ l, wfS51 x) (G : Nat → Option Bool) (h : l.length ≤ 1048576 → (∀ x ∈ l, x.f0.length ≤ 1048576) → ∃ k, l.length < k ∧ G k = some true) :
    ∃ k, ((laws_szBasketS.f k l 1048576).bind fun t => if t < 0 then some true else G k) = some true := by
  by_cases hA : l.length ≤ 1048576 ∧ ∀ x ∈ l, x.f0.length ≤ 1048576
  · obtain ⟨k, hk, hG⟩ := h hA.1 hA.2
    obtain ⟨r, g, _⟩ := sz_is l k hl (fun x hx => (hw x hx).1) hk
    refine ⟨k, ?_⟩
    rw [g, Option.bind_some]
    split
    · rfl
    · exact hG
  · obtain ⟨r, g, hr⟩ := sz_is l (l.length + 1) hl (fun x hx => (hw x hx).1) (by omega)
    refine ⟨l.length + 1, ?_⟩
    rw [g, Option.bind_some, if_pos]
    rcases Int.lt_or_le r 0 with h0 | h0
    · exact h0
    · exact absurd (hr h0) hA
theorem map_short (l : List BkL) (h : ∀ x ∈ l, x.f0.length ≤ 1048576) : ∀ s ∈ l.map cvBk, s.f0.length ≤ 1048576 := by
  intro s hs
  obtain ⟨x, hx, rfl⟩ := List.mem_map.1 hs
  exact h x hx

theorem shl_nat (n : Nat) (h : n ≤ 10) : shl .i64 1 (n : Int) = ((2 ^ n : Nat) : Int) := by
  have : ∀ m : Fin 11, shl .i64 1 (m.val : Int) = ((2 ^ m.val : Nat) : Int) := by decide
  exact this ⟨n, by omega⟩
theorem bv_nat (x : Nat) (h : x < 4611686018427387904) : (BitVec.ofInt 64 (x : Int)).toNat = x := by
  rw [BitVec.ofInt_natCast, BitVec.toNat_ofNat, Nat.mod_eq_of_lt (by omega)]
theorem and_nat (x y : Nat) (hx : x < 4611686018427387904) (hy : y < 4611686018427387904) : Go.bits .and .i64 (x : Int) (y : Int) = ((x &&& y : Nat) : Int) := by
  have e : Go.bits .and .i64 (x : Int) (y : Int) = IntKind.wrap .i64 (((BitVec.ofInt 64 (x : Int) &&& BitVec.ofInt 64 (y : Int)).toNat : Nat) : Int) := rfl
  have h : x &&& y ≤ x := Nat.and_le_left
  rw [e, BitVec.toNat_and, bv_nat x hx, bv_nat y hy, IntKind.wrap_i64]
  omega
theorem or_nat (x y : Nat) (hx : x < 2 ^ 10) (hy : y < 2 ^ 10) : Go.bits .or .i64 (x : Int) (y : Int) = ((x ||| y : Nat) : Int) := by
  have e : Go.bits .or .i64 (x : Int) (y : Int) = IntKind.wrap .i64 (((BitVec.ofInt 64 (x : Int) ||| BitVec.ofInt 64 (y : Int)).toNat : Nat) : Int) := rfl
  have h : x ||| y < 2 ^ 10 := Nat.or_lt_two_pow hx hy
  rw [e, BitVec.toNat_or, bv_nat x (by omega), bv_nat y (by omega), IntKind.wrap_i64]
  omega
def setN : List Int → Nat → Nat
  | [], s => s
  | x :: xs, s => setN xs (s ||| 2 ^ x.toNat)
theorem setN_bit : ∀ (l : List Int) (s i : Nat), (∀ x ∈ l, 0 ≤ x) → ((setN l s).testBit i = true ↔ s.testBit i = true ∨ (i : Int) ∈ l)
  | [], s, i, _ => by simp [setN]
  | x :: xs, s, i, h => by
    have hx := h x (by simp)
    simp only [setN]
    rw [setN_bit xs _ i (fun y hy => h y (by simp [hy])), Nat.testBit_or, Nat.testBit_two_pow, Bool.or_eq_true, decide_eq_true_eq, List.mem_cons]
    have : x.toNat = i ↔ (i : Int) = x := by omega
    rw [this, or_assoc]
theorem setN_lt : ∀ (l : List Int) (s : Nat), (∀ x ∈ l, 1 ≤ x ∧ x ≤ 9) → s < 2 ^ 10 → setN l s < 2 ^ 10
  | [], s, _, hs => hs
  | x :: xs, s, h, hs => by
    have hx := h x (by simp)
    exact setN_lt xs _ (fun y hy => h y (by simp [hy])) (Nat.or_lt_two_pow hs (Nat.pow_lt_pow_right (by omega) (by omega)))
theorem set_l (l : List Int) (h : ∀ x ∈ l, 1 ≤ x ∧ x ≤ 9) (hb : l.length ≤ 9223372036854775800) : ∀ (d k n s : Nat), n + d = l.length → d < k → s < 2 ^ 10 → spec_l20Set.l0 k l (s : Int) (n : Int) = some ((setN (l.drop n) s : Nat) : Int) := by
  intro d
  induction d with
  | zero =>
    intro k n s hn hk hs
    obtain ⟨k, rfl⟩ : ∃ m, k = m + 1 := ⟨k - 1, by omega⟩
    simp only [spec_l20Set.l0]
    rw [if_neg (by omega), List.drop_of_length_le (by omega)]
    rfl
  | succ d ih =>
    intro k n s hn hk hs
    obtain ⟨k, rfl⟩ : ∃ m, k = m + 1 := ⟨k - 1, by omega⟩
    have hn' : n < l.length := by omega
    have hx := h l[n] (List.getElem_mem hn')
    obtain ⟨X, hX⟩ : ∃ X : Nat, l[n] = (X : Int) := ⟨l[n].toNat, by omega⟩
    have hp : 2 ^ X < 2 ^ 10 := Nat.pow_lt_pow_right (by omega) (by omega)
    simp only [spec_l20Set.l0, rd_get l n hn', hX, shl_nat X (by omega), or_nat s (2 ^ X) hs hp]
    rw [if_pos (by omega), if_pos (by omega), if_pos (by omega), wn n (by omega), ih k (n + 1) _ (by omega) (by omega) (Nat.or_lt_two_pow hs hp), List.drop_eq_getElem_cons hn', hX]
    simp only [setN, Int.toNat_natCast]
theorem set_is (l : List Int) (h : ∀ x ∈ l, 1 ≤ x ∧ x ≤ 9) (k : Nat) (hb : l.length ≤ 9223372036854775800) (hk : l.length < k) : spec_l20Set.f k l = some ((setN l 0 : Nat) : Int) := by
  have := set_l l h hb l.length k 0 0 (by omega) hk (by omega)
  rw [List.drop_zero] at this
  exact this
theorem set_holds (l1 : List Int) (b : Bk) (h1 : ∀ x ∈ l1, 1 ≤ x ∧ x ≤ 9) (h2 : ∀ x ∈ b.f0, 1 ≤ x ∧ x ≤ 9) : setN b.f0 0 &&& setN l1 0 = setN l1 0 ↔ holdsAll l1 b = true := by
  have e : holdsAll l1 b = true ↔ ∀ x ∈ l1, x ∈ b.f0 := by
    unfold holdsAll
    simp
  have p1 : ∀ x ∈ l1, 0 ≤ x := fun x hx => by have := h1 x hx; omega
  have p2 : ∀ x ∈ b.f0, 0 ≤ x := fun x hx => by have := h2 x hx; omega
  rw [e]
  constructor
  · intro h x hx
    have hx1 := h1 x hx
    have hb : (setN l1 0).testBit x.toNat = true := (setN_bit l1 0 _ p1).2 (Or.inr (by rw [show ((x.toNat : Nat) : Int) = x by omega]; exact hx))
    rw [← h, Nat.testBit_and, Bool.and_eq_true] at hb
    have := (setN_bit b.f0 0 _ p2).1 hb.1
    rw [show ((x.toNat : Nat) : Int) = x by omega] at this
    simpa using this
  · intro h
    apply Nat.eq_of_testBit_eq
    intro i
    rw [Nat.testBit_and, Bool.eq_iff_iff, Bool.and_eq_true, setN_bit l1 0 _ p1, setN_bit b.f0 0 _ p2]
    simp only [Nat.zero_testBit, Bool.false_eq_true, false_or]
    exact ⟨fun q => q.2, fun q => ⟨h _ q, q⟩⟩
theorem count_l (l : List Bk) (l1 : List Int) (h1 : ∀ x ∈ l1, 1 ≤ x ∧ x ≤ 9) (ho : ∀ b ∈ l, ∀ x ∈ b.f0, 1 ≤ x ∧ x ≤ 9) (hl : l.length ≤ 30) (hn : ∀ s ∈ l, s.f0.length ≤ 1048576) :
    ∀ (d k n c : Nat), n + d = l.length → d + 1048577 < k → c ≤ n → spec_l20Count.l0 k l ((setN l1 0 : Nat) : Int) (c : Int) (n : Int) = some ((c + (l.drop n).countP (holdsAll l1) : Nat) : Int) := by
  intro d
  induction d with
  | zero =>
    intro k n c hnn hk hc
    obtain ⟨k, rfl⟩ : ∃ m, k = m + 1 := ⟨k - 1, by omega⟩
    simp only [spec_l20Count.l0]
    rw [if_neg (by omega), List.drop_of_length_le (by omega)]
    simp
  | succ d ih =>
    intro k n c hnn hk hc
    obtain ⟨k, rfl⟩ : ∃ m, k = m + 1 := ⟨k - 1, by omega⟩
    have hn' : n < l.length := by omega
    have hq := hn l[n] (List.getElem_mem hn')
    have hx := ho l[n] (List.getElem_mem hn')
    have b1 := setN_lt l[n].f0 0 hx (by omega)
    have b2 := setN_lt l1 0 h1 (by omega)
    have key := set_holds l1 l[n] h1 hx
    simp only [spec_l20Count.l0, rdI l n hn', set_is l[n].f0 hx k (by omega) (by omega), Option.bind_some, and_nat _ _ (show setN l[n].f0 0 < 4611686018427387904 by omega) (show setN l1 0 < 4611686018427387904 by omega)]
    rw [if_pos (by omega), if_pos (by omega), wn n (by omega), wn c (by omega), List.drop_eq_getElem_cons hn', List.countP_cons]
    by_cases hh : holdsAll l1 l[n] = true
    · rw [if_pos (by rw [key.2 hh]), if_pos hh, ih k (n + 1) (c + 1) (by omega) (by omega) (by omega)]
      congr 2
      omega
    · rw [if_neg (fun q => hh (key.1 (by omega))), if_neg hh, ih k (n + 1) c (by omega) (by omega) (by omega)]
      congr 2
theorem cw (l : List Bk) (T : List Int) (hs : l.length ≤ 1048576) (hn : ∀ s ∈ l, s.f0.length ≤ 1048576) (hO : Okb l) (hT : Th T) (hl : T.length ≤ 1048578) (k : Nat) (hk : l.length + 1048580 < k) :
    impl_CountWith.f k l T = some ((l.countP (holdsAll T) : Nat) : Int) ∧ spec_l20Count.f k l ((setN T 0 : Nat) : Int) = some ((l.countP (holdsAll T) : Nat) : Int) := by
  obtain ⟨r, g2, hr⟩ := impl_ok l hn k (by omega)
  obtain rfl : r = true := hr.2 hO
  obtain ⟨q, _, t2, hq⟩ := th_both T k (by omega) (by omega)
  obtain rfl : q = true := hq.2 hT
  constructor
  · unfold impl_CountWith.f
    rw [g2]
    simp only [Option.bind_some, if_true, t2]
  · have := count_l l T hT.1 (fun b hb => (hO.2 b hb).1) hO.1 hn l.length k 0 0 (by omega) (by omega) (Nat.le_refl _)
    rw [List.drop_zero, Nat.zero_add] at this
    exact this
theorem bt_is (x i : Nat) (hx : x < 4611686018427387904) (hi : i ≤ 63) : Go.bits .and .i64 (shr .i64 (x : Int) (i : Int)) 1 = if x.testBit i then 1 else 0 := by
  have e : shr .i64 (x : Int) (i : Int) = ((x / 2 ^ i : Nat) : Int) := by
    unfold shr
    rw [Int.toNat_natCast, show IntKind.i64.bits = 64 from rfl, Nat.min_eq_left (by omega)]
    simp
  have h : x / 2 ^ i ≤ x := Nat.div_le_self _ _
  rw [e]
  have := and_nat (x / 2 ^ i) 1 (by omega) (by omega)
  rw [Nat.and_one_is_mod] at this
  refine this.trans ?_
  rw [Nat.testBit_eq_decide_div_mod_eq]
  by_cases q : x / 2 ^ i % 2 = 1
  · simp [q]
  · have : x / 2 ^ i % 2 = 0 := by omega
    simp [this]
end Go.Proofs.Ytkgigoefmpkngaa.Pure
