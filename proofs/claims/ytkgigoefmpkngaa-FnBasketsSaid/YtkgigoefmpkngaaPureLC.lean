/- The largest common set of things: both say the same. -/
import Derived.Test.YtkgigoefmpkngaaPureBk
namespace Go.Proofs.Ytkgigoefmpkngaa.Pure
set_option linter.unusedVariables false
set_option linter.unusedSimpArgs false
open Go.RowKit Go.Proofs.Ytkgigoefmpkngaa.PCL Go.Proofs.Ytkgigoefmpkngaa.Base Go.Proofs.YtkgigoefmpkngaaW.PrintWords Go.Proofs.YtkgigoefmpkngaaW.PrintLast

theorem markBk (k : Nat) (hk : 1048576 < k) : ∀ (l : List Bk) (m : Int), (∀ s ∈ l, s.f0.length ≤ 1048576) → 0 ≤ m → m + 1048577 * (l.length : Int) ≤ 1152921504606846976 → ∃ r, laws_markBasketS.f k l m = some r ∧ 0 ≤ r ∧ r ≤ m + 1048577 * (l.length : Int)
  | [], m, _, h0, _ => ⟨m, rfl, h0, by simp⟩
  | s :: l, m, hn, h0, h1 => by
    have hs := hn s (by simp)
    rw [List.length_cons] at h1
    obtain ⟨r, g1, g2, g3⟩ := markBk k hk l (m + (s.f0.length : Int)) (fun t ht => hn t (by simp [ht])) (by omega) (by omega)
    refine ⟨r, ?_, g2, by rw [List.length_cons]; omega⟩
    simp only [laws_markBasketS.f]
    rw [markInts s.f0 k m (by omega) (by omega) (by omega) (by omega), Option.bind_some]
    exact g1
theorem bit_two (b n : Nat) : (2 * b).testBit n = (decide (1 ≤ n) && b.testBit (n - 1)) := by
  cases n with
  | zero => simp [Nat.testBit_zero]
  | succ n => rw [Nat.testBit_succ, Nat.mul_div_cancel_left b (by omega)]; simp
/-- The things of a number's bits, from thing n on. -/
def bitsF (b : Nat) : Nat → Nat → List Int
  | 0, _ => []
  | d + 1, n => if b.testBit (n - 1) = true then (n : Int) :: bitsF b d (n + 1) else bitsF b d (n + 1)
def bitsL (b : Nat) : List Int := bitsF b 9 1
theorem bitsF_len (b : Nat) : ∀ (d n : Nat), (bitsF b d n).length ≤ d
  | 0, _ => by simp [bitsF]
  | d + 1, n => by
    have := bitsF_len b d (n + 1)
    simp only [bitsF]
    split
    · simp; omega
    · omega
theorem bitsF_mem (b : Nat) : ∀ (d n : Nat) (x : Int), x ∈ bitsF b d n ↔ ((n : Int) ≤ x ∧ x < ((n + d : Nat) : Int) ∧ b.testBit (x.toNat - 1) = true)
  | 0, n, x => by
    simp only [bitsF, List.not_mem_nil, false_iff]
    rintro ⟨h1, h2, _⟩
    omega
  | d + 1, n, x => by
    have ih := bitsF_mem b d (n + 1) x
    simp only [bitsF]
    split
    · rename_i hf
      rw [List.mem_cons, ih]
      constructor
      · rintro (h | ⟨h1, h2, h3⟩)
        · subst h; exact ⟨by omega, by omega, by rw [Int.toNat_natCast]; exact hf⟩
        · exact ⟨by omega, by omega, h3⟩
      · rintro ⟨h1, h2, h3⟩
        by_cases e : x = (n : Int)
        · exact Or.inl e
        · exact Or.inr ⟨by omega, by omega, h3⟩
    · rename_i hf
      rw [ih]
      constructor
      · rintro ⟨h1, h2, h3⟩
        exact ⟨by omega, by omega, h3⟩
      · rintro ⟨h1, h2, h3⟩
        by_cases e : x = (n : Int)
        · subst e; rw [Int.toNat_natCast] at h3; exact absurd h3 hf
        · exact ⟨by omega, by omega, h3⟩
theorem bitsF_up (b : Nat) : ∀ (d n : Nat), (bitsF b d n).Pairwise (· < ·)
  | 0, _ => List.Pairwise.nil
  | d + 1, n => by
    simp only [bitsF]
    split
    · refine List.pairwise_cons.2 ⟨fun x hx => ?_, bitsF_up b d (n + 1)⟩
      have := ((bitsF_mem b d (n + 1) x).1 hx).1
      omega
    · exact bitsF_up b d (n + 1)
theorem bits_th (b : Nat) : Th (bitsL b) :=
  ⟨fun x hx => by have := (bitsF_mem b 9 1 x).1 hx; omega, fun j hj _ h0 => List.pairwise_iff_getElem.1 (bitsF_up b 9 1) (j - 1) j (by have : (bitsL b).length = (bitsF b 9 1).length := rfl; omega) hj (by omega)⟩
theorem bitsL_len (b : Nat) : (bitsL b).length ≤ 9 := bitsF_len b 9 1
theorem bits_set (b : Nat) (hb : b < 512) : setN (bitsL b) 0 = 2 * b := by
  apply Nat.eq_of_testBit_eq
  intro i
  rw [Bool.eq_iff_iff, setN_bit _ 0 i (fun x hx => by have := (bits_th b).1 x hx; omega)]
  unfold bitsL
  rw [bitsF_mem, Int.toNat_natCast]
  simp only [Nat.zero_testBit, Bool.false_eq_true, false_or]
  rw [bit_two, Bool.and_eq_true, decide_eq_true_eq]
  constructor
  · rintro ⟨h1, h2, h3⟩
    exact ⟨by omega, h3⟩
  · rintro ⟨h1, h2⟩
    refine ⟨by omega, ?_, h2⟩
    rcases Nat.lt_or_ge i 10 with q | q
    · omega
    · have h9 : 2 ^ 9 ≤ 2 ^ (i - 1) := Nat.pow_le_pow_right (by omega) (by omega)
      have : b < 2 ^ (i - 1) := Nat.lt_of_lt_of_le (show b < 2 ^ 9 by omega) h9
      rw [Nat.testBit_lt_two_pow this] at h2
      cases h2
/-! ### the reference's list of a set; the program's -/
theorem sbits_l (b : Nat) (hb : b < 512) : ∀ (d n k : Nat) (x : List Int), n + d = 10 → 1 ≤ n → d < k → x.length ≤ n → spec_l20Bits.l0 k ((2 * b : Nat) : Int) x (n : Int) = some (x ++ bitsF b d n) := by
  intro d
  induction d with
  | zero =>
    intro n k x hn h1 hk hx
    obtain ⟨k, rfl⟩ : ∃ m, k = m + 1 := ⟨k - 1, by omega⟩
    simp only [spec_l20Bits.l0]
    rw [if_neg (by omega)]
    simp [bitsF]
  | succ d ih =>
    intro n k x hn h1 hk hx
    obtain ⟨k, rfl⟩ : ∃ m, k = m + 1 := ⟨k - 1, by omega⟩
    have e : (2 * b).testBit n = b.testBit (n - 1) := by
      rw [bit_two, decide_eq_true h1, Bool.true_and]
    simp only [spec_l20Bits.l0]
    rw [if_pos (by omega), if_pos (by omega), bt_is (2 * b) n (by omega) (by omega), e, wn n (by omega)]
    simp only [bitsF]
    by_cases q : b.testBit (n - 1) = true
    · rw [if_pos q, if_pos rfl, if_pos (by omega), if_pos q, ih (n + 1) k _ (by omega) (by omega) (by omega) (by simp; omega)]
      simp
    · rw [if_neg q, if_neg (by decide), if_neg q, ih (n + 1) k _ (by omega) (by omega) (by omega) (by omega)]
theorem sbits (b : Nat) (hb : b < 512) (k : Nat) (hk : 10 ≤ k) : spec_l20Bits.f k ((2 * b : Nat) : Int) = some (bitsL b) := by
  have := sbits_l b hb 9 1 k [] rfl (Nat.le_refl _) (by omega) (by simp)
  rw [List.nil_append] at this
  exact this
/-- Less, of lists of one length. -/
def lessL : List Int → List Int → Bool
  | a :: xs, b :: ys => if a = b then lessL xs ys else decide (a < b)
  | _, _ => false
theorem less_l (a b : List Int) (hl : a.length = b.length) (hb : a.length ≤ 1000) : ∀ (d n k : Nat), n + d = a.length → d < k → spec_l20Less.l0 k a b (n : Int) = some (lessL (a.drop n) (b.drop n)) := by
  intro d
  induction d with
  | zero =>
    intro n k hn hk
    obtain ⟨k, rfl⟩ : ∃ m, k = m + 1 := ⟨k - 1, by omega⟩
    simp only [spec_l20Less.l0]
    rw [if_neg (by omega), List.drop_of_length_le (by omega)]
    rfl
  | succ d ih =>
    intro n k hn hk
    obtain ⟨k, rfl⟩ : ∃ m, k = m + 1 := ⟨k - 1, by omega⟩
    simp only [spec_l20Less.l0]
    rw [if_pos (by omega), if_pos (by omega), if_pos (by omega), rd_get a n (by omega), rd_get b n (by omega), wn n (by omega), List.drop_eq_getElem_cons (show n < a.length by omega), List.drop_eq_getElem_cons (show n < b.length by omega), ih (n + 1) k (by omega) (by omega)]
    simp only [lessL]
    split <;> rfl
theorem cmp_l (a b : List Int) (hl : a.length = b.length) (hb : a.length ≤ 1000) : ∀ (d n k : Nat), n + d = a.length → d < k → ∃ c, slices_Compare_int_int.l0 k a b a (a.length : Int) (n : Int) = some c ∧ (c < 0 ↔ lessL (a.drop n) (b.drop n) = true) := by
  intro d
  induction d with
  | zero =>
    intro n k hn hk
    obtain ⟨k, rfl⟩ : ∃ m, k = m + 1 := ⟨k - 1, by omega⟩
    refine ⟨0, ?_, ?_⟩
    · simp only [slices_Compare_int_int.l0]
      rw [if_neg (by omega), if_neg (by omega)]
    · rw [List.drop_of_length_le (by omega)]
      simp [lessL]
  | succ d ih =>
    intro n k hn hk
    obtain ⟨k, rfl⟩ : ∃ m, k = m + 1 := ⟨k - 1, by omega⟩
    have hna : n < a.length := by omega
    have hnb : n < b.length := by omega
    obtain ⟨c, g1, g2⟩ := ih (n + 1) k (by omega) (by omega)
    simp only [slices_Compare_int_int.l0, cmp_Compare_int.f, cmp_isNaN_int.f, Option.bind_some, bne_self_eq_false, Bool.false_eq_true, if_false]
    rw [if_pos (by omega), if_pos (by omega), if_pos (by omega), if_neg (by omega), if_pos (by omega), rd_get a n hna, rd_get b n hnb, wn n (by omega), List.drop_eq_getElem_cons hna, List.drop_eq_getElem_cons hnb]
    simp only [lessL]
    by_cases e : a[n] = b[n]
    · rw [if_neg (by omega), if_neg (by omega), Option.bind_some, if_pos rfl, if_pos e]
      exact ⟨c, g1, g2⟩
    · rw [if_neg e]
      by_cases q : a[n] < b[n]
      · rw [if_pos q, Option.bind_some, if_neg (by omega)]
        exact ⟨-1, rfl, by simp [q]⟩
      · rw [if_neg q, if_pos (by omega), Option.bind_some, if_neg (by omega)]
        exact ⟨1, rfl, by simp [q]⟩
theorem less_is (a b : List Int) (hl : a.length = b.length) (hb : a.length ≤ 1000) (k : Nat) (hk : 1000 < k) : spec_l20Less.f k a b = some (lessL a b) := by
  have := less_l a b hl hb a.length 0 k (Nat.zero_add _) (by omega)
  rw [List.drop_zero, List.drop_zero] at this
  exact this
theorem cmp_is (a b : List Int) (hl : a.length = b.length) (hb : a.length ≤ 1000) (k : Nat) (hk : 1000 < k) : ∃ c, slices_Compare_int_int.f k a b = some c ∧ (c < 0 ↔ lessL a b = true) := by
  have := cmp_l a b hl hb a.length 0 k (Nat.zero_add _) (by omega)
  rw [List.drop_zero, List.drop_zero] at this
  exact this
/-! ### one set after another -/
def cntB (l : List Bk) (b : Nat) : Int := ((l.countP (holdsAll (bitsL b)) : Nat) : Int)
/-- The best, set b being looked at. -/
def stepB (l : List Bk) (least : Int) (best : List Int) (b : Nat) : List Int :=
  if (bitsL b).length < best.length ∨ cntB l b < least then best
  else if best.length < (bitsL b).length ∨ lessL (bitsL b) best = true then bitsL b else best
theorem stepB_len (l : List Bk) (least : Int) (best : List Int) (b : Nat) (h : best.length ≤ 9) : (stepB l least best b).length ≤ 9 := by
  have := bitsL_len b
  unfold stepB
  split
  · exact h
  · split <;> omega
def allB (l : List Bk) (least : Int) : Nat → Nat → List Int → List Int
  | 0, _, best => best
  | d + 1, b, best => allB l least d (b + 1) (stepB l least best b)
theorem allB_len (l : List Bk) (least : Int) : ∀ (d b : Nat) (best : List Int), best.length ≤ 9 → (allB l least d b best).length ≤ 9
  | 0, _, best, h => h
  | d + 1, b, best, h => allB_len l least d (b + 1) _ (stepB_len l least best b h)
theorem cnt_both (l : List Bk) (hs : l.length ≤ 1048576) (hn : ∀ s ∈ l, s.f0.length ≤ 1048576) (hO : Okb l) (b : Nat) (hb : b < 512) (k : Nat) (hk : 2097200 < k) : impl_CountWith.f k l (bitsL b) = some (cntB l b) ∧ spec_l20Count.f k l ((2 * b : Nat) : Int) = some (cntB l b) := by
  have hlb := bitsL_len b
  have := cw l (bitsL b) hs hn hO (bits_th b) (by omega) k (by omega)
  rw [bits_set b hb] at this
  exact this
theorem lc_spec (l : List Bk) (hs : l.length ≤ 1048576) (hn : ∀ s ∈ l, s.f0.length ≤ 1048576) (hO : Okb l) (least : Int) : ∀ (d b : Nat) (best : List Int), b + d = 512 → best.length ≤ 9 → Ev (fun k => spec_LargestCommon.l0 k l least best ((2 * b : Nat) : Int)) (allB l least d b best) := by
  intro d
  induction d with
  | zero =>
    intro b best hb hl
    refine ⟨1, fun k hk => ?_⟩
    obtain ⟨k, rfl⟩ : ∃ m, k = m + 1 := ⟨k - 1, by omega⟩
    simp only [spec_LargestCommon.l0]
    rw [if_neg (by omega)]
    rfl
  | succ d ih =>
    intro b best hb hl
    obtain ⟨K, h⟩ := ih (b + 1) (stepB l least best b) (by omega) (stepB_len l least best b hl)
    have hlb := bitsL_len b
    refine ⟨K + 2097300, fun k hk => ?_⟩
    obtain ⟨k, rfl⟩ : ∃ m, k = m + 1 := ⟨k - 1, by omega⟩
    obtain ⟨k, rfl⟩ : ∃ m, k = m + 1 := ⟨k - 1, by omega⟩
    have h' := h k (by omega)
    simp only at h'
    have e2 : wrap64 (((2 * b : Nat) : Int) + 2) = ((2 * (b + 1) : Nat) : Int) := by rw [w64 (by omega) (by omega)]; omega
    simp only [spec_LargestCommon.l0]
    rw [if_pos (by omega), sbits b (by omega) (k + 1) (by omega), Option.bind_some]
    simp only [spec_LargestCommon.j2, e2, allB]
    by_cases c1 : (bitsL b).length < best.length
    · have hst : stepB l least best b = best := by unfold stepB; rw [if_pos (Or.inl c1)]
      rw [hst] at h' ⊢
      rw [if_pos (by omega), if_pos trivial]
      exact h'
    · rw [if_neg (by omega), (cnt_both l hs hn hO b (by omega) (k + 1) (by omega)).2, Option.bind_some]
      by_cases c2 : cntB l b < least
      · have hst : stepB l least best b = best := by unfold stepB; rw [if_pos (Or.inr c2)]
        rw [hst] at h' ⊢
        rw [if_pos (decide_eq_true c2)]
        exact h'
      · have hst : stepB l least best b = if best.length < (bitsL b).length ∨ lessL (bitsL b) best = true then bitsL b else best := by unfold stepB; rw [if_neg (fun h => h.elim c1 c2)]
        rw [if_neg (by simp; omega)]
        by_cases c3 : best.length < (bitsL b).length
        · rw [if_pos (Or.inl c3)] at hst
          rw [hst] at h' ⊢
          rw [if_pos (by omega)]
          exact h'
        · rw [if_neg (by omega), less_is (bitsL b) best (by omega) (by omega) k (by omega), Option.bind_some]
          by_cases c4 : lessL (bitsL b) best = true
          · rw [if_pos (Or.inr c4)] at hst
            rw [hst] at h' ⊢
            rw [if_pos c4]
            exact h'
          · rw [if_neg (fun h => h.elim c3 c4)] at hst
            rw [hst] at h' ⊢
            rw [if_neg c4]
            exact h'
theorem lc_j3 (l : List Bk) (hs : l.length ≤ 1048576) (hn : ∀ s ∈ l, s.f0.length ≤ 1048576) (hO : Okb l) (least : Int) (b : Nat) (hb : b < 512) (best : List Int) (hl : best.length ≤ 9) (k : Nat) (hk : 1100 < k) (R : List Int) (h : impl_LargestCommon.l0 k l least (if best.length < (bitsL b).length ∨ lessL (bitsL b) best = true then bitsL b else best) ((b + 1 : Nat) : Int) = some R) (hlen : ¬ (bitsL b).length < best.length) :
    impl_LargestCommon.j3 (k + 1) l least best (bitsL b) (b : Int) false = some R := by
  have hlb := bitsL_len b
  simp only [impl_LargestCommon.j3]
  rw [if_neg (by simp), wn b (by omega)]
  by_cases c3 : best.length < (bitsL b).length
  · rw [if_pos (Or.inl c3)] at h
    rw [if_pos (by omega)]
    exact h
  · obtain ⟨c, g1, g2⟩ := cmp_is (bitsL b) best (by omega) (by omega) k (by omega)
    rw [if_neg (by omega), g1, Option.bind_some]
    by_cases c4 : lessL (bitsL b) best = true
    · rw [if_pos (Or.inr c4)] at h
      rw [if_pos (g2.2 c4)]
      exact h
    · rw [if_neg (fun h => h.elim c3 c4)] at h
      rw [if_neg (fun q => c4 (g2.1 q))]
      exact h
theorem lc_i1 (l : List Bk) (hs : l.length ≤ 1048576) (hn : ∀ s ∈ l, s.f0.length ≤ 1048576) (hO : Okb l) (least : Int) (b : Nat) (hb : b < 512) (best : List Int) (hl : best.length ≤ 9) (K : Nat) (R : List Int) (h : ∀ k, K ≤ k → impl_LargestCommon.l0 k l least (if b = 0 then best else stepB l least best b) ((b + 1 : Nat) : Int) = some R) :
    ∀ (d n k : Nat) (x : List Int), n + d = 10 → 1 ≤ n → K + 2097300 + d ≤ k → x ++ bitsF b d n = bitsL b → x.length ≤ n → impl_LargestCommon.l1 k l least best (b : Int) x (n : Int) (b : Int) = some R := by
  have hlb := bitsL_len b
  intro d
  induction d with
  | zero =>
    intro n k x hnd h1 hk hx hxl
    simp only [bitsF, List.append_nil] at hx
    subst hx
    obtain ⟨k, rfl⟩ : ∃ m, k = m + 1 := ⟨k - 1, by omega⟩
    obtain ⟨k, rfl⟩ : ∃ m, k = m + 1 := ⟨k - 1, by omega⟩
    have h' := h k (by omega)
    simp only [impl_LargestCommon.l1]
    rw [if_neg (by omega)]
    by_cases c0 : (bitsL b).length = 0
    · have hb0 : b = 0 := by
        have e := bits_set b hb
        rw [List.eq_nil_of_length_eq_zero c0] at e
        simp only [setN] at e
        omega
      rw [if_pos hb0] at h'
      rw [if_pos (by omega)]
      simp only [impl_LargestCommon.j3]
      rw [if_pos trivial, wn b (by omega)]
      exact h'
    · have hb0 : b ≠ 0 := fun e => c0 (by subst e; rfl)
      rw [if_neg hb0] at h'
      unfold stepB at h'
      rw [if_neg (by omega)]
      by_cases c1 : (bitsL b).length < best.length
      · rw [if_pos (Or.inl c1)] at h'
        rw [if_pos (by omega)]
        simp only [impl_LargestCommon.j3]
        rw [if_pos trivial, wn b (by omega)]
        exact h'
      · rw [if_neg (by omega), (cnt_both l hs hn hO b hb (k + 1) (by omega)).1, Option.bind_some]
        by_cases c2 : cntB l b < least
        · rw [if_pos (Or.inr c2)] at h'
          rw [decide_eq_true c2]
          simp only [impl_LargestCommon.j3]
          rw [if_pos trivial, wn b (by omega)]
          exact h'
        · rw [if_neg (fun h => h.elim c1 c2)] at h'
          rw [decide_eq_false c2]
          exact lc_j3 l hs hn hO least b hb best hl k (by omega) R h' c1
  | succ d ih =>
    intro n k x hnd h1 hk hx hxl
    obtain ⟨k, rfl⟩ : ∃ m, k = m + 1 := ⟨k - 1, by omega⟩
    have e1 : wrap64 ((n : Int) - 1) = ((n - 1 : Nat) : Int) := by rw [w64 (by omega) (by omega)]; omega
    simp only [impl_LargestCommon.l1, e1]
    rw [if_pos (by omega), if_pos (by omega), bt_is b (n - 1) (by omega) (by omega), wn n (by omega)]
    simp only [bitsF] at hx
    by_cases q : b.testBit (n - 1) = true
    · rw [if_pos q] at hx
      rw [if_pos q, if_pos rfl, if_pos (by omega)]
      exact ih (n + 1) k _ (by omega) (by omega) (by omega) (by simpa using hx) (by simp; omega)
    · rw [if_neg q] at hx
      rw [if_neg q, if_neg (by decide)]
      exact ih (n + 1) k _ (by omega) (by omega) (by omega) hx (by omega)
theorem lc_impl (l : List Bk) (hs : l.length ≤ 1048576) (hn : ∀ s ∈ l, s.f0.length ≤ 1048576) (hO : Okb l) (least : Int) : ∀ (d b : Nat) (best : List Int), b + d = 512 → 1 ≤ b → best.length ≤ 9 → Ev (fun k => impl_LargestCommon.l0 k l least best (b : Int)) (allB l least d b best) := by
  intro d
  induction d with
  | zero =>
    intro b best hb h1 hl
    refine ⟨1, fun k hk => ?_⟩
    obtain ⟨k, rfl⟩ : ∃ m, k = m + 1 := ⟨k - 1, by omega⟩
    simp only [impl_LargestCommon.l0]
    rw [if_neg (by omega)]
    rfl
  | succ d ih =>
    intro b best hb h1 hl
    obtain ⟨K, h⟩ := ih (b + 1) (stepB l least best b) (by omega) (by omega) (stepB_len l least best b hl)
    refine ⟨K + 2097400, fun k hk => ?_⟩
    obtain ⟨k, rfl⟩ : ∃ m, k = m + 1 := ⟨k - 1, by omega⟩
    simp only [impl_LargestCommon.l0]
    rw [if_pos (by omega)]
    refine lc_i1 l hs hn hO least b (by omega) best hl K _ (fun k hk => ?_) 9 1 k [] rfl (Nat.le_refl _) (by omega) (List.nil_append _) (by simp)
    rw [if_neg (by omega)]
    exact h k hk
def lcV (l : List Bk) (least : Int) : List Int := allB l least 511 1 []
theorem lc_both (l : List Bk) (least : Int) (hs : l.length ≤ 1048576) (hn : ∀ s ∈ l, s.f0.length ≤ 1048576) : ∃ K v, (∀ k, K ≤ k → spec_LargestCommon.f k l least = some v ∧ impl_LargestCommon.f k l least = some v) ∧ v.length ≤ 9 ∧ (Okb l → 1 ≤ least → least ≤ 30 → v = lcV l least) := by
  obtain ⟨q, hq⟩ : ∃ q : Bool, q = true ↔ Okb l := by
    obtain ⟨r, _, h⟩ := impl_ok l hn 1048578 (by omega)
    exact ⟨r, h⟩
  have hA : ∀ k, l.length + 1048577 < k → spec_BasketsOk.f k l = some q ∧ impl_BasketsOk.f k l = some q := fun k hk => by
    obtain ⟨r, g1, g2⟩ := ok_both l hs hn k hk
    obtain ⟨r', g3, hr⟩ := impl_ok l hn k (by omega)
    rw [g2] at g3
    obtain rfl := Option.some.inj g3
    have e : r = q := Bool.eq_iff_iff.2 (hr.trans hq.symm)
    rw [g1, g2, e]
    exact ⟨rfl, rfl⟩
  cases q with
  | false =>
    refine ⟨l.length + 1048579, [], fun k hk => ?_, by simp, fun h => absurd (hq.2 h) (by simp)⟩
    have h1 := hA k (by omega)
    obtain ⟨k, rfl⟩ : ∃ m, k = m + 1 := ⟨k - 1, by omega⟩
    simp [spec_LargestCommon.f, impl_LargestCommon.f, h1.1, h1.2, spec_LargestCommon.j0, impl_LargestCommon.j0]
  | true =>
    have hO := hq.1 rfl
    cases hi : inB 1 30 least with
    | false =>
      refine ⟨l.length + 1048579, [], fun k hk => ?_, by simp, fun _ h1 h2 => absurd ((inB_iff _ _ _).2 ⟨h1, h2⟩) (by rw [hi]; simp)⟩
      have h1 := hA k (by omega)
      obtain ⟨k, rfl⟩ : ∃ m, k = m + 1 := ⟨k - 1, by omega⟩
      simp [spec_LargestCommon.f, impl_LargestCommon.f, h1.1, h1.2, spec_LargestCommon.j0, impl_LargestCommon.j0, spec_in, in_is, hi]
    | true =>
      obtain ⟨K1, g1⟩ := lc_spec l hs hn hO least 511 1 [] rfl (by simp)
      obtain ⟨K2, g2⟩ := lc_impl l hs hn hO least 511 1 [] rfl (Nat.le_refl _) (by simp)
      refine ⟨K1 + K2 + l.length + 4000000, lcV l least, fun k hk => ?_, allB_len l least 511 1 [] (by simp), fun _ _ _ => rfl⟩
      have h1 := hA k (by omega)
      obtain ⟨k, rfl⟩ : ∃ m, k = m + 1 := ⟨k - 1, by omega⟩
      have e1 := g1 k (by omega)
      simp only at e1
      have e2 : impl_LargestCommon.l0 k l least [] 0 = some (lcV l least) := by
        obtain ⟨k, rfl⟩ : ∃ m, k = m + 1 := ⟨k - 1, by omega⟩
        simp only [impl_LargestCommon.l0]
        rw [if_pos (by omega)]
        refine lc_i1 l hs hn hO least 0 (by omega) [] (by simp) K2 _ (fun k hk => ?_) 9 1 k [] rfl (Nat.le_refl _) (by omega) (List.nil_append _) (by simp)
        rw [if_pos rfl]
        exact g2 k hk
      constructor
      · simp only [spec_LargestCommon.f, h1.1, Option.bind_some, if_true, spec_in, hi, Bool.not_true, spec_LargestCommon.j0]
        rw [if_neg (by simp)]
        exact e1
      · simp only [impl_LargestCommon.f, h1.2, Option.bind_some, if_true, in_is, hi, Bool.not_true, impl_LargestCommon.j0]
        rw [if_neg (by simp)]
        exact e2
end Go.Proofs.Ytkgigoefmpkngaa.Pure
