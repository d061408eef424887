/- Baskets that hold things: the law. -/
import Derived.Test.YtkgigoefmpkngaaPureFnExactBasketsOk
import Derived.Laws.BitsLemmas
namespace Go.Proofs.Ytkgigoefmpkngaa.Pure
set_option linter.unusedVariables false
set_option linter.unusedSimpArgs false
open Go.RowKit Go.Proofs.Ytkgigoefmpkngaa.PCX Go.Proofs.Ytkgigoefmpkngaa.Base Go.Proofs.YtkgigoefmpkngaaW.PrintWords Go.Proofs.YtkgigoefmpkngaaW.PrintLast

theorem shl_nat (n : Nat) (h : n ≤ 10) : shl .i64 1 (n : Int) = ((2 ^ n : Nat) : Int) := by
  have : ∀ m : Fin 11, shl .i64 1 (m.val : Int) = ((2 ^ m.val : Nat) : Int) := by decide
  exact this ⟨n, by omega⟩
theorem bv_nat (x : Nat) (h : x < 4611686018427387904) : (BitVec.ofInt 64 (x : Int)).toNat = x := by
  rw [BitVec.ofInt_natCast, BitVec.toNat_ofNat, Nat.mod_eq_of_lt (by omega)]
theorem and_nat (x y : Nat) (hx : x < 4611686018427387904) (hy : y < 4611686018427387904) : Go.bits .and .i64 (x : Int) (y : Int) = ((x &&& y : Nat) : Int) := by
  have e : Go.bits .and .i64 (x : Int) (y : Int) = IntKind.wrap .i64 (((BitVec.ofInt 64 (x : Int) &&& BitVec.ofInt 64 (y : Int)).toNat : Nat) : Int) := rfl
  have h : x &&& y ≤ x := Nat.and_le_left
  rw [e, BitVec.toNat_and, bv_nat x hx, bv_nat y hy, IntKind.wrap_i64]
  omega
theorem or_nat (x y : Nat) (hx : x < 2 ^ 10) (hy : y < 2 ^ 10) : Go.bits .or .i64 (x : Int) (y : Int) = ((x ||| y : Nat) : Int) := by
  have e : Go.bits .or .i64 (x : Int) (y : Int) = IntKind.wrap .i64 (((BitVec.ofInt 64 (x : Int) ||| BitVec.ofInt 64 (y : Int)).toNat : Nat) : Int) := rfl
  have h : x ||| y < 2 ^ 10 := Nat.or_lt_two_pow hx hy
  rw [e, BitVec.toNat_or, bv_nat x (by omega), bv_nat y (by omega), IntKind.wrap_i64]
  omega
def setN : List Int → Nat → Nat
  | [], s => s
  | x :: xs, s => setN xs (s ||| 2 ^ x.toNat)
theorem setN_bit : ∀ (l : List Int) (s i : Nat), (∀ x ∈ l, 0 ≤ x) → ((setN l s).testBit i = true ↔ s.testBit i = true ∨ (i : Int) ∈ l)
  | [], s, i, _ => by simp [setN]
  | x :: xs, s, i, h => by
    have hx := h x (by simp)
    simp only [setN]
    rw [setN_bit xs _ i (fun y hy => h y (by simp [hy])), Nat.testBit_or, Nat.testBit_two_pow, Bool.or_eq_true, decide_eq_true_eq, List.mem_cons]
    have : x.toNat = i ↔ (i : Int) = x := by omega
    rw [this, or_assoc]
theorem setN_lt : ∀ (l : List Int) (s : Nat), (∀ x ∈ l, 1 ≤ x ∧ x ≤ 9) → s < 2 ^ 10 → setN l s < 2 ^ 10
  | [], s, _, hs => hs
  | x :: xs, s, h, hs => by
    have hx := h x (by simp)
    exact setN_lt xs _ (fun y hy => h y (by simp [hy])) (Nat.or_lt_two_pow hs (Nat.pow_lt_pow_right (by omega) (by omega)))
theorem set_l (l : List Int) (h : ∀ x ∈ l, 1 ≤ x ∧ x ≤ 9) (hb : l.length ≤ 9223372036854775800) : ∀ (d k n s : Nat), n + d = l.length → d < k → s < 2 ^ 10 → spec_l20Set.l0 k l (s : Int) (n : Int) = some ((setN (l.drop n) s : Nat) : Int) := by
  intro d
  induction d with
  | zero =>
    intro k n s hn hk hs
    obtain ⟨k, rfl⟩ : ∃ m, k = m + 1 := ⟨k - 1, by omega⟩
    simp only [spec_l20Set.l0]
    rw [if_neg (by omega), List.drop_of_length_le (by omega)]
    rfl
  | succ d ih =>
    intro k n s hn hk hs
    obtain ⟨k, rfl⟩ : ∃ m, k = m + 1 := ⟨k - 1, by omega⟩
    have hn' : n < l.length := by omega
    have hx := h l[n] (List.getElem_mem hn')
    obtain ⟨X, hX⟩ : ∃ X : Nat, l[n] = (X : Int) := ⟨l[n].toNat, by omega⟩
    have hp : 2 ^ X < 2 ^ 10 := Nat.pow_lt_pow_right (by omega) (by omega)
    simp only [spec_l20Set.l0, rd_get l n hn', hX, shl_nat X (by omega), or_nat s (2 ^ X) hs hp]
    rw [if_pos (by omega), if_pos (by omega), if_pos (by omega), wn n (by omega), ih k (n + 1) _ (by omega) (by omega) (Nat.or_lt_two_pow hs hp), List.drop_eq_getElem_cons hn', hX]
    simp only [setN, Int.toNat_natCast]
theorem set_is (l : List Int) (h : ∀ x ∈ l, 1 ≤ x ∧ x ≤ 9) (k : Nat) (hb : l.length ≤ 9223372036854775800) (hk : l.length < k) : spec_l20Set.f k l = some ((setN l 0 : Nat) : Int) := by
  have := set_l l h hb l.length k 0 0 (by omega) hk (by omega)
  rw [List.drop_zero] at this
  exact this
theorem set_holds (l1 : List Int) (b : Bk) (h1 : ∀ x ∈ l1, 1 ≤ x ∧ x ≤ 9) (h2 : ∀ x ∈ b.f0, 1 ≤ x ∧ x ≤ 9) : setN b.f0 0 &&& setN l1 0 = setN l1 0 ↔ holdsAll l1 b = true := by
  have e : holdsAll l1 b = true ↔ ∀ x ∈ l1, x ∈ b.f0 := by
    unfold holdsAll
    simp
  have p1 : ∀ x ∈ l1, 0 ≤ x := fun x hx => by have := h1 x hx; omega
  have p2 : ∀ x ∈ b.f0, 0 ≤ x := fun x hx => by have := h2 x hx; omega
  rw [e]
  constructor
  · intro h x hx
    have hx1 := h1 x hx
    have hb : (setN l1 0).testBit x.toNat = true := (setN_bit l1 0 _ p1).2 (Or.inr (by rw [show ((x.toNat : Nat) : Int) = x by omega]; exact hx))
    rw [← h, Nat.testBit_and, Bool.and_eq_true] at hb
    have := (setN_bit b.f0 0 _ p2).1 hb.1
    rw [show ((x.toNat : Nat) : Int) = x by omega] at this
    simpa using this
  · intro h
    apply Nat.eq_of_testBit_eq
    intro i
    rw [Nat.testBit_and, Bool.eq_iff_iff, Bool.and_eq_true, setN_bit l1 0 _ p1, setN_bit b.f0 0 _ p2]
    simp only [Nat.zero_testBit, Bool.false_eq_true, false_or]
    exact ⟨fun q => q.2, fun q => ⟨h _ q, q⟩⟩
theorem count_l (l : List Bk) (l1 : List Int) (h1 : ∀ x ∈ l1, 1 ≤ x ∧ x ≤ 9) (ho : ∀ b ∈ l, ∀ x ∈ b.f0, 1 ≤ x ∧ x ≤ 9) (hl : l.length ≤ 30) (hn : ∀ s ∈ l, s.f0.length ≤ 1048576) :
    ∀ (d k n c : Nat), n + d = l.length → d + 1048577 < k → c ≤ n → spec_l20Count.l0 k l ((setN l1 0 : Nat) : Int) (c : Int) (n : Int) = some ((c + (l.drop n).countP (holdsAll l1) : Nat) : Int) := by
  intro d
  induction d with
  | zero =>
    intro k n c hnn hk hc
    obtain ⟨k, rfl⟩ : ∃ m, k = m + 1 := ⟨k - 1, by omega⟩
    simp only [spec_l20Count.l0]
    rw [if_neg (by omega), List.drop_of_length_le (by omega)]
    simp
  | succ d ih =>
    intro k n c hnn hk hc
    obtain ⟨k, rfl⟩ : ∃ m, k = m + 1 := ⟨k - 1, by omega⟩
    have hn' : n < l.length := by omega
    have hq := hn l[n] (List.getElem_mem hn')
    have hx := ho l[n] (List.getElem_mem hn')
    have b1 := setN_lt l[n].f0 0 hx (by omega)
    have b2 := setN_lt l1 0 h1 (by omega)
    have key := set_holds l1 l[n] h1 hx
    simp only [spec_l20Count.l0, rdI l n hn', set_is l[n].f0 hx k (by omega) (by omega), Option.bind_some, and_nat _ _ (show setN l[n].f0 0 < 4611686018427387904 by omega) (show setN l1 0 < 4611686018427387904 by omega)]
    rw [if_pos (by omega), if_pos (by omega), wn n (by omega), wn c (by omega), List.drop_eq_getElem_cons hn', List.countP_cons]
    by_cases hh : holdsAll l1 l[n] = true
    · rw [if_pos (by rw [key.2 hh]), if_pos hh, ih k (n + 1) (c + 1) (by omega) (by omega) (by omega)]
      congr 2
      omega
    · rw [if_neg (fun q => hh (key.1 (by omega))), if_neg hh, ih k (n + 1) c (by omega) (by omega) (by omega)]
      congr 2
theorem count_both (l : List Bk) (l1 : List Int) (hs : l.length ≤ 1048576) (hn : ∀ s ∈ l, s.f0.length ≤ 1048576) (h1 : l1.length ≤ 1048576) (k : Nat) (hk : l.length + 1048580 < k) : ∃ r, spec_CountWith.f k l l1 = some r ∧ impl_CountWith.f k l l1 = some r := by
  obtain ⟨r, g1, g2⟩ := ok_both l hs hn k (by omega)
  obtain ⟨r', g2', hr⟩ := impl_ok l hn k (by omega)
  rw [g2] at g2'
  obtain rfl := Option.some.inj g2'
  obtain ⟨q, t1, t2, hq⟩ := th_both l1 k (by omega) (by omega)
  obtain ⟨k, rfl⟩ : ∃ m, k = m + 1 := ⟨k - 1, by omega⟩
  unfold spec_CountWith.f impl_CountWith.f
  rw [g1, g2]
  cases r with
  | false => exact ⟨-1, by simp [spec_CountWith.j0], by simp⟩
  | true =>
    simp only [Option.bind_some, if_true, t1, t2]
    cases q with
    | false => exact ⟨-1, by simp [spec_CountWith.j0], by simp⟩
    | true =>
      have hT := (hq.1 rfl).1
      have hO := hr.1 rfl
      refine ⟨_, ?_, by rw [if_pos rfl]⟩
      have := count_l l l1 hT (fun b hb => (hO.2 b hb).1) hO.1 hn l.length k 0 0 (by omega) (by omega) (Nat.le_refl _)
      rw [List.drop_zero, Nat.zero_add] at this
      simp only [spec_CountWith.j0, set_is l1 hT k (by omega) (by omega), Option.bind_some, spec_l20Count.f]
      rw [if_neg (by simp)]
      show (spec_l20Count.l0 k l ((setN l1 0 : Nat) : Int) ((0 : Nat) : Int) ((0 : Nat) : Int)).bind _ = _
      rw [this]
      rfl
theorem FnExactCountWith : laws_FnExactCountWith.Pure := by
  intro l o hm hl hw hm1 hl1 hw1
  unfold laws_FnExactCountWith.f
  by_cases hb : (o.length : Int) > 1048576
  · exact ⟨0, by rw [if_pos hb]⟩
  simp only [if_neg hb]
  refine frame l hm hw _ (fun h1 h2 => ?_)
  obtain ⟨k, hk1, hk2⟩ : ∃ k, l.length + 1048580 < k ∧ o.length < k := ⟨l.length + 1048581 + o.length, by omega, by omega⟩
  obtain ⟨r, g1, g2⟩ := count_both (l.map cvBk) o (by simpa using h1) (map_short l h2) (by omega) k (by simpa using hk1)
  refine ⟨k, by omega, ?_⟩
  rw [toBk_is l k h1 h2 (by omega)]
  simp only [Option.bind_some, g1, g2, toInts o k hl1 hk2]
  rw [eqBk_is _ k (by simpa using h1) (map_short l h2) (by simp; omega), eqInts o o k (by omega) hk2]
  simp
end Go.Proofs.Ytkgigoefmpkngaa.Pure
