/- The laws' own functions over slices of ints: equal, copied, marked, held; and 'in'. -/
import Derived.Test.YtdlolekpdophcaaBase
import Derived.Test.YtdlolekpdophcaaPEMx4
namespace Go.Proofs.Ytdlolekpdophcaa.Pure
set_option linter.unusedVariables false
set_option linter.unusedSimpArgs false
open Go.RowKit Go.Proofs.Ytdlolekpdophcaa.PEM Go.Proofs.Ytdlolekpdophcaa.Base Go.Proofs.YtdlolekpdophcaaW.PrintWords Go.Proofs.YtdlolekpdophcaaW.PrintLast

theorem eqInts_l (a b : List Int) (hl : a.length = b.length) (hb : a.length ≤ 9223372036854775800) : ∀ (d : Nat) (k n : Nat), n + d = a.length → d < k → laws_eqIntS.l0 k a b (n : Int) = some (decide (a.drop n = b.drop n)) := by
  intro d
  induction d with
  | zero =>
    intro k n hn hk
    obtain ⟨k, rfl⟩ : ∃ m, k = m + 1 := ⟨k - 1, by omega⟩
    simp only [laws_eqIntS.l0]
    rw [if_neg (by omega), List.drop_of_length_le (by omega), List.drop_of_length_le (by omega)]
    simp
  | succ d ih =>
    intro k n hn hk
    obtain ⟨k, rfl⟩ : ∃ m, k = m + 1 := ⟨k - 1, by omega⟩
    simp only [laws_eqIntS.l0]
    rw [if_pos (by omega), if_pos (by omega), if_pos (by omega), rd_get a n (by omega), rd_get b n (by omega), wn n (by omega)]
    have e : (a.drop n = b.drop n) ↔ (a[n] = b[n] ∧ a.drop (n + 1) = b.drop (n + 1)) := by
      rw [List.drop_eq_getElem_cons (show n < a.length by omega), List.drop_eq_getElem_cons (show n < b.length by omega), List.cons.injEq]
    by_cases h : a[n] = b[n]
    · rw [if_pos h, ih k (n + 1) (by omega) (by omega)]
      simp only [e, h, true_and]
    · rw [if_neg h]
      simp only [e, h, false_and, decide_false]
theorem eqInts (a b : List Int) (k : Nat) (hb : a.length ≤ 9223372036854775800) (hk : a.length < k) : laws_eqIntS.f k a b = some (decide (a = b)) := by
  unfold laws_eqIntS.f
  by_cases h : a.length = b.length
  · rw [if_pos (by omega)]
    have := eqInts_l a b h hb a.length k 0 (by omega) hk
    simpa using this
  · rw [if_neg (by omega)]
    have : a ≠ b := fun e => h (by rw [e])
    simp [this]

theorem markInts_l : ∀ (d : Nat) (k n : Nat) (x : List Int) (m : Int), n + d = x.length → d < k → x.length ≤ 4611686018427387904 → 0 ≤ m → m + d ≤ 4611686018427387904 →
    laws_markIntS.l0 k x m (n : Int) = some (m + d, x.take n ++ ramp m d) := by
  intro d
  induction d with
  | zero =>
    intro k n x m hn hk hx h0 h1
    obtain ⟨k, rfl⟩ : ∃ m, k = m + 1 := ⟨k - 1, by omega⟩
    simp only [laws_markIntS.l0]
    rw [if_neg (by omega), List.take_of_length_le (by omega)]
    simp [ramp]
  | succ d ih =>
    intro k n x m hn hk hx h0 h1
    obtain ⟨k, rfl⟩ : ∃ m, k = m + 1 := ⟨k - 1, by omega⟩
    simp only [laws_markIntS.l0]
    rw [if_pos (by omega), if_pos (by omega), wn n (by omega), show ((n : Int)).toNat = n by omega, w64 (show -9223372036854775808 ≤ m + 1 by omega) (by omega)]
    rw [ih k (n + 1) _ (m + 1) (by simp; omega) (by omega) (by simpa using hx) (by omega) (by omega)]
    rw [take_set_succ x n m (by omega), ramp_succ]
    simp
    omega
theorem markInts (x : List Int) (k : Nat) (m : Int) (hx : x.length ≤ 2305843009213693952) (h0 : 0 ≤ m) (h1 : m ≤ 2305843009213693952) (hk : x.length < k) : laws_markIntS.f k x m = some (m + x.length, ramp m x.length) := by
  unfold laws_markIntS.f
  have := markInts_l x.length k 0 x m (by omega) hk (by omega) h0 (by omega)
  simpa using this
theorem heldInts_l : ∀ (d : Nat) (k n : Nat) (x : List Int) (m : Int), n + d = x.length → d < k → x.length ≤ 4611686018427387904 → 0 ≤ m → m + d ≤ 4611686018427387904 → x.drop n = ramp m d →
    laws_heldIntS.l0 k x m (n : Int) = some (m + d) := by
  intro d
  induction d with
  | zero =>
    intro k n x m hn hk hx h0 h1 hd
    obtain ⟨k, rfl⟩ : ∃ m, k = m + 1 := ⟨k - 1, by omega⟩
    simp only [laws_heldIntS.l0]
    rw [if_neg (by omega)]
    simp
  | succ d ih =>
    intro k n x m hn hk hx h0 h1 hd
    obtain ⟨k, rfl⟩ : ∃ m, k = m + 1 := ⟨k - 1, by omega⟩
    rw [List.drop_eq_getElem_cons (show n < x.length by omega), ramp_succ] at hd
    injection hd with hd1 hd2
    simp only [laws_heldIntS.l0]
    rw [if_pos (by omega), if_pos (by omega), rd_get x n (by omega), hd1, if_pos rfl, wn n (by omega), w64 (show -9223372036854775808 ≤ m + 1 by omega) (by omega)]
    rw [ih k (n + 1) x (m + 1) (by omega) (by omega) hx (by omega) (by omega) hd2]
    congr 1
    omega
theorem heldInts (n : Nat) (k : Nat) (m : Int) (hx : n ≤ 2305843009213693952) (h0 : 0 ≤ m) (h1 : m ≤ 2305843009213693952) (hk : n < k) : laws_heldIntS.f k (ramp m n) m = some (m + n) := by
  unfold laws_heldIntS.f
  exact heldInts_l n k 0 (ramp m n) m (by simp [ramp]) hk (by simp [ramp]; omega) h0 (by omega) (by simp)
theorem spec_in (a b c : Int) : spec_l01In.f a b c = some (inB b c a) := by
  unfold spec_l01In.f inB
  by_cases h : b ≤ a <;> simp [h]
theorem inB_iff (lo hi n : Int) : inB lo hi n = true ↔ lo ≤ n ∧ n ≤ hi := by simp [inB]
theorem inB_false (lo hi n : Int) : inB lo hi n = false ↔ ¬ (lo ≤ n ∧ n ≤ hi) := by
  rw [← inB_iff, Bool.not_eq_true]
end Go.Proofs.Ytdlolekpdophcaa.Pure
