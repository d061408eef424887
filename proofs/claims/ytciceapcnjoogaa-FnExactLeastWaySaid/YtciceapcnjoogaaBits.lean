/- Sets of shops as bits. -/
import Derived.Test.YtciceapcnjoogaaPureD
import Derived.Laws.BitsLemmas
namespace Go.Proofs.Ytciceapcnjoogaa.Pure
set_option linter.unusedVariables false
set_option linter.unusedSimpArgs false
open Go.RowKit Go.Proofs.Ytciceapcnjoogaa.PD Go.Proofs.Ytciceapcnjoogaa.Base Go.Proofs.YtciceapcnjoogaaW.PrintWords Go.Proofs.YtciceapcnjoogaaW.PrintLast

theorem shl_nat (n : Nat) (h : n ≤ 10) : shl .i64 1 (n : Int) = ((2 ^ n : Nat) : Int) := by
  have : ∀ m : Fin 11, shl .i64 1 (m.val : Int) = ((2 ^ m.val : Nat) : Int) := by decide
  exact this ⟨n, by omega⟩
theorem bv_nat (x : Nat) (h : x < 4611686018427387904) : (BitVec.ofInt 64 (x : Int)).toNat = x := by
  rw [BitVec.ofInt_natCast, BitVec.toNat_ofNat, Nat.mod_eq_of_lt (by omega)]
theorem and_nat (x y : Nat) (hx : x < 4611686018427387904) (hy : y < 4611686018427387904) : Go.bits .and .i64 (x : Int) (y : Int) = ((x &&& y : Nat) : Int) := by
  have e : Go.bits .and .i64 (x : Int) (y : Int) = IntKind.wrap .i64 (((BitVec.ofInt 64 (x : Int) &&& BitVec.ofInt 64 (y : Int)).toNat : Nat) : Int) := rfl
  have h : x &&& y ≤ x := Nat.and_le_left
  rw [e, BitVec.toNat_and, bv_nat x hx, bv_nat y hy, IntKind.wrap_i64]
  omega
theorem andNot_nat (x y : Nat) (hx : x < 4611686018427387904) (hs : y &&& x = y) : Go.bits .andNot .i64 (x : Int) (y : Int) = ((x - y : Nat) : Int) := by
  have hy : y ≤ x := by rw [← hs]; exact Nat.and_le_right
  have e : Go.bits .andNot .i64 (x : Int) (y : Int) = IntKind.wrap .i64 (((BitVec.ofInt 64 (x : Int) &&& ~~~BitVec.ofInt 64 (y : Int)).toNat : Nat) : Int) := rfl
  have hx2 := bv_nat x hx
  have hy2 := bv_nat y (by omega)
  rw [e]
  generalize BitVec.ofInt 64 (x : Int) = a at hx2
  generalize BitVec.ofInt 64 (y : Int) = b at hy2
  have hab : b &&& a = b := by
    apply BitVec.eq_of_toNat_eq
    rw [BitVec.toNat_and, hx2, hy2, hs]
  have h1 : (a &&& ~~~b) + b = a := by
    rw [BitVec.add_eq_or_of_and_eq_zero _ _ (by ext i hi; simp)]
    ext i hi
    have := congrArg (fun v => v[i]) hab
    simp only [BitVec.getElem_and] at this
    rw [BitVec.getElem_or, BitVec.getElem_and, BitVec.getElem_not]
    revert this
    generalize a[i] = p
    generalize b[i] = q
    cases p <;> cases q <;> simp
  have h2 : a &&& ~~~b = a - b := by
    rw [← h1, BitVec.add_sub_cancel, h1]
  rw [h2, BitVec.toNat_sub_of_le (by rw [BitVec.le_def]; omega), hx2, hy2, IntKind.wrap_i64]
  omega
theorem bt_nat (x i : Nat) (hx : x < 4611686018427387904) (hi : i ≤ 63) : Go.bits .and .i64 (shr .i64 (x : Int) (i : Int)) 1 = ((x / 2 ^ i % 2 : Nat) : Int) := by
  have e : shr .i64 (x : Int) (i : Int) = ((x / 2 ^ i : Nat) : Int) := by
    unfold shr
    rw [Int.toNat_natCast, show IntKind.i64.bits = 64 from rfl, Nat.min_eq_left (by omega)]
    simp
  have h : x / 2 ^ i ≤ x := Nat.div_le_self _ _
  rw [e]
  have := and_nat (x / 2 ^ i) 1 (by omega) (by omega)
  rw [Nat.and_one_is_mod] at this
  exact this
def bt (x i : Nat) : Bool := x.testBit i
theorem bt_mod (x i : Nat) : x / 2 ^ i % 2 = if x.testBit i then 1 else 0 := by
  rw [Nat.testBit_eq_decide_div_mod_eq]
  by_cases h : x / 2 ^ i % 2 = 1
  · simp [h]
  · have : x / 2 ^ i % 2 = 0 := by omega
    simp [this]
theorem bt_is (x i : Nat) (hx : x < 4611686018427387904) (hi : i ≤ 63) : Go.bits .and .i64 (shr .i64 (x : Int) (i : Int)) 1 = if x.testBit i then 1 else 0 := by
  rw [bt_nat x i hx hi, bt_mod]
  split <;> rfl
/-- The next lower subset of S lies no lower than any subset below s. -/
theorem sub_reach : ∀ (s S t : Nat), s &&& S = s → t &&& S = t → t < s → t ≤ (s - 1) &&& S := by
  intro s
  induction s using Nat.strongRecOn with
  | _ s ih =>
    intro S t hs ht hlt
    have d1 : ∀ x y : Nat, (x &&& y) / 2 = x / 2 &&& y / 2 := fun x y => Nat.and_div_two
    have m1 : ∀ x y : Nat, (x &&& y) % 2 = (x % 2) * (y % 2) := fun x y => by
      rw [← Nat.and_one_is_mod (x &&& y), ← Nat.and_one_is_mod x, ← Nat.and_one_is_mod y]
      have hx := Nat.mod_two_eq_zero_or_one x
      have hy := Nat.mod_two_eq_zero_or_one y
      have := @Nat.and_mod_two_pow x y 1
      rw [Nat.pow_one] at this
      rw [Nat.and_one_is_mod, Nat.and_one_is_mod, Nat.and_one_is_mod, this]
      rcases hx with hx | hx <;> rcases hy with hy | hy <;> rw [hx, hy] <;> rfl
    have a1 := d1 s S
    have a2 := d1 t S
    have a3 := d1 (s - 1) S
    have b1 := m1 s S
    have b2 := m1 t S
    have b3 := m1 (s - 1) S
    rw [hs] at a1 b1
    rw [ht] at a2 b2
    have hm := Nat.mod_two_eq_zero_or_one S
    have hms := Nat.mod_two_eq_zero_or_one s
    by_cases hq : t / 2 < s / 2
    · rcases hms with h0 | h1
      · have e1 : (s - 1) / 2 = s / 2 - 1 := by omega
        have e2 : (s - 1) % 2 = 1 := by omega
        have := ih (s / 2) (by omega) (S / 2) (t / 2) a1.symm a2.symm hq
        rw [e1] at a3
        rw [e2, Nat.one_mul] at b3
        rcases hm with hm | hm
        · rw [hm, Nat.mul_zero] at b2
          omega
        · omega
      · have e1 : (s - 1) / 2 = s / 2 := by omega
        rw [e1, ← a1] at a3
        omega
    · have e0 : t / 2 = s / 2 := by omega
      have e1 : (s - 1) / 2 = s / 2 := by omega
      rw [e1, ← a1] at a3
      omega
theorem sub_bit (x y m : Nat) (hx : x < 4611686018427387904) (hs : y &&& x = y) (h1 : x.testBit m = true) (h2 : y.testBit m = false) (hm : m < 64) : (x - y).testBit m = true := by
  have hy : y ≤ x := by rw [← hs]; exact Nat.and_le_right
  have hx2 := bv_nat x hx
  have hy2 := bv_nat y (by omega)
  have q := andNot_nat x y hx hs
  have e : Go.bits .andNot .i64 (x : Int) (y : Int) = IntKind.wrap .i64 (((BitVec.ofInt 64 (x : Int) &&& ~~~BitVec.ofInt 64 (y : Int)).toNat : Nat) : Int) := rfl
  have hle : (BitVec.ofInt 64 (x : Int) &&& ~~~BitVec.ofInt 64 (y : Int)).toNat ≤ x := by rw [BitVec.toNat_and, hx2]; exact Nat.and_le_left
  rw [e, IntKind.wrap_i64] at q
  have q2 : (BitVec.ofInt 64 (x : Int) &&& ~~~BitVec.ofInt 64 (y : Int)).toNat = x - y := by omega
  rw [← q2, BitVec.testBit_toNat, BitVec.getLsbD_and, BitVec.getLsbD_not, ← BitVec.testBit_toNat, ← BitVec.testBit_toNat, hx2, hy2, h1, h2]
  simp [hm]
end Go.Proofs.Ytciceapcnjoogaa.Pure
