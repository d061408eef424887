/- Vans: what the law asks of the program alone. Written by vn.py. -/
import Derived.Test.YtciceapcnjoogaaDraw
import Derived.Test.YtciceapcnjoogaaPDVx5
import Derived.Laws.BitsLemmas
namespace Go.Proofs.Ytciceapcnjoogaa.Pure
set_option linter.unusedVariables false
set_option linter.unusedSimpArgs false
open Go.RowKit Go.Proofs.Ytciceapcnjoogaa.PDV Go.Proofs.Ytciceapcnjoogaa.Base Go.Proofs.YtciceapcnjoogaaW.PrintWords Go.Proofs.YtciceapcnjoogaaW.PrintLast

abbrev Sp := S35
def okSp (x : Sp) : Prop := (1 ≤ x.f0 ∧ x.f0 ≤ 1000) ∧ 1 ≤ x.f1 ∧ x.f1 ≤ 100
def SpFrom (l : List Sp) (n : Nat) : Prop := ∀ j (hj : j < l.length), n ≤ j → okSp l[j] ∧ (∀ h : 0 < j, l[j - 1].f0 < l[j].f0)
theorem rdIShop (xs : List Sp) (i : Nat) (h : i < xs.length) : rd_T35 xs (i : Int) = xs[i] := by simp [rd_T35, h]
theorem inB_iff (lo hi n : Int) : inB lo hi n = true ↔ lo ≤ n ∧ n ≤ hi := by simp [inB]
theorem shl_nat (n : Nat) (h : n ≤ 10) : shl .i64 1 (n : Int) = ((2 ^ n : Nat) : Int) := by
  have : ∀ m : Fin 11, shl .i64 1 (m.val : Int) = ((2 ^ m.val : Nat) : Int) := by decide
  exact this ⟨n, by omega⟩
theorem bv_nat (x : Nat) (h : x < 4611686018427387904) : (BitVec.ofInt 64 (x : Int)).toNat = x := by
  rw [BitVec.ofInt_natCast, BitVec.toNat_ofNat, Nat.mod_eq_of_lt (by omega)]
theorem and_nat (x y : Nat) (hx : x < 4611686018427387904) (hy : y < 4611686018427387904) : Go.bits .and .i64 (x : Int) (y : Int) = ((x &&& y : Nat) : Int) := by
  have e : Go.bits .and .i64 (x : Int) (y : Int) = IntKind.wrap .i64 (((BitVec.ofInt 64 (x : Int) &&& BitVec.ofInt 64 (y : Int)).toNat : Nat) : Int) := rfl
  have h : x &&& y ≤ x := Nat.and_le_left
  rw [e, BitVec.toNat_and, bv_nat x hx, bv_nat y hy, IntKind.wrap_i64]
  omega
theorem andNot_nat (x y : Nat) (hx : x < 4611686018427387904) (hs : y &&& x = y) : Go.bits .andNot .i64 (x : Int) (y : Int) = ((x - y : Nat) : Int) := by
  have hy : y ≤ x := by rw [← hs]; exact Nat.and_le_right
  have e : Go.bits .andNot .i64 (x : Int) (y : Int) = IntKind.wrap .i64 (((BitVec.ofInt 64 (x : Int) &&& ~~~BitVec.ofInt 64 (y : Int)).toNat : Nat) : Int) := rfl
  have hx2 := bv_nat x hx
  have hy2 := bv_nat y (by omega)
  rw [e]
  generalize BitVec.ofInt 64 (x : Int) = a at hx2
  generalize BitVec.ofInt 64 (y : Int) = b at hy2
  have hab : b &&& a = b := by
    apply BitVec.eq_of_toNat_eq
    rw [BitVec.toNat_and, hx2, hy2, hs]
  have h1 : (a &&& ~~~b) + b = a := by
    rw [BitVec.add_eq_or_of_and_eq_zero _ _ (by ext i hi; simp)]
    ext i hi
    have := congrArg (fun v => v[i]) hab
    simp only [BitVec.getElem_and] at this
    rw [BitVec.getElem_or, BitVec.getElem_and, BitVec.getElem_not]
    revert this
    generalize a[i] = p
    generalize b[i] = q
    cases p <;> cases q <;> simp
  have h2 : a &&& ~~~b = a - b := by
    rw [← h1, BitVec.add_sub_cancel, h1]
  rw [h2, BitVec.toNat_sub_of_le (by rw [BitVec.le_def]; omega), hx2, hy2, IntKind.wrap_i64]
  omega
theorem bt_nat (x i : Nat) (hx : x < 4611686018427387904) (hi : i ≤ 63) : Go.bits .and .i64 (shr .i64 (x : Int) (i : Int)) 1 = ((x / 2 ^ i % 2 : Nat) : Int) := by
  have e : shr .i64 (x : Int) (i : Int) = ((x / 2 ^ i : Nat) : Int) := by
    unfold shr
    rw [Int.toNat_natCast, show IntKind.i64.bits = 64 from rfl, Nat.min_eq_left (by omega)]
    simp
  have h : x / 2 ^ i ≤ x := Nat.div_le_self _ _
  rw [e]
  have := and_nat (x / 2 ^ i) 1 (by omega) (by omega)
  rw [Nat.and_one_is_mod] at this
  exact this
def bt (x i : Nat) : Bool := x.testBit i
theorem bt_mod (x i : Nat) : x / 2 ^ i % 2 = if x.testBit i then 1 else 0 := by
  rw [Nat.testBit_eq_decide_div_mod_eq]
  by_cases h : x / 2 ^ i % 2 = 1
  · simp [h]
  · have : x / 2 ^ i % 2 = 0 := by omega
    simp [this]
theorem bt_is (x i : Nat) (hx : x < 4611686018427387904) (hi : i ≤ 63) : Go.bits .and .i64 (shr .i64 (x : Int) (i : Int)) 1 = if x.testBit i then 1 else 0 := by
  rw [bt_nat x i hx hi, bt_mod]
  split <;> rfl
theorem sub_reach : ∀ (s S t : Nat), s &&& S = s → t &&& S = t → t < s → t ≤ (s - 1) &&& S := by
  intro s
  induction s using Nat.strongRecOn with
  | _ s ih =>
    intro S t hs ht hlt
    have d1 : ∀ x y : Nat, (x &&& y) / 2 = x / 2 &&& y / 2 := fun x y => Nat.and_div_two
    have m1 : ∀ x y : Nat, (x &&& y) % 2 = (x % 2) * (y % 2) := fun x y => by
      rw [← Nat.and_one_is_mod (x &&& y), ← Nat.and_one_is_mod x, ← Nat.and_one_is_mod y]
      have hx := Nat.mod_two_eq_zero_or_one x
      have hy := Nat.mod_two_eq_zero_or_one y
      have := @Nat.and_mod_two_pow x y 1
      rw [Nat.pow_one] at this
      rw [Nat.and_one_is_mod, Nat.and_one_is_mod, Nat.and_one_is_mod, this]
      rcases hx with hx | hx <;> rcases hy with hy | hy <;> rw [hx, hy] <;> rfl
    have a1 := d1 s S
    have a2 := d1 t S
    have a3 := d1 (s - 1) S
    have b1 := m1 s S
    have b2 := m1 t S
    have b3 := m1 (s - 1) S
    rw [hs] at a1 b1
    rw [ht] at a2 b2
    have hm := Nat.mod_two_eq_zero_or_one S
    have hms := Nat.mod_two_eq_zero_or_one s
    by_cases hq : t / 2 < s / 2
    · rcases hms with h0 | h1
      · have e1 : (s - 1) / 2 = s / 2 - 1 := by omega
        have e2 : (s - 1) % 2 = 1 := by omega
        have := ih (s / 2) (by omega) (S / 2) (t / 2) a1.symm a2.symm hq
        rw [e1] at a3
        rw [e2, Nat.one_mul] at b3
        rcases hm with hm | hm
        · rw [hm, Nat.mul_zero] at b2
          omega
        · omega
      · have e1 : (s - 1) / 2 = s / 2 := by omega
        rw [e1, ← a1] at a3
        omega
    · have e0 : t / 2 = s / 2 := by omega
      have e1 : (s - 1) / 2 = s / 2 := by omega
      rw [e1, ← a1] at a3
      omega
theorem sub_bit (x y m : Nat) (hx : x < 4611686018427387904) (hs : y &&& x = y) (h1 : x.testBit m = true) (h2 : y.testBit m = false) (hm : m < 64) : (x - y).testBit m = true := by
  have hy : y ≤ x := by rw [← hs]; exact Nat.and_le_right
  have hx2 := bv_nat x hx
  have hy2 := bv_nat y (by omega)
  have q := andNot_nat x y hx hs
  have e : Go.bits .andNot .i64 (x : Int) (y : Int) = IntKind.wrap .i64 (((BitVec.ofInt 64 (x : Int) &&& ~~~BitVec.ofInt 64 (y : Int)).toNat : Nat) : Int) := rfl
  have hle : (BitVec.ofInt 64 (x : Int) &&& ~~~BitVec.ofInt 64 (y : Int)).toNat ≤ x := by rw [BitVec.toNat_and, hx2]; exact Nat.and_le_left
  rw [e, IntKind.wrap_i64] at q
  have q2 : (BitVec.ofInt 64 (x : Int) &&& ~~~BitVec.ofInt 64 (y : Int)).toNat = x - y := by omega
  rw [← q2, BitVec.testBit_toNat, BitVec.getLsbD_and, BitVec.getLsbD_not, ← BitVec.testBit_toNat, ← BitVec.testBit_toNat, hx2, hy2, h1, h2]
  simp [hm]
theorem rdR (xs : List (List Int)) (i : Nat) (h : i < xs.length) : rd_L5 xs (i : Int) = xs[i] := by simp [rd_L5, h]
theorem row_le (l : List (List Int)) (x : List Int) (hx : x ∈ l) : x.length ≤ l.flatten.length := by
  induction l with
  | nil => cases hx
  | cons y l ih =>
    rw [List.flatten_cons, List.length_append]
    rcases List.mem_cons.1 hx with rfl | hx
    · omega
    · have := ih hx; omega
def inN (n : Nat) (x : Int) : Bool := inB 0 ((n : Int) - 1) x
theorem inN_iff (n : Nat) (x : Int) : inN n x = true ↔ 0 ≤ x ∧ x < (n : Int) := by
  unfold inN
  rw [inB_iff]
  omega
def ldT (l : List Sp) : List Int → Int
  | [] => 0
  | x :: xs => (rd_T35 l x).f1 + ldT l xs
def okT (n : Nat) (ms T : List Int) : Bool := T.all (inN n) && decide ((ms ++ T).Nodup)
theorem okT_iff (n : Nat) (ms T : List Int) : okT n ms T = true ↔ (∀ x ∈ T, 0 ≤ x ∧ x < (n : Int)) ∧ (ms ++ T).Nodup := by
  unfold okT
  rw [Bool.and_eq_true, List.all_eq_true, decide_eq_true_eq]
  simp only [inN_iff]
theorem shop_at (l : List Sp) (hok : ∀ s ∈ l, okSp s) (x : Int) (h0 : 0 ≤ x) (h1 : x < (l.length : Int)) : okSp (rd_T35 l x) := by
  obtain ⟨X, rfl⟩ : ∃ X : Nat, x = (X : Int) := ⟨x.toNat, by omega⟩
  rw [rdIShop l X (by omega)]
  exact hok _ (List.getElem_mem _)
theorem order_l (n : Nat) (hn : n ≤ 1048576) (o : List Int) (ho : o.length ≤ 1048576) : ∀ (d i k : Nat), i + d = o.length → d < k → (o.take i).Nodup → impl_isOrder.l0 k o (n : Int) o (o.length : Int) (i : Int) = some (okT n (o.take i) (o.drop i) && decide (o.length = n)) := by
  intro d
  induction d with
  | zero =>
    intro i k hi hk hd
    obtain ⟨k, rfl⟩ : ∃ m, k = m + 1 := ⟨k - 1, by omega⟩
    simp only [impl_isOrder.l0]
    rw [if_neg (by omega), List.drop_of_length_le (by omega)]
    have : okT n (o.take i) [] = true := (okT_iff _ _ _).2 ⟨fun x hx => (by cases hx), by simpa using hd⟩
    rw [this, Bool.true_and]
    congr 1
    rw [Bool.eq_iff_iff, beq_iff_eq, decide_eq_true_eq]
    omega
  | succ d ih =>
    intro i k hi hk hd
    obtain ⟨k, rfl⟩ : ∃ m, k = m + 1 := ⟨k - 1, by omega⟩
    have hi' : i < o.length := by omega
    simp only [impl_isOrder.l0, rd_get o i hi', in_is, Option.bind_some, slices_Contains_int_int.f, w64 (show -9223372036854775808 ≤ (n : Int) - 1 by omega) (by omega), Int.toNat_natCast]
    rw [if_pos (by omega), if_pos (by omega), if_pos (by omega), wn i (by omega), List.drop_eq_getElem_cons hi']
    have etk : o.take (i + 1) = o.take i ++ [o[i]] := List.take_succ_eq_append_getElem hi'
    cases hin : inB 0 ((n : Int) - 1) o[i] with
    | false =>
      rw [if_neg (by simp)]
      unfold okT
      rw [List.all_cons, show inN n o[i] = false from hin]
      simp
    | true =>
      rw [if_pos rfl, if_pos (by omega)]
      by_cases hc : o[i] ∈ o.take i
      · rw [if_pos (List.contains_iff_mem.2 hc)]
        have : okT n (o.take i) (o[i] :: o.drop (i + 1)) = false := by
          cases q : okT n (o.take i) (o[i] :: o.drop (i + 1)) with
          | false => rfl
          | true =>
            have := ((okT_iff _ _ _).1 q).2
            rw [List.nodup_append] at this
            exact absurd rfl (this.2.2 o[i] hc o[i] List.mem_cons_self)
        rw [this]
        rfl
      · rw [if_neg (fun q => hc (List.contains_iff_mem.1 q)), ih (i + 1) k (by omega) (by omega) (by
          rw [etk, List.nodup_append]
          refine ⟨hd, by simp, fun y hy z hz => ?_⟩
          rw [List.mem_singleton] at hz
          subst hz
          exact fun e => hc (e ▸ hy))]
        congr 2
        unfold okT
        rw [List.all_cons, show inN n o[i] = true from hin, Bool.true_and, etk, List.append_assoc]
        rfl
theorem order_is (n : Nat) (hn : n ≤ 1048576) (o : List Int) (ho : o.length ≤ 1048576) (k : Nat) (hk : o.length < k) : impl_isOrder.f k o (n : Int) = some (okT n [] o && decide (o.length = n)) := by
  have := order_l n hn o ho o.length 0 k (Nat.zero_add _) hk (by simp)
  rw [List.take_zero, List.drop_zero] at this
  exact this
theorem load_l (l : List Sp) (hok : ∀ s ∈ l, okSp s) (T : List Int) (hT : T.length ≤ 1048576) (hin : ∀ x ∈ T, 0 ≤ x ∧ x < (l.length : Int)) : ∀ (d i k : Nat) (a : Int), i + d = T.length → d < k → 0 ≤ a → a ≤ 100 * (i : Int) → impl_loadOf.l0 k l a T (T.length : Int) (i : Int) = some (a + ldT l (T.drop i)) := by
  intro d
  induction d with
  | zero =>
    intro i k a hi hk h0 h1
    obtain ⟨k, rfl⟩ : ∃ m, k = m + 1 := ⟨k - 1, by omega⟩
    simp only [impl_loadOf.l0]
    rw [if_neg (by omega), List.drop_of_length_le (by omega)]
    simp [ldT]
  | succ d ih =>
    intro i k a hi hk h0 h1
    obtain ⟨k, rfl⟩ : ∃ m, k = m + 1 := ⟨k - 1, by omega⟩
    have hi' : i < T.length := by omega
    have hx := hin _ (List.getElem_mem hi')
    have hs := shop_at l hok T[i] hx.1 hx.2
    unfold okSp at hs
    simp only [impl_loadOf.l0, rd_get T i hi']
    rw [if_pos (by omega), if_pos (by omega), if_pos (by omega), if_pos hx.1, if_pos hx.2, wn i (by omega), w64 (by omega) (by omega), ih (i + 1) k _ (by omega) (by omega) (by omega) (by omega), List.drop_eq_getElem_cons hi']
    simp only [ldT]
    congr 1
    omega
theorem load_is (l : List Sp) (hok : ∀ s ∈ l, okSp s) (T : List Int) (hT : T.length ≤ 1048576) (hin : ∀ x ∈ T, 0 ≤ x ∧ x < (l.length : Int)) (k : Nat) (hk : T.length < k) : impl_loadOf.f k l T = some (ldT l T) := by
  have := load_l l hok T hT hin T.length 0 k 0 (Nat.zero_add _) hk (by omega) (by omega)
  rw [List.drop_zero, Int.zero_add] at this
  exact this
theorem sp_of (l : List Sp) (h : SpFrom l 0) : ∀ s ∈ l, okSp s := fun s hs => by
  obtain ⟨i, hi, rfl⟩ := List.getElem_of_mem hs
  exact (h i hi (Nat.zero_le _)).1
def ld (l : List Sp) (s : Nat) : Nat → Int
  | 0 => 0
  | i + 1 => ld l s i + (if s.testBit i = true then (rd_T35 l (i : Int)).f1 else 0)
def far (s : Nat) : Nat → Nat
  | 0 => 0
  | i + 1 => if s.testBit i = true then i else far s i
theorem rd_set_self (B : List Int) (S : Nat) (v : Int) (h : S < B.length) : rd (B.set S v) (S : Int) = v := by
  unfold rd
  rw [List.getD_eq_getElem?_getD, Int.toNat_natCast, List.getElem?_set_self h]
  rfl
theorem rd_set_ne (B : List Int) (S t : Nat) (v : Int) (h : t ≠ S) : rd (B.set S v) (t : Int) = rd B (t : Int) := by
  unfold rd
  rw [List.getD_eq_getElem?_getD, List.getD_eq_getElem?_getD, Int.toNat_natCast, List.getElem?_set_ne (fun e => h e.symm)]
theorem far_is (s : Nat) : ∀ (i : Nat), (∃ j, j < i ∧ s.testBit j = true) → s.testBit (far s i) = true ∧ far s i < i
  | 0, ⟨j, h, _⟩ => absurd h (by omega)
  | i + 1, ⟨j, h, hj⟩ => by
    simp only [far]
    by_cases e : s.testBit i = true
    · rw [if_pos e]; exact ⟨e, by omega⟩
    · rw [if_neg e]
      have hji : j ≠ i := fun q => e (q ▸ hj)
      have := far_is s i ⟨j, by omega, hj⟩
      exact ⟨this.1, by omega⟩
theorem far_lt (s : Nat) : ∀ (i : Nat), 0 < i → far s i < i
  | 0, h => absurd h (by omega)
  | i + 1, _ => by
    simp only [far]
    split
    · omega
    · by_cases h : 0 < i
      · have := far_lt s i h; omega
      · obtain rfl : i = 0 := by omega
        simp [far]
theorem some_bit (s n : Nat) (h0 : 0 < s) (h1 : s < 2 ^ n) : ∃ j, j < n ∧ s.testBit j = true := by
  obtain ⟨j, hj⟩ := Nat.exists_testBit_of_ne_zero (show s ≠ 0 by omega)
  refine ⟨j, ?_, hj⟩
  rcases Nat.lt_or_ge j n with h | h
  · exact h
  · have : s < 2 ^ j := Nat.lt_of_lt_of_le h1 (Nat.pow_le_pow_right (by omega) h)
    rw [Nat.testBit_lt_two_pow this] at hj
    cases hj
theorem ld_bd (l : List Sp) (hok : ∀ s ∈ l, okSp s) (s : Nat) : ∀ (i : Nat), i ≤ l.length → 0 ≤ ld l s i ∧ ld l s i ≤ 100 * (i : Int)
  | 0, _ => by simp [ld]
  | i + 1, h => by
    have h1 := ld_bd l hok s i (by omega)
    have h2 := hok l[i] (List.getElem_mem (by omega))
    simp only [ld]
    rw [rdIShop l i (by omega)]
    have := h2.2
    split <;> omega
theorem ld_pow (l : List Sp) (f : Nat) : ∀ (i : Nat), ld l (2 ^ f) i = if f < i then (rd_T35 l (f : Int)).f1 else 0
  | 0 => by simp [ld]
  | i + 1 => by
    simp only [ld, ld_pow l f i, Nat.testBit_two_pow, decide_eq_true_eq]
    by_cases e : f = i
    · subst e
      rw [if_neg (by omega), if_pos rfl, if_pos (by omega)]; omega
    · rw [if_neg e]
      by_cases q : f < i
      · rw [if_pos q, if_pos (by omega)]; omega
      · rw [if_neg q, if_neg (by omega)]; omega
theorem ld_zero (l : List Sp) : ∀ (i : Nat), ld l 0 i = 0
  | 0 => rfl
  | i + 1 => by simp [ld, ld_zero l i]
theorem pow_sub (f S : Nat) (h : S.testBit f = true) : 2 ^ f &&& S = 2 ^ f := by
  apply Nat.eq_of_testBit_eq
  intro i
  rw [Nat.testBit_and, Nat.testBit_two_pow]
  by_cases e : f = i
  · subst e; simp [h]
  · simp [e]
def nv (l : List Sp) (a : Int) (S f : Nat) (B : List Int) (sub : Nat) (v : Int) : Int :=
  if sub.testBit f = true ∧ 0 ≤ rd B ((S - sub : Nat) : Int) ∧ ld l sub l.length ≤ a then
    (if v < 0 then rd B ((S - sub : Nat) : Int) + 2 * (rd_T35 l (f : Int)).f0 else if rd B ((S - sub : Nat) : Int) + 2 * (rd_T35 l (f : Int)).f0 < v then rd B ((S - sub : Nat) : Int) + 2 * (rd_T35 l (f : Int)).f0 else v)
  else v
def BP (S : Nat) (B : List Int) : Prop := ∀ t : Nat, t < S → -1 ≤ rd B (t : Int) ∧ rd B (t : Int) ≤ 2000 * (t : Int)
def LP (l : List Sp) (S : Nat) (L : List Int) : Prop := L.length = 2 ^ l.length ∧ (∀ t : Nat, t < S → rd L (t : Int) = ld l t l.length) ∧ (∀ t : Nat, S ≤ t → rd L (t : Int) = 0)
theorem pow10 (n : Nat) (h : n ≤ 10) : 2 ^ n ≤ 1024 := by
  have : (2 : Nat) ^ n ≤ 2 ^ 10 := Nat.pow_le_pow_right (by omega) h
  omega
theorem impl_step (l : List Sp) (a : Int) (hn : l.length ≤ 10) (hok : ∀ s ∈ l, okSp s) (S f sub : Nat) (B L : List Int) (v R : Int) (hS : S < 2 ^ l.length) (hB : B.length = 2 ^ l.length) (hL : LP l (S + 1) L) (hf : f < l.length) (hs : sub &&& S = sub) (h0 : 0 < sub) (hbp : BP S B) (hr : 0 ≤ rd B ((S - sub : Nat) : Int)) (hv : -1 ≤ v ∧ v ≤ 2000 * (S : Int))
    (h : ∃ K, impl_LeastWay.l2 K l a (l.length : Int) L (B.set S (nv l a S f B sub v)) (S : Int) (f : Int) (((sub - 1) &&& S : Nat) : Int) = some R) :
    ∃ K, impl_LeastWay.l2 K l a (l.length : Int) L (B.set S v) (S : Int) (f : Int) (sub : Int) = some R := by
  have hN := pow10 l.length hn
  have hle : sub ≤ S := by rw [← hs]; exact Nat.and_le_right
  have hw2 : wrap64 ((sub : Int) - 1) = ((sub - 1 : Nat) : Int) := by rw [w64 (by omega) (by omega)]; omega
  have hrd : rd (B.set S v) ((S - sub : Nat) : Int) = rd B ((S - sub : Nat) : Int) := rd_set_ne B S (S - sub) v (by omega)
  have hb := hbp (S - sub) (by omega)
  have hof := hok l[f] (List.getElem_mem hf)
  have p1 := hof.1
  have hll := hL.1
  obtain ⟨K, h⟩ := h
  refine ⟨K + 1 + 1, ?_⟩
  unfold nv at h
  rw [rdIShop l f hf] at h
  simp only [impl_LeastWay.l2, impl_LeastWay.j3, bt_is sub f (by omega) (by omega), hw2, hrd, hL.2.1 sub (by omega), and_nat (sub - 1) S (by omega) (by omega), andNot_nat S sub (by omega) hs, List.length_set, rdIShop l f hf, rd_set_self B S v (by omega), Int.toNat_natCast, List.set_set]
  rw [if_pos (by omega), if_pos (by omega)]
  cases hbf : sub.testBit f with
  | false =>
    rw [if_neg (by simp [hbf])] at h
    simpa using h
  | true =>
    rw [if_neg (by simp), if_pos (by omega), if_pos (by omega)]
    by_cases hl : ld l sub l.length ≤ a
    · rw [if_pos ⟨hbf, hr, hl⟩] at h
      have e2 : wrap64 (2 * l[f].f0) = 2 * l[f].f0 := w64 (by omega) (by omega)
      have e3 : wrap64 (2 * l[f].f0 + rd B ((S - sub : Nat) : Int)) = rd B ((S - sub : Nat) : Int) + 2 * l[f].f0 := by rw [w64 (by omega) (by omega)]; omega
      rw [if_neg (by simp; omega), if_pos (by omega), if_pos (by omega), if_pos (by omega), if_pos (by omega), if_pos (by omega), if_pos (by omega), e2, e3]
      by_cases hv0 : v < 0
      · rw [if_pos hv0] at h ⊢; exact h
      · rw [if_neg hv0] at h ⊢
        by_cases hw : rd B ((S - sub : Nat) : Int) + 2 * l[f].f0 < v
        · rw [if_pos hw] at h ⊢; exact h
        · rw [if_neg hw] at h ⊢; exact h
    · rw [if_neg (fun q => hl q.2.2)] at h
      rw [if_pos (by simp; omega)]
      exact h
theorem impl_far (l : List Sp) (a : Int) (hn : l.length ≤ 10) (hok : ∀ s ∈ l, okSp s) (S : Nat) (B : List Int) (R : Int) (hS : S < 2 ^ l.length) (hB : B.length = 2 ^ l.length)
    (h : ∀ L, LP l (S + 1) L → ∃ K, impl_LeastWay.l2 K l a (l.length : Int) L (B.set S (-1)) (S : Int) ((far S l.length : Nat) : Int) (S : Int) = some R) :
    ∀ (d i : Nat) (L : List Int), i + d = l.length → L.length = 2 ^ l.length → (∀ t : Nat, t < S → rd L (t : Int) = ld l t l.length) → rd L (S : Int) = ld l S i → (∀ t : Nat, S < t → rd L (t : Int) = 0) →
      ∃ K, impl_LeastWay.l1 K l a (l.length : Int) L B (S : Int) ((far S i : Nat) : Int) (l.length : Int) (i : Int) = some R := by
  have hN := pow10 l.length hn
  intro d
  induction d with
  | zero =>
    intro i L hi hl h1 h2 h3
    obtain rfl : i = l.length := by omega
    obtain ⟨K, q⟩ := h L ⟨hl, fun t ht => by
      by_cases e : t = S
      · subst e; exact h2
      · exact h1 t (by omega), fun t ht => h3 t (by omega)⟩
    refine ⟨K + 1, ?_⟩
    simp only [impl_LeastWay.l1]
    rw [if_neg (by omega), if_pos (by omega), if_pos (by omega), Int.toNat_natCast]
    exact q
  | succ d ih =>
    intro i L hi hl h1 h2 h3
    have hi' : i < l.length := by omega
    have hbd := ld_bd l hok S i (by omega)
    have hoi := (hok l[i] (List.getElem_mem hi')).2
    cases hb : S.testBit i with
    | true =>
      have e : wrap64 (ld l S i + l[i].f1) = ld l S (i + 1) := by
        simp only [ld, rdIShop l i hi', hb, if_true]
        exact w64 (by omega) (by omega)
      obtain ⟨K, q⟩ := ih (i + 1) (L.set S (ld l S (i + 1))) (by omega) (by rw [List.length_set]; exact hl) (fun t ht => by rw [rd_set_ne _ _ _ _ (by omega)]; exact h1 t ht) (rd_set_self L S _ (by omega)) (fun t ht => by rw [rd_set_ne _ _ _ _ (by omega)]; exact h3 t ht)
      refine ⟨K + 1, ?_⟩
      simp only [far, hb, if_true] at q
      simp only [impl_LeastWay.l1, bt_is S i (by omega) (by omega), rdIShop l i hi', h2, e, hb]
      rw [if_pos (by omega), if_pos (by omega), if_pos (by simp), if_pos (by omega), if_pos (by omega), if_pos (by omega), wn i (by omega), Int.toNat_natCast]
      exact q
    | false =>
      obtain ⟨K, q⟩ := ih (i + 1) L (by omega) hl h1 (by simp only [ld, hb]; rw [h2]; simp) h3
      refine ⟨K + 1, ?_⟩
      simp only [far, hb] at q
      simp only [impl_LeastWay.l1, bt_is S i (by omega) (by omega), hb]
      rw [if_pos (by omega), if_pos (by omega), if_neg (by simp), wn i (by omega)]
      simpa using q
theorem nv_bd (l : List Sp) (a : Int) (hok : ∀ s ∈ l, okSp s) (S f sub : Nat) (B : List Int) (v : Int) (hf : f < l.length) (h0 : 0 < sub) (hle : sub ≤ S) (hbp : BP S B) (hv : -1 ≤ v ∧ v ≤ 2000 * (S : Int)) : -1 ≤ nv l a S f B sub v ∧ nv l a S f B sub v ≤ 2000 * (S : Int) ∧ (0 ≤ v → 0 ≤ nv l a S f B sub v) := by
  have hb := hbp (S - sub) (by omega)
  have p1 := (hok l[f] (List.getElem_mem hf)).1
  unfold nv
  rw [rdIShop l f hf]
  split
  · rename_i hc
    have := hc.2.1
    split
    · omega
    · split <;> omega
  · omega
theorem rd_zeros (n t : Nat) : rd (List.replicate n (0 : Int)) (t : Int) = 0 := by
  unfold rd
  rw [List.getD_eq_getElem?_getD, Int.toNat_natCast, List.getElem?_replicate]
  split <;> rfl
def farT (l : List Sp) : List Int → Int → Int
  | [], f => f
  | x :: xs, f => farT l xs (mx f (rd_T35 l x).f0)
def wayT (l : List Sp) : List (List Int) → Int
  | [] => 0
  | T :: Ts => 2 * farT l T 0 + wayT l Ts
theorem farT_bd (l : List Sp) (hok : ∀ s ∈ l, okSp s) : ∀ (T : List Int) (f : Int), (∀ x ∈ T, 0 ≤ x ∧ x < (l.length : Int)) → 0 ≤ f → f ≤ 1000 → 0 ≤ farT l T f ∧ farT l T f ≤ 1000
  | [], f, _, h0, h1 => ⟨h0, h1⟩
  | x :: xs, f, hin, h0, h1 => by
    have hs := shop_at l hok x (hin x (by simp)).1 (hin x (by simp)).2
    unfold okSp at hs
    exact farT_bd l hok xs _ (fun y hy => hin y (by simp [hy])) (by unfold mx; split <;> omega) (by unfold mx; split <;> omega)
end Go.Proofs.Ytciceapcnjoogaa.Pure
