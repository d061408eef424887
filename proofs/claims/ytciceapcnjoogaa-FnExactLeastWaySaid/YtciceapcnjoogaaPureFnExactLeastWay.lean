/- The least way: the law. -/
import Derived.Test.YtciceapcnjoogaaBits
namespace Go.Proofs.Ytciceapcnjoogaa.Pure
set_option linter.unusedVariables false
set_option linter.unusedSimpArgs false
open Go.RowKit Go.Proofs.Ytciceapcnjoogaa.PD Go.Proofs.Ytciceapcnjoogaa.Base Go.Proofs.YtciceapcnjoogaaW.PrintWords Go.Proofs.YtciceapcnjoogaaW.PrintLast

def ld (l : List Sp) (s : Nat) : Nat → Int
  | 0 => 0
  | i + 1 => ld l s i + (if s.testBit i = true then (rd_T35 l (i : Int)).f1 else 0)
def far (s : Nat) : Nat → Nat
  | 0 => 0
  | i + 1 => if s.testBit i = true then i else far s i
theorem rd_set_self (B : List Int) (S : Nat) (v : Int) (h : S < B.length) : rd (B.set S v) (S : Int) = v := by
  unfold rd
  rw [List.getD_eq_getElem?_getD, Int.toNat_natCast, List.getElem?_set_self h]
  rfl
theorem rd_set_ne (B : List Int) (S t : Nat) (v : Int) (h : t ≠ S) : rd (B.set S v) (t : Int) = rd B (t : Int) := by
  unfold rd
  rw [List.getD_eq_getElem?_getD, List.getD_eq_getElem?_getD, Int.toNat_natCast, List.getElem?_set_ne (fun e => h e.symm)]
theorem far_is (s : Nat) : ∀ (i : Nat), (∃ j, j < i ∧ s.testBit j = true) → s.testBit (far s i) = true ∧ far s i < i
  | 0, ⟨j, h, _⟩ => absurd h (by omega)
  | i + 1, ⟨j, h, hj⟩ => by
    simp only [far]
    by_cases e : s.testBit i = true
    · rw [if_pos e]; exact ⟨e, by omega⟩
    · rw [if_neg e]
      have hji : j ≠ i := fun q => e (q ▸ hj)
      have := far_is s i ⟨j, by omega, hj⟩
      exact ⟨this.1, by omega⟩
theorem far_lt (s : Nat) : ∀ (i : Nat), 0 < i → far s i < i
  | 0, h => absurd h (by omega)
  | i + 1, _ => by
    simp only [far]
    split
    · omega
    · by_cases h : 0 < i
      · have := far_lt s i h; omega
      · obtain rfl : i = 0 := by omega
        simp [far]
theorem some_bit (s n : Nat) (h0 : 0 < s) (h1 : s < 2 ^ n) : ∃ j, j < n ∧ s.testBit j = true := by
  obtain ⟨j, hj⟩ := Nat.exists_testBit_of_ne_zero (show s ≠ 0 by omega)
  refine ⟨j, ?_, hj⟩
  rcases Nat.lt_or_ge j n with h | h
  · exact h
  · have : s < 2 ^ j := Nat.lt_of_lt_of_le h1 (Nat.pow_le_pow_right (by omega) h)
    rw [Nat.testBit_lt_two_pow this] at hj
    cases hj
theorem ld_bd (l : List Sp) (hok : ∀ s ∈ l, okSp s) (s : Nat) : ∀ (i : Nat), i ≤ l.length → 0 ≤ ld l s i ∧ ld l s i ≤ 100 * (i : Int)
  | 0, _ => by simp [ld]
  | i + 1, h => by
    have h1 := ld_bd l hok s i (by omega)
    have h2 := hok l[i] (List.getElem_mem (by omega))
    simp only [ld]
    rw [rdIShop l i (by omega)]
    have := h2.2
    split <;> omega
theorem ld_ge (l : List Sp) (hok : ∀ s ∈ l, okSp s) (s m : Nat) (hm : m < l.length) (hb : s.testBit m = true) : ∀ (i : Nat), i ≤ l.length → m < i → l[m].f1 ≤ ld l s i
  | 0, _, h => absurd h (by omega)
  | i + 1, h, hmi => by
    have h1 := ld_bd l hok s i (by omega)
    have h2 := hok l[i] (List.getElem_mem (by omega))
    have := h2.2
    simp only [ld]
    rw [rdIShop l i (by omega)]
    by_cases e : m = i
    · subst e
      rw [if_pos hb]; omega
    · have := ld_ge l hok s m hm hb i (by omega) (by omega)
      split <;> omega
theorem ld_pow (l : List Sp) (f : Nat) : ∀ (i : Nat), ld l (2 ^ f) i = if f < i then (rd_T35 l (f : Int)).f1 else 0
  | 0 => by simp [ld]
  | i + 1 => by
    simp only [ld, ld_pow l f i, Nat.testBit_two_pow, decide_eq_true_eq]
    by_cases e : f = i
    · subst e
      rw [if_neg (by omega), if_pos rfl, if_pos (by omega)]; omega
    · rw [if_neg e]
      by_cases q : f < i
      · rw [if_pos q, if_pos (by omega)]; omega
      · rw [if_neg q, if_neg (by omega)]; omega
theorem ld_zero (l : List Sp) : ∀ (i : Nat), ld l 0 i = 0
  | 0 => rfl
  | i + 1 => by simp [ld, ld_zero l i]
theorem pow_sub (f S : Nat) (h : S.testBit f = true) : 2 ^ f &&& S = 2 ^ f := by
  apply Nat.eq_of_testBit_eq
  intro i
  rw [Nat.testBit_and, Nat.testBit_two_pow]
  by_cases e : f = i
  · subst e; simp [h]
  · simp [e]
/-- What stands for S after the subset has been looked at. -/
def nv (l : List Sp) (a : Int) (S f : Nat) (B : List Int) (sub : Nat) (v : Int) : Int :=
  if sub.testBit f = true ∧ 0 ≤ rd B ((S - sub : Nat) : Int) ∧ ld l sub l.length ≤ a then
    (if v < 0 then rd B ((S - sub : Nat) : Int) + 2 * (rd_T35 l (f : Int)).f0 else if rd B ((S - sub : Nat) : Int) + 2 * (rd_T35 l (f : Int)).f0 < v then rd B ((S - sub : Nat) : Int) + 2 * (rd_T35 l (f : Int)).f0 else v)
  else v
def BP (S : Nat) (B : List Int) : Prop := ∀ t : Nat, t < S → -1 ≤ rd B (t : Int) ∧ rd B (t : Int) ≤ 2000 * (t : Int)
def LP (l : List Sp) (S : Nat) (L : List Int) : Prop := L.length = 2 ^ l.length ∧ (∀ t : Nat, t < S → rd L (t : Int) = ld l t l.length) ∧ (∀ t : Nat, S ≤ t → rd L (t : Int) = 0)
theorem pow10 (n : Nat) (h : n ≤ 10) : 2 ^ n ≤ 1024 := by
  have : (2 : Nat) ^ n ≤ 2 ^ 10 := Nat.pow_le_pow_right (by omega) h
  omega
theorem spec_l3 (l : List Sp) (a : Int) (hn : l.length ≤ 10) (hok : ∀ s ∈ l, okSp s) (S f sub : Nat) (B : List Int) (v R : Int) (hS : S < 2 ^ l.length) (hB : B.length = 2 ^ l.length) (hf : f < l.length) (hs : sub &&& S = sub) (h0 : 0 < sub) (hbf : sub.testBit f = true) (hbp : BP S B) (hr : 0 ≤ rd B ((S - sub : Nat) : Int)) (hv : -1 ≤ v ∧ v ≤ 2000 * (S : Int))
    (h : ∃ K, spec_LeastWay.l2 K l a (l.length : Int) (B.set S (nv l a S f B sub v)) (S : Int) (f : Int) (((sub - 1) &&& S : Nat) : Int) = some R) :
    ∀ (d i : Nat), i + d = l.length → ∃ K, spec_LeastWay.l3 K l a (l.length : Int) (B.set S v) (S : Int) (f : Int) (sub : Int) (ld l sub i) (i : Int) = some R := by
  have hN := pow10 l.length hn
  have hle : sub ≤ S := by rw [← hs]; exact Nat.and_le_right
  have hw1 : wrap64 ((S : Int) - (sub : Int)) = ((S - sub : Nat) : Int) := by rw [w64 (by omega) (by omega)]; omega
  have hw2 : wrap64 ((sub : Int) - 1) = ((sub - 1 : Nat) : Int) := by rw [w64 (by omega) (by omega)]; omega
  have hrd : rd (B.set S v) ((S - sub : Nat) : Int) = rd B ((S - sub : Nat) : Int) := rd_set_ne B S (S - sub) v (by omega)
  have hb := hbp (S - sub) (by omega)
  have hof := hok l[f] (List.getElem_mem hf)
  intro d
  induction d with
  | zero =>
    intro i hi
    obtain rfl : i = l.length := by omega
    obtain ⟨K, h⟩ := h
    refine ⟨K + 1, ?_⟩
    have p1 := hof.1
    simp only [spec_LeastWay.l3, hw1, hw2, hrd, rd_set_self B S v (by omega), and_nat (sub - 1) S (by omega) (by omega), List.length_set, Int.toNat_natCast, List.set_set]
    rw [rdIShop l f hf] at *
    rw [if_neg (by omega), if_pos (by omega), if_pos (by omega), if_pos (by omega), if_pos (by omega)]
    have e2 : wrap64 (2 * l[f].f0) = 2 * l[f].f0 := w64 (by omega) (by omega)
    have e3 : wrap64 (rd B ((S - sub : Nat) : Int) + 2 * l[f].f0) = rd B ((S - sub : Nat) : Int) + 2 * l[f].f0 := w64 (by omega) (by omega)
    rw [e2, e3]
    unfold nv at h
    rw [rdIShop l f hf] at h
    by_cases hl : ld l sub l.length ≤ a
    · rw [if_pos ⟨hbf, hr, hl⟩] at h
      rw [if_pos hl, if_pos (by omega), if_pos (by omega)]
      by_cases hv0 : v < 0
      · rw [if_pos hv0] at h ⊢; exact h
      · rw [if_neg hv0] at h ⊢
        by_cases hw : rd B ((S - sub : Nat) : Int) + 2 * l[f].f0 < v
        · rw [if_pos hw] at h ⊢; exact h
        · rw [if_neg hw] at h ⊢; exact h
    · rw [if_neg (fun q => hl q.2.2)] at h
      rw [if_neg hl]; exact h
  | succ d ih =>
    intro i hi
    have hi' : i < l.length := by omega
    obtain ⟨K, q⟩ := ih (i + 1) (by omega)
    refine ⟨K + 1, ?_⟩
    have hbd := ld_bd l hok sub i (by omega)
    have hoi := (hok l[i] (List.getElem_mem hi')).2
    simp only [spec_LeastWay.l3, bt_is sub i (by omega) (by omega), rdIShop l i hi']
    rw [if_pos (by omega), if_pos (by omega), wn i (by omega)]
    simp only [ld, rdIShop l i hi'] at q
    cases hbi : sub.testBit i with
    | true =>
      rw [hbi] at q
      simp only [if_true] at q ⊢
      rw [if_pos (by omega), w64 (by omega) (by omega)]
      exact q
    | false =>
      rw [hbi] at q
      simp only [Bool.false_eq_true, if_false, Int.add_zero] at q ⊢
      rw [if_neg (by omega)]
      exact q
theorem spec_step (l : List Sp) (a : Int) (hn : l.length ≤ 10) (hok : ∀ s ∈ l, okSp s) (S f sub : Nat) (B : List Int) (v R : Int) (hS : S < 2 ^ l.length) (hB : B.length = 2 ^ l.length) (hf : f < l.length) (hs : sub &&& S = sub) (h0 : 0 < sub) (hbp : BP S B) (hv : -1 ≤ v ∧ v ≤ 2000 * (S : Int))
    (h : ∃ K, spec_LeastWay.l2 K l a (l.length : Int) (B.set S (nv l a S f B sub v)) (S : Int) (f : Int) (((sub - 1) &&& S : Nat) : Int) = some R) :
    ∃ K, spec_LeastWay.l2 K l a (l.length : Int) (B.set S v) (S : Int) (f : Int) (sub : Int) = some R := by
  have hN := pow10 l.length hn
  have hle : sub ≤ S := by rw [← hs]; exact Nat.and_le_right
  have hw1 : wrap64 ((S : Int) - (sub : Int)) = ((S - sub : Nat) : Int) := by rw [w64 (by omega) (by omega)]; omega
  have hw2 : wrap64 ((sub : Int) - 1) = ((sub - 1 : Nat) : Int) := by rw [w64 (by omega) (by omega)]; omega
  have hrd : rd (B.set S v) ((S - sub : Nat) : Int) = rd B ((S - sub : Nat) : Int) := rd_set_ne B S (S - sub) v (by omega)
  cases hbf : sub.testBit f with
  | false =>
    have e : nv l a S f B sub v = v := by unfold nv; rw [if_neg (by simp [hbf])]
    rw [e] at h
    obtain ⟨K, h⟩ := h
    refine ⟨K + 1 + 1, ?_⟩
    simp only [spec_LeastWay.l2, spec_LeastWay.j4, bt_is sub f (by omega) (by omega), hbf, hw2, and_nat (sub - 1) S (by omega) (by omega)]
    rw [if_pos (by omega), if_pos (by omega), if_pos (by simp)]
    simpa using h
  | true =>
    by_cases hr : rd B ((S - sub : Nat) : Int) < 0
    · have e : nv l a S f B sub v = v := by unfold nv; rw [if_neg (fun q => by omega)]
      rw [e] at h
      obtain ⟨K, h⟩ := h
      refine ⟨K + 1 + 1, ?_⟩
      simp only [spec_LeastWay.l2, spec_LeastWay.j4, bt_is sub f (by omega) (by omega), hbf, hw1, hw2, hrd, and_nat (sub - 1) S (by omega) (by omega), List.length_set]
      rw [if_pos (by omega), if_pos (by omega), if_neg (by simp), if_pos (by omega), if_pos (by omega), if_pos (by simpa using hr)]
      exact h
    · obtain ⟨K, q⟩ := spec_l3 l a hn hok S f sub B v R hS hB hf hs h0 hbf hbp (by omega) hv h l.length 0 (by omega)
      refine ⟨K + 1 + 1, ?_⟩
      simp only [spec_LeastWay.l2, spec_LeastWay.j4, bt_is sub f (by omega) (by omega), hbf, hw1, hw2, hrd, List.length_set]
      rw [if_pos (by omega), if_pos (by omega), if_neg (by simp), if_pos (by omega), if_pos (by omega), if_neg (by simpa using hr)]
      exact q
theorem impl_step (l : List Sp) (a : Int) (hn : l.length ≤ 10) (hok : ∀ s ∈ l, okSp s) (S f sub : Nat) (B L : List Int) (v R : Int) (hS : S < 2 ^ l.length) (hB : B.length = 2 ^ l.length) (hL : LP l (S + 1) L) (hf : f < l.length) (hs : sub &&& S = sub) (h0 : 0 < sub) (hbp : BP S B) (hr : 0 ≤ rd B ((S - sub : Nat) : Int)) (hv : -1 ≤ v ∧ v ≤ 2000 * (S : Int))
    (h : ∃ K, impl_LeastWay.l2 K l a (l.length : Int) L (B.set S (nv l a S f B sub v)) (S : Int) (f : Int) (((sub - 1) &&& S : Nat) : Int) = some R) :
    ∃ K, impl_LeastWay.l2 K l a (l.length : Int) L (B.set S v) (S : Int) (f : Int) (sub : Int) = some R := by
  have hN := pow10 l.length hn
  have hle : sub ≤ S := by rw [← hs]; exact Nat.and_le_right
  have hw2 : wrap64 ((sub : Int) - 1) = ((sub - 1 : Nat) : Int) := by rw [w64 (by omega) (by omega)]; omega
  have hrd : rd (B.set S v) ((S - sub : Nat) : Int) = rd B ((S - sub : Nat) : Int) := rd_set_ne B S (S - sub) v (by omega)
  have hb := hbp (S - sub) (by omega)
  have hof := hok l[f] (List.getElem_mem hf)
  have p1 := hof.1
  have hll := hL.1
  obtain ⟨K, h⟩ := h
  refine ⟨K + 1 + 1, ?_⟩
  unfold nv at h
  rw [rdIShop l f hf] at h
  simp only [impl_LeastWay.l2, impl_LeastWay.j3, bt_is sub f (by omega) (by omega), hw2, hrd, hL.2.1 sub (by omega), and_nat (sub - 1) S (by omega) (by omega), andNot_nat S sub (by omega) hs, List.length_set, rdIShop l f hf, rd_set_self B S v (by omega), Int.toNat_natCast, List.set_set]
  rw [if_pos (by omega), if_pos (by omega)]
  cases hbf : sub.testBit f with
  | false =>
    rw [if_neg (by simp [hbf])] at h
    simpa using h
  | true =>
    rw [if_neg (by simp), if_pos (by omega), if_pos (by omega)]
    by_cases hl : ld l sub l.length ≤ a
    · rw [if_pos ⟨hbf, hr, hl⟩] at h
      have e2 : wrap64 (2 * l[f].f0) = 2 * l[f].f0 := w64 (by omega) (by omega)
      have e3 : wrap64 (2 * l[f].f0 + rd B ((S - sub : Nat) : Int)) = rd B ((S - sub : Nat) : Int) + 2 * l[f].f0 := by rw [w64 (by omega) (by omega)]; omega
      rw [if_neg (by simp; omega), if_pos (by omega), if_pos (by omega), if_pos (by omega), if_pos (by omega), if_pos (by omega), if_pos (by omega), e2, e3]
      by_cases hv0 : v < 0
      · rw [if_pos hv0] at h ⊢; exact h
      · rw [if_neg hv0] at h ⊢
        by_cases hw : rd B ((S - sub : Nat) : Int) + 2 * l[f].f0 < v
        · rw [if_pos hw] at h ⊢; exact h
        · rw [if_neg hw] at h ⊢; exact h
    · rw [if_neg (fun q => hl q.2.2)] at h
      rw [if_pos (by simp; omega)]
      exact h
theorem spec_far (l : List Sp) (a : Int) (hn : l.length ≤ 10) (S : Nat) (B : List Int) (R : Int) (hS : S < 2 ^ l.length) (h : ∃ K, spec_LeastWay.l2 K l a (l.length : Int) B (S : Int) ((far S l.length : Nat) : Int) (S : Int) = some R) :
    ∀ (d i : Nat), i + d = l.length → ∃ K, spec_LeastWay.l1 K l a (l.length : Int) B (S : Int) ((far S i : Nat) : Int) (i : Int) = some R := by
  have hN := pow10 l.length hn
  intro d
  induction d with
  | zero =>
    intro i hi
    obtain rfl : i = l.length := by omega
    obtain ⟨K, h⟩ := h
    refine ⟨K + 1, ?_⟩
    simp only [spec_LeastWay.l1]
    rw [if_neg (by omega)]
    exact h
  | succ d ih =>
    intro i hi
    obtain ⟨K, q⟩ := ih (i + 1) (by omega)
    refine ⟨K + 1, ?_⟩
    simp only [far] at q
    simp only [spec_LeastWay.l1, bt_is S i (by omega) (by omega)]
    rw [if_pos (by omega), if_pos (by omega), wn i (by omega)]
    cases hb : S.testBit i with
    | true =>
      rw [hb, if_pos rfl] at q
      rw [if_pos (by simp)]
      exact q
    | false =>
      rw [hb, if_neg (by simp)] at q
      rw [if_neg (by simp)]
      exact q
theorem impl_far (l : List Sp) (a : Int) (hn : l.length ≤ 10) (hok : ∀ s ∈ l, okSp s) (S : Nat) (B : List Int) (R : Int) (hS : S < 2 ^ l.length) (hB : B.length = 2 ^ l.length)
    (h : ∀ L, LP l (S + 1) L → ∃ K, impl_LeastWay.l2 K l a (l.length : Int) L (B.set S (-1)) (S : Int) ((far S l.length : Nat) : Int) (S : Int) = some R) :
    ∀ (d i : Nat) (L : List Int), i + d = l.length → L.length = 2 ^ l.length → (∀ t : Nat, t < S → rd L (t : Int) = ld l t l.length) → rd L (S : Int) = ld l S i → (∀ t : Nat, S < t → rd L (t : Int) = 0) →
      ∃ K, impl_LeastWay.l1 K l a (l.length : Int) L B (S : Int) ((far S i : Nat) : Int) (l.length : Int) (i : Int) = some R := by
  have hN := pow10 l.length hn
  intro d
  induction d with
  | zero =>
    intro i L hi hl h1 h2 h3
    obtain rfl : i = l.length := by omega
    obtain ⟨K, q⟩ := h L ⟨hl, fun t ht => by
      by_cases e : t = S
      · subst e; exact h2
      · exact h1 t (by omega), fun t ht => h3 t (by omega)⟩
    refine ⟨K + 1, ?_⟩
    simp only [impl_LeastWay.l1]
    rw [if_neg (by omega), if_pos (by omega), if_pos (by omega), Int.toNat_natCast]
    exact q
  | succ d ih =>
    intro i L hi hl h1 h2 h3
    have hi' : i < l.length := by omega
    have hbd := ld_bd l hok S i (by omega)
    have hoi := (hok l[i] (List.getElem_mem hi')).2
    cases hb : S.testBit i with
    | true =>
      have e : wrap64 (ld l S i + l[i].f1) = ld l S (i + 1) := by
        simp only [ld, rdIShop l i hi', hb, if_true]
        exact w64 (by omega) (by omega)
      obtain ⟨K, q⟩ := ih (i + 1) (L.set S (ld l S (i + 1))) (by omega) (by rw [List.length_set]; exact hl) (fun t ht => by rw [rd_set_ne _ _ _ _ (by omega)]; exact h1 t ht) (rd_set_self L S _ (by omega)) (fun t ht => by rw [rd_set_ne _ _ _ _ (by omega)]; exact h3 t ht)
      refine ⟨K + 1, ?_⟩
      simp only [far, hb, if_true] at q
      simp only [impl_LeastWay.l1, bt_is S i (by omega) (by omega), rdIShop l i hi', h2, e, hb]
      rw [if_pos (by omega), if_pos (by omega), if_pos (by simp), if_pos (by omega), if_pos (by omega), if_pos (by omega), wn i (by omega), Int.toNat_natCast]
      exact q
    | false =>
      obtain ⟨K, q⟩ := ih (i + 1) L (by omega) hl h1 (by simp only [ld, hb]; rw [h2]; simp) h3
      refine ⟨K + 1, ?_⟩
      simp only [far, hb] at q
      simp only [impl_LeastWay.l1, bt_is S i (by omega) (by omega), hb]
      rw [if_pos (by omega), if_pos (by omega), if_neg (by simp), wn i (by omega)]
      simpa using q
theorem nv_bd (l : List Sp) (a : Int) (hok : ∀ s ∈ l, okSp s) (S f sub : Nat) (B : List Int) (v : Int) (hf : f < l.length) (h0 : 0 < sub) (hle : sub ≤ S) (hbp : BP S B) (hv : -1 ≤ v ∧ v ≤ 2000 * (S : Int)) : -1 ≤ nv l a S f B sub v ∧ nv l a S f B sub v ≤ 2000 * (S : Int) ∧ (0 ≤ v → 0 ≤ nv l a S f B sub v) := by
  have hb := hbp (S - sub) (by omega)
  have p1 := (hok l[f] (List.getElem_mem hf)).1
  unfold nv
  rw [rdIShop l f hf]
  split
  · rename_i hc
    have := hc.2.1
    split
    · omega
    · split <;> omega
  · omega
theorem sync (l : List Sp) (a : Int) (hn : l.length ≤ 10) (hok : ∀ s ∈ l, okSp s) (hcap : ∀ s ∈ l, s.f1 ≤ a) (S : Nat) (B : List Int) (hS0 : 0 < S) (hS : S < 2 ^ l.length) (hB : B.length = 2 ^ l.length) (hbp : ∀ t : Nat, t < S → 0 ≤ rd B (t : Int) ∧ rd B (t : Int) ≤ 2000 * (t : Int))
    (IH : ∀ v : Int, 0 ≤ v → v ≤ 2000 * (S : Int) → ∃ r, (∃ K, spec_LeastWay.l0 K l a (l.length : Int) (B.set S v) ((S + 1 : Nat) : Int) = some r) ∧ ∀ L, LP l (S + 1) L → ∃ K, impl_LeastWay.l0 K l a (l.length : Int) L (B.set S v) ((S + 1 : Nat) : Int) = some r) :
    ∀ (sub : Nat) (v : Int), sub &&& S = sub → -1 ≤ v → v ≤ 2000 * (S : Int) → (0 ≤ v ∨ 2 ^ (far S l.length) ≤ sub) →
      ∃ r, (∃ K, spec_LeastWay.l2 K l a (l.length : Int) (B.set S v) (S : Int) ((far S l.length : Nat) : Int) (sub : Int) = some r) ∧ ∀ L, LP l (S + 1) L → ∃ K, impl_LeastWay.l2 K l a (l.length : Int) L (B.set S v) (S : Int) ((far S l.length : Nat) : Int) (sub : Int) = some r := by
  have hN := pow10 l.length hn
  obtain ⟨hfb, hf⟩ := far_is S l.length (some_bit S l.length hS0 hS)
  generalize far S l.length = f at hfb hf
  have hbp' : BP S B := fun t ht => by have := hbp t ht; omega
  intro sub
  induction sub using Nat.strongRecOn with
  | _ sub ih =>
    intro v hs hv0 hv1 hor
    have hle : sub ≤ S := by rw [← hs]; exact Nat.and_le_right
    by_cases h0 : sub = 0
    · subst h0
      have hp : 0 < 2 ^ f := Nat.two_pow_pos f
      obtain ⟨r, ⟨K, q1⟩, q2⟩ := IH v (by omega) hv1
      refine ⟨r, ⟨K + 1, ?_⟩, fun L hL => ?_⟩
      · simp only [spec_LeastWay.l2]
        rw [if_neg (by omega), wn S (by omega)]
        exact q1
      · obtain ⟨K, q⟩ := q2 L hL
        refine ⟨K + 1, ?_⟩
        simp only [impl_LeastWay.l2]
        rw [if_neg (by omega), wn S (by omega)]
        exact q
    · have hb := nv_bd l a hok S f sub B v hf (by omega) hle hbp' ⟨hv0, hv1⟩
      have hlt : (sub - 1) &&& S < sub := Nat.lt_of_le_of_lt Nat.and_le_left (by omega)
      have hr := (hbp (S - sub) (by omega)).1
      obtain ⟨r, q1, q2⟩ := ih ((sub - 1) &&& S) hlt (nv l a S f B sub v) (by rw [Nat.and_assoc, Nat.and_self]) hb.1 hb.2.1 (by
        rcases hor with h | h
        · exact Or.inl (hb.2.2 h)
        · by_cases e : sub = 2 ^ f
          · left
            have hbf : sub.testBit f = true := by rw [e, Nat.testBit_two_pow]; simp
            have hld : ld l sub l.length ≤ a := by
              rw [e, ld_pow, if_pos hf, rdIShop l f hf]
              exact hcap _ (List.getElem_mem hf)
            have p1 := (hok l[f] (List.getElem_mem hf)).1
            unfold nv
            rw [if_pos ⟨hbf, hr, hld⟩, rdIShop l f hf]
            split
            · omega
            · split <;> omega
          · right
            exact sub_reach sub S (2 ^ f) hs (pow_sub f S hfb) (by omega))
      refine ⟨r, spec_step l a hn hok S f sub B v r hS hB hf hs (by omega) hbp' ⟨hv0, hv1⟩ q1, fun L hL => impl_step l a hn hok S f sub B L v r hS hB hL hf hs (by omega) hbp' hr ⟨hv0, hv1⟩ (q2 L hL)⟩
theorem outer (l : List Sp) (a : Int) (hn : l.length ≤ 10) (hok : ∀ s ∈ l, okSp s) (hcap : ∀ s ∈ l, s.f1 ≤ a) :
    ∀ (d S : Nat) (B : List Int), S + d = 2 ^ l.length → 0 < S → B.length = 2 ^ l.length → (∀ t : Nat, t < S → 0 ≤ rd B (t : Int) ∧ rd B (t : Int) ≤ 2000 * (t : Int)) →
      ∃ r, (∃ K, spec_LeastWay.l0 K l a (l.length : Int) B (S : Int) = some r) ∧ ∀ L, LP l S L → ∃ K, impl_LeastWay.l0 K l a (l.length : Int) L B (S : Int) = some r := by
  have hN := pow10 l.length hn
  intro d
  induction d with
  | zero =>
    intro S B hS h0 hB hbp
    have hw : wrap64 (((2 ^ l.length : Nat) : Int) - 1) = ((2 ^ l.length - 1 : Nat) : Int) := by
      have hp : 0 < 2 ^ l.length := Nat.two_pow_pos _
      rw [w64 (by omega) (by omega)]; omega
    refine ⟨rd B ((2 ^ l.length - 1 : Nat) : Int), ⟨1, ?_⟩, fun L _ => ⟨1, ?_⟩⟩
    · simp only [spec_LeastWay.l0, shl_nat _ hn, hw]
      rw [if_pos (by omega), if_neg (by omega), if_pos (by omega), if_pos (by omega)]
    · simp only [impl_LeastWay.l0, shl_nat _ hn, hw]
      rw [if_pos (by omega), if_neg (by omega), if_pos (by omega), if_pos (by omega)]
  | succ d ih =>
    intro S B hS h0 hB hbp
    obtain ⟨hfb, hf⟩ := far_is S l.length (some_bit S l.length h0 (by omega))
    have hfS : 2 ^ far S l.length ≤ S := by rw [← pow_sub _ S hfb]; exact Nat.and_le_right
    obtain ⟨r, q1, q2⟩ := sync l a hn hok hcap S B h0 (by omega) hB hbp (fun v hv0 hv1 => ih (S + 1) (B.set S v) (by omega) (by omega) (by rw [List.length_set]; exact hB) (fun t ht => by
      by_cases e : t = S
      · subst e
        rw [rd_set_self B t v (by omega)]
        exact ⟨hv0, hv1⟩
      · rw [rd_set_ne B S t v e]
        exact hbp t (by omega))) S (-1) (Nat.and_self S) (by omega) (by omega) (Or.inr hfS)
    refine ⟨r, ?_, fun L hL => ?_⟩
    · obtain ⟨K, q⟩ := spec_far l a hn S (B.set S (-1)) r (by omega) q1 l.length 0 (by omega)
      refine ⟨K + 1, ?_⟩
      simp only [spec_LeastWay.l0, shl_nat _ hn]
      rw [if_pos (by omega), if_pos (by omega), if_pos (by omega), if_pos (by omega), Int.toNat_natCast]
      exact q
    · obtain ⟨K, q⟩ := impl_far l a hn hok S B r (by omega) hB q2 l.length 0 L (by omega) hL.1 hL.2.1 (hL.2.2 S (Nat.le_refl _)) (fun t ht => hL.2.2 t (by omega))
      refine ⟨K + 1, ?_⟩
      simp only [impl_LeastWay.l0, shl_nat _ hn]
      rw [if_pos (by omega), if_pos (by omega)]
      exact q

/-! ### a shop that no van can carry -/
theorem sync_f (l : List Sp) (a : Int) (hn : l.length ≤ 10) (hok : ∀ s ∈ l, okSp s) (m : Nat) (hm : m < l.length) (hbad : a < l[m].f1) (S : Nat) (B : List Int) (hS0 : 0 < S) (hS : S < 2 ^ l.length) (hB : B.length = 2 ^ l.length) (hbp : BP S B) (hneg : ∀ t : Nat, t < S → t.testBit m = true → rd B (t : Int) = -1)
    (IH : ∀ v : Int, -1 ≤ v → v ≤ 2000 * (S : Int) → (S.testBit m = true → v = -1) → ∃ K, spec_LeastWay.l0 K l a (l.length : Int) (B.set S v) ((S + 1 : Nat) : Int) = some (-1)) :
    ∀ (sub : Nat) (v : Int), sub &&& S = sub → -1 ≤ v → v ≤ 2000 * (S : Int) → (S.testBit m = true → v = -1) →
      ∃ K, spec_LeastWay.l2 K l a (l.length : Int) (B.set S v) (S : Int) ((far S l.length : Nat) : Int) (sub : Int) = some (-1) := by
  have hN := pow10 l.length hn
  obtain ⟨hfb, hf⟩ := far_is S l.length (some_bit S l.length hS0 hS)
  generalize far S l.length = f at hfb hf
  intro sub
  induction sub using Nat.strongRecOn with
  | _ sub ih =>
    intro v hs hv0 hv1 hvm
    have hle : sub ≤ S := by rw [← hs]; exact Nat.and_le_right
    by_cases h0 : sub = 0
    · subst h0
      obtain ⟨K, q⟩ := IH v hv0 hv1 hvm
      refine ⟨K + 1, ?_⟩
      simp only [spec_LeastWay.l2]
      rw [if_neg (by omega), wn S (by omega)]
      exact q
    · have hb := nv_bd l a hok S f sub B v hf (by omega) hle hbp ⟨hv0, hv1⟩
      have hlt : (sub - 1) &&& S < sub := Nat.lt_of_le_of_lt Nat.and_le_left (by omega)
      refine spec_step l a hn hok S f sub B v (-1) hS hB hf hs (by omega) hbp ⟨hv0, hv1⟩ (ih ((sub - 1) &&& S) hlt (nv l a S f B sub v) (by rw [Nat.and_assoc, Nat.and_self]) hb.1 hb.2.1 (fun hSm => ?_))
      have hv := hvm hSm
      unfold nv
      rw [if_neg]
      · exact hv
      · rintro ⟨_, c1, c2⟩
        cases hsm : sub.testBit m with
        | true =>
          have := ld_ge l hok sub m hm hsm l.length (Nat.le_refl _) hm
          omega
        | false =>
          have := hneg (S - sub) (by omega) (sub_bit S sub m (by omega) hs hSm hsm (by omega))
          omega
theorem outer_f (l : List Sp) (a : Int) (hn : l.length ≤ 10) (hok : ∀ s ∈ l, okSp s) (m : Nat) (hm : m < l.length) (hbad : a < l[m].f1) :
    ∀ (d S : Nat) (B : List Int), S + d = 2 ^ l.length → 0 < S → B.length = 2 ^ l.length → BP S B → (∀ t : Nat, t < S → t.testBit m = true → rd B (t : Int) = -1) →
      ∃ K, spec_LeastWay.l0 K l a (l.length : Int) B (S : Int) = some (-1) := by
  have hN := pow10 l.length hn
  have hp : 0 < 2 ^ l.length := Nat.two_pow_pos _
  intro d
  induction d with
  | zero =>
    intro S B hS h0 hB hbp hneg
    have hw : wrap64 (((2 ^ l.length : Nat) : Int) - 1) = ((2 ^ l.length - 1 : Nat) : Int) := by
      rw [w64 (by omega) (by omega)]; omega
    refine ⟨1, ?_⟩
    simp only [spec_LeastWay.l0, shl_nat _ hn, hw]
    rw [if_pos (by omega), if_neg (by omega), if_pos (by omega), if_pos (by omega), hneg (2 ^ l.length - 1) (by omega) (by rw [Nat.testBit_two_pow_sub_one]; simp [hm])]
  | succ d ih =>
    intro S B hS h0 hB hbp hneg
    have q1 := sync_f l a hn hok m hm hbad S B h0 (by omega) hB hbp hneg (fun v hv0 hv1 hvm => ih (S + 1) (B.set S v) (by omega) (by omega) (by rw [List.length_set]; exact hB) (fun t ht => by
      by_cases e : t = S
      · subst e
        rw [rd_set_self B t v (by omega)]
        exact ⟨hv0, hv1⟩
      · rw [rd_set_ne B S t v e]
        exact hbp t (by omega)) (fun t ht htm => by
      by_cases e : t = S
      · subst e
        rw [rd_set_self B t v (by omega)]
        exact hvm htm
      · rw [rd_set_ne B S t v e]
        exact hneg t (by omega) htm)) S (-1) (Nat.and_self S) (by omega) (by omega) (fun _ => rfl)
    obtain ⟨K, q⟩ := spec_far l a hn S (B.set S (-1)) (-1) (by omega) q1 l.length 0 (by omega)
    refine ⟨K + 1, ?_⟩
    simp only [spec_LeastWay.l0, shl_nat _ hn]
    rw [if_pos (by omega), if_pos (by omega), if_pos (by omega), if_pos (by omega), Int.toNat_natCast]
    exact q
theorem rd_zeros (n t : Nat) : rd (List.replicate n (0 : Int)) (t : Int) = 0 := by
  unfold rd
  rw [List.getD_eq_getElem?_getD, Int.toNat_natCast, List.getElem?_replicate]
  split <;> rfl
theorem way_both (l : List Sp) (a : Int) (hl : l.length ≤ 1048576) : ∃ K r, ∀ k, K ≤ k → spec_LeastWay.f k l a = some r ∧ impl_LeastWay.f k l a = some r := by
  obtain ⟨b, _, _, hb⟩ := shops_both l (l.length + 1) (by omega) (by omega)
  have hK : ∀ k, l.length + 1 ≤ k → spec_ShopsOk.f k l = some b ∧ impl_ShopsOk.f k l = some b := fun k hk => by
    obtain ⟨b', h1, h2, h3⟩ := shops_both l k (by omega) (by omega)
    have e : b' = b := Bool.eq_iff_iff.2 (h3.trans hb.symm)
    rw [h1, h2, e]
    exact ⟨rfl, rfl⟩
  cases b with
  | false =>
    refine ⟨l.length + 2, -1, fun k hk => ?_⟩
    obtain ⟨k, rfl⟩ : ∃ m, k = m + 1 := ⟨k - 1, by omega⟩
    unfold spec_LeastWay.f impl_LeastWay.f impl_canCarry.f
    rw [(hK (k + 1) (by omega)).1, (hK (k + 1) (by omega)).2]
    simp [spec_LeastWay.j0]
  | true =>
    cases hi : inB 1 100 a with
    | false =>
      refine ⟨l.length + 2, -1, fun k hk => ?_⟩
      obtain ⟨k, rfl⟩ : ∃ m, k = m + 1 := ⟨k - 1, by omega⟩
      unfold spec_LeastWay.f impl_LeastWay.f impl_canCarry.f
      rw [(hK (k + 1) (by omega)).1, (hK (k + 1) (by omega)).2]
      simp [spec_LeastWay.j0, spec_in, in_is, hi]
    | true =>
      obtain ⟨hn, hfrom⟩ := hb.1 rfl
      have hok : ∀ s ∈ l, okSp s := fun s hs => by
        obtain ⟨i, hi, rfl⟩ := List.getElem_of_mem hs
        exact (hfrom i hi (Nat.zero_le _)).1
      have hN := pow10 l.length hn
      have hp : 0 < 2 ^ l.length := Nat.two_pow_pos _
      have spec_at : ∀ k r, l.length + 1 ≤ k → spec_LeastWay.l0 k l a (l.length : Int) (List.replicate (2 ^ l.length) 0) 1 = some r → spec_LeastWay.f (k + 1) l a = some r := fun k r hk h => by
        unfold spec_LeastWay.f
        rw [(hK (k + 1) (by omega)).1]
        simp only [Option.bind_some, if_true, spec_in, hi, spec_LeastWay.j0, shl_nat _ hn, Int.toNat_natCast]
        rw [if_neg (by simp), if_pos (by omega), if_pos (by omega)]
        exact h
      have hz : ∀ t : Nat, rd (List.replicate (2 ^ l.length) (0 : Int)) (t : Int) = 0 := rd_zeros _
      cases hc : (l.any fun s => decide (a < s.f1)) with
      | true =>
        obtain ⟨s, hs, hsa⟩ := List.any_eq_true.1 hc
        obtain ⟨m, hm, rfl⟩ := List.getElem_of_mem hs
        obtain ⟨K, q⟩ := outer_f l a hn hok m hm (by simpa using hsa) (2 ^ l.length - 1) 1 (List.replicate (2 ^ l.length) 0) (by omega) (by omega) (by simp) (fun t ht => by rw [hz]; omega) (fun t ht htm => by
          obtain rfl : t = 0 := by omega
          simp at htm)
        refine ⟨K + l.length + 2, -1, fun k hk => ?_⟩
        obtain ⟨k, rfl⟩ : ∃ m, k = m + 1 := ⟨k - 1, by omega⟩
        refine ⟨spec_at k _ (by omega) (up_to (g := fun k => spec_LeastWay.l0 k l a (l.length : Int) (List.replicate (2 ^ l.length) 0) 1) (fun k => (spec_LeastWay.mono_l k).2.1 _ _ _ _ _) q (by omega)), ?_⟩
        unfold impl_LeastWay.f impl_canCarry.f
        rw [(hK (k + 1) (by omega)).2]
        simp [in_is, hi, hc]
      | false =>
        have hcap : ∀ s ∈ l, s.f1 ≤ a := fun s hs => by
          have := List.any_eq_false.1 hc s hs
          simpa using this
        obtain ⟨r, ⟨K, q⟩, qi⟩ := outer l a hn hok hcap (2 ^ l.length - 1) 1 (List.replicate (2 ^ l.length) 0) (by omega) (by omega) (by simp) (fun t ht => by rw [hz]; omega)
        obtain ⟨K2, q2⟩ := qi (List.replicate (2 ^ l.length) 0) ⟨by simp, fun t ht => by
          obtain rfl : t = 0 := by omega
          rw [hz, ld_zero], fun t _ => hz t⟩
        refine ⟨K + K2 + l.length + 2, r, fun k hk => ?_⟩
        obtain ⟨k, rfl⟩ : ∃ m, k = m + 1 := ⟨k - 1, by omega⟩
        refine ⟨spec_at k _ (by omega) (up_to (g := fun k => spec_LeastWay.l0 k l a (l.length : Int) (List.replicate (2 ^ l.length) 0) 1) (fun k => (spec_LeastWay.mono_l k).2.1 _ _ _ _ _) q (by omega)), ?_⟩
        have u2 := up_to (g := fun k => impl_LeastWay.l0 k l a (l.length : Int) (List.replicate (2 ^ l.length) 0) (List.replicate (2 ^ l.length) 0) 1) (fun k => (impl_LeastWay.mono_l k).1 _ _ _ _ _ _) q2 (show K2 ≤ k + 1 by omega)
        unfold impl_LeastWay.f impl_canCarry.f
        rw [(hK (k + 1) (by omega)).2]
        simp only [Option.bind_some, if_true, in_is, hi, hc, shl_nat _ hn, Int.toNat_natCast]
        rw [if_pos (by simp), if_pos (by omega), if_pos (by omega)]
        exact u2
theorem FnExactLeastWay : laws_FnExactLeastWay.Pure := by
  intro l a hm hl hw _
  by_cases h : l.length > 1048576
  · refine ⟨0, ?_⟩
    unfold laws_FnExactLeastWay.f
    rw [szShop_is l hm]
    simp only [Option.bind_some]
    rw [if_pos h, if_pos (by omega)]
  · obtain ⟨K, r, hK⟩ := way_both (l.map cvShop) a (by simp; omega)
    obtain ⟨k, hk1, hk2⟩ : ∃ k, K ≤ k ∧ l.length < k := ⟨K + l.length + 1, by omega, by omega⟩
    refine ⟨k, ?_⟩
    unfold laws_FnExactLeastWay.f
    rw [szShop_is l hm]
    simp only [Option.bind_some]
    rw [if_neg h, if_neg (by omega), toShop_is l _ hl hk2]
    simp only [Option.bind_some, (hK k hk1).1, (hK k hk1).2]
    rw [eqShop_is _ _ (by simp; omega) (by simpa using hk2)]
    simp
end Go.Proofs.Ytciceapcnjoogaa.Pure
