/- The far end first: both say the same; the law. -/
import Derived.Test.YtciceapcnjoogaaPureSh
import Derived.Test.YtciceapcnjoogaaRowsM
namespace Go.Proofs.Ytciceapcnjoogaa.Pure
set_option linter.unusedVariables false
set_option linter.unusedSimpArgs false
open Go.RowKit Go.Proofs.Ytciceapcnjoogaa.PDF Go.Proofs.Ytciceapcnjoogaa.Base Go.Proofs.YtciceapcnjoogaaW.PrintWords Go.Proofs.YtciceapcnjoogaaW.PrintLast

def ldA (l : List Sp) (j : Nat) : Int := (rd_T35 l (j : Int)).f1
/-- A trip is open, j shops are left. -/
def ffo (l : List Sp) (a : Int) : Nat → List (List Int) → List Int → Int → List (List Int)
  | 0, Ts, T, _ => Ts ++ [T]
  | j + 1, Ts, T, left => if ldA l j ≤ left then ffo l a j Ts (T ++ [(j : Int)]) (left - ldA l j) else ffo l a j (Ts ++ [T]) [(j : Int)] (a - ldA l j)
def ff (l : List Sp) (a : Int) : Nat → List (List Int)
  | 0 => []
  | j + 1 => ffo l a j [] [(j : Int)] (a - ldA l j)
def capB (l : List Sp) (a : Int) : Nat → Bool
  | 0 => true
  | j + 1 => if ldA l j ≤ a then capB l a j else false
theorem ffo_small (l : List Sp) (a : Int) (c : Nat) : ∀ (j : Nat) (Ts : List (List Int)) (T : List Int) (left : Int), Ts.length + j < c → T.length + j ≤ c → 1 + j ≤ c → (∀ x ∈ Ts, x.length ≤ c) → (ffo l a j Ts T left).length ≤ c ∧ ∀ x ∈ ffo l a j Ts T left, x.length ≤ c
  | 0, Ts, T, left, h1, h2, h3, h4 => by
    simp only [ffo]
    refine ⟨by simp; omega, fun x hx => ?_⟩
    rcases List.mem_append.1 hx with h | h
    · exact h4 x h
    · rw [List.mem_singleton] at h; rw [h]; omega
  | j + 1, Ts, T, left, h1, h2, h3, h4 => by
    simp only [ffo]
    split
    · exact ffo_small l a c j Ts _ _ (by omega) (by simp; omega) (by omega) h4
    · refine ffo_small l a c j _ _ _ (by simp; omega) (by simp; omega) (by omega) (fun x hx => ?_)
      rcases List.mem_append.1 hx with h | h
      · exact h4 x h
      · rw [List.mem_singleton] at h; rw [h]; omega
theorem ff_small (l : List Sp) (a : Int) : ∀ (n : Nat), n ≤ 10 → (ff l a n).length ≤ 20 ∧ ∀ x ∈ ff l a n, x.length ≤ 20
  | 0, _ => ⟨by simp [ff], fun x hx => (by cases hx)⟩
  | j + 1, h => ffo_small l a 20 j [] _ _ (by simp; omega) (by simp; omega) (by omega) (fun x hx => (by cases hx))
theorem last_rd (X : List (List Int)) (T : List Int) : rd_L4 (X ++ [T]) (X.length : Int) = T := by
  rw [rdR _ _ (by simp)]
  simp
theorem last_set (X : List (List Int)) (T U : List Int) : (X ++ [T]).set X.length U = X ++ [U] := by
  rw [List.set_append_right _ _ (Nat.le_refl _), Nat.sub_self]
  rfl
theorem last_no (X : List (List Int)) (T : List Int) (h : X.length ≤ 1000) : wrap64 (((X ++ [T]).length : Int) - 1) = (X.length : Int) := by
  rw [List.length_append, List.length_singleton, w64 (by omega) (by omega)]
  omega
theorem ff_impl (l : List Sp) (a : Int) (h0 : 1 ≤ a) (h100 : a ≤ 100) (hok : ∀ j (hj : j < l.length), okSp l[j]) : ∀ (j : Nat) (Ts : List (List Int)) (T : List Int) (left : Int) (k : Nat), j ≤ l.length → j ≤ 10 → Ts.length + j ≤ 20 → T.length + j ≤ 20 → 0 ≤ left → left ≤ 100 → j < k → capB l a j = true →
    impl_FarFirst.l0 k l a (Ts ++ [T]) left ((j : Int) - 1) = some (ffo l a j Ts T left, true) := by
  intro j
  induction j with
  | zero =>
    intro Ts T left k hj h10 hT hT2 hl0 hl1 hk hc
    obtain ⟨k, rfl⟩ : ∃ m, k = m + 1 := ⟨k - 1, by omega⟩
    simp only [impl_FarFirst.l0]
    rw [if_neg (by omega)]
    rfl
  | succ j ih =>
    intro Ts T left k hj h10 hT hT2 hl0 hl1 hk hc
    obtain ⟨k, rfl⟩ : ∃ m, k = m + 1 := ⟨k - 1, by omega⟩
    have hj' : j < l.length := by omega
    have o := (hok j hj').2
    have eA : ldA l j = l[j].f1 := by unfold ldA; rw [rdIShop l j hj']
    have e1 : ((j + 1 : Nat) : Int) - 1 = (j : Int) := by omega
    have e5 : wrap64 ((j : Int) - 1) = (j : Int) - 1 := w64 (by omega) (by omega)
    simp only [capB] at hc
    have hcj : ldA l j ≤ a := by
      by_cases h : ldA l j ≤ a
      · exact h
      · rw [if_neg h] at hc; cases hc
    rw [if_pos hcj] at hc
    have hlen : (Ts ++ [T]).length = Ts.length + 1 := by simp
    have eN := last_no Ts T (by omega)
    simp only [impl_FarFirst.l0, e1, rdIShop l j hj', eN, last_rd, Int.toNat_natCast, last_set, e5, ffo, eA]
    rw [if_pos (by omega), if_pos (by omega), if_pos (by omega), if_pos (by omega)]
    by_cases hf : l[j].f1 ≤ left
    · rw [if_pos hf, if_pos (by omega), if_pos (by omega), if_pos (by omega), if_pos hf, w64 (by omega) (by omega)]
      exact ih Ts _ _ k (by omega) (by omega) (by omega) (by simp; omega) (by omega) (by omega) (by omega) hc
    · rw [if_neg hf, if_pos (by omega), if_neg hf, w64 (by omega) (by omega)]
      exact ih (Ts ++ [T]) _ _ k (by omega) (by omega) (by omega) (by simp; omega) (by omega) (by omega) (by omega) hc
theorem ff_spec (l : List Sp) (a : Int) (h0 : 1 ≤ a) (h100 : a ≤ 100) (hok : ∀ j (hj : j < l.length), okSp l[j]) : ∀ (j : Nat) (Ts : List (List Int)) (T : List Int) (left : Int) (k : Nat), j ≤ l.length → j ≤ 10 → Ts.length + j ≤ 20 → T.length + j ≤ 20 → 0 ≤ left → left ≤ 100 → j < k →
    spec_FarFirst.l0 k l a (Ts ++ [T]) left ((j : Int) - 1) = some (if capB l a j = true then (ffo l a j Ts T left, true) else ([], false)) := by
  intro j
  induction j with
  | zero =>
    intro Ts T left k hj h10 hT hT2 hl0 hl1 hk
    obtain ⟨k, rfl⟩ : ∃ m, k = m + 1 := ⟨k - 1, by omega⟩
    simp only [spec_FarFirst.l0]
    rw [if_neg (by omega)]
    rfl
  | succ j ih =>
    intro Ts T left k hj h10 hT hT2 hl0 hl1 hk
    obtain ⟨k, rfl⟩ : ∃ m, k = m + 1 := ⟨k - 1, by omega⟩
    have hj' : j < l.length := by omega
    have o := (hok j hj').2
    have eA : ldA l j = l[j].f1 := by unfold ldA; rw [rdIShop l j hj']
    have e1 : ((j + 1 : Nat) : Int) - 1 = (j : Int) := by omega
    have e5 : wrap64 ((j : Int) - 1) = (j : Int) - 1 := w64 (by omega) (by omega)
    have hlen : (Ts ++ [T]).length = Ts.length + 1 := by simp
    have eN := last_no Ts T (by omega)
    have eN2 := last_no (Ts ++ [T]) [] (by omega)
    simp only [spec_FarFirst.l0, e1, rdIShop l j hj', eN, eN2, last_rd, Int.toNat_natCast, last_set, e5, ffo, capB, eA, Option.bind_some]
    rw [if_pos (by omega), if_pos (by omega), if_pos (by omega)]
    by_cases hcj : l[j].f1 ≤ a
    · rw [if_neg (by omega), if_neg (by omega), if_pos hcj]
      by_cases hf : l[j].f1 ≤ left
      · rw [if_neg (by omega), if_pos (by omega), if_pos (by omega), if_pos (by omega), if_pos hf, w64 (by omega) (by omega)]
        exact ih Ts _ _ k (by omega) (by omega) (by omega) (by simp; omega) (by omega) (by omega) (by omega)
      · have hl2 : ((Ts ++ [T]) ++ [([] : List Int)]).length = Ts.length + 2 := by simp
        rw [if_pos (by omega), if_pos (by omega), if_pos (by omega), if_pos (by omega), if_pos (by simp), if_neg hf, w64 (by omega) (by omega), List.nil_append]
        exact ih (Ts ++ [T]) _ _ k (by omega) (by omega) (by omega) (by simp; omega) (by omega) (by omega) (by omega)
    · rw [if_pos (by omega), if_neg hcj, if_neg (by decide)]
theorem capB_iff (l : List Sp) (a : Int) : ∀ (j : Nat), capB l a j = true ↔ ∀ i, i < j → ldA l i ≤ a
  | 0 => by simp [capB]
  | j + 1 => by
    simp only [capB]
    by_cases h : ldA l j ≤ a
    · rw [if_pos h, capB_iff l a j]
      constructor
      · intro q i hi
        by_cases e : i = j
        · rw [e]; exact h
        · exact q i (by omega)
      · exact fun q i hi => q i (by omega)
    · rw [if_neg h]
      exact ⟨fun q => (by cases q), fun q => absurd (q j (by omega)) h⟩
theorem cap_any (l : List Sp) (a : Int) : (l.any fun s => decide (a < s.f1)) = !capB l a l.length := by
  rw [Bool.eq_iff_iff, Bool.not_eq_true', ← Bool.not_eq_true, capB_iff, List.any_eq_true]
  constructor
  · rintro ⟨s, hs, h⟩ q
    obtain ⟨i, hi, rfl⟩ := List.getElem_of_mem hs
    have := q i hi
    unfold ldA at this
    rw [rdIShop l i hi] at this
    simp only [decide_eq_true_eq] at h
    omega
  · intro q
    rcases Classical.em (∃ s ∈ l, decide (a < s.f1) = true) with h | h
    · exact h
    · refine absurd (fun i hi => ?_) q
      unfold ldA
      rw [rdIShop l i hi]
      rcases Int.lt_or_le a l[i].f1 with c | c
      · exact absurd ⟨_, List.getElem_mem hi, decide_eq_true c⟩ h
      · exact c
theorem far_both (l : List Sp) (a : Int) (hl : l.length ≤ 1048576) : ∃ v b, (∀ k, l.length + 2 < k → spec_FarFirst.f k l a = some (v, b) ∧ impl_FarFirst.f k l a = some (v, b)) ∧ v.length ≤ 20 ∧ ∀ x ∈ v, x.length ≤ 20 := by
  obtain ⟨b, hb⟩ : ∃ b : Bool, b = true ↔ (l.length ≤ 10 ∧ SpFrom l 0) := by
    obtain ⟨r, _, _, h⟩ := shops_both l (l.length + 1) (by omega) (by omega)
    exact ⟨r, h⟩
  have hA : ∀ k, l.length < k → spec_ShopsOk.f k l = some b ∧ impl_ShopsOk.f k l = some b := fun k hk => by
    obtain ⟨r, g1, g2, h⟩ := shops_both l k (by omega) hk
    have e : r = b := Bool.eq_iff_iff.2 (h.trans hb.symm)
    rw [g1, g2, e]
    exact ⟨rfl, rfl⟩
  cases b with
  | false =>
    refine ⟨[], false, fun k hk => ?_, by simp, fun x hx => (by cases hx)⟩
    have h1 := hA k (by omega)
    obtain ⟨k, rfl⟩ : ∃ m, k = m + 1 := ⟨k - 1, by omega⟩
    simp [spec_FarFirst.f, impl_FarFirst.f, impl_canCarry.f, h1.1, h1.2, spec_FarFirst.j0]
  | true =>
    obtain ⟨h10, hSp⟩ := hb.1 rfl
    cases hi : inB 1 100 a with
    | false =>
      refine ⟨[], false, fun k hk => ?_, by simp, fun x hx => (by cases hx)⟩
      have h1 := hA k (by omega)
      obtain ⟨k, rfl⟩ : ∃ m, k = m + 1 := ⟨k - 1, by omega⟩
      simp [spec_FarFirst.f, impl_FarFirst.f, impl_canCarry.f, h1.1, h1.2, spec_FarFirst.j0, spec_in, in_is, hi]
    | true =>
      obtain ⟨a0, a1⟩ := (inB_iff _ _ _).1 hi
      have hok : ∀ j (hj : j < l.length), okSp l[j] := fun j hj => (hSp j hj (Nat.zero_le _)).1
      have hs : ∀ k, l.length < k → spec_FarFirst.l0 k l a [] 0 (wrap64 ((l.length : Int) - 1)) = some (if capB l a l.length = true then (ff l a l.length, true) else ([], false)) := fun k hk => by
        obtain ⟨k, rfl⟩ : ∃ m, k = m + 1 := ⟨k - 1, by omega⟩
        rw [w64 (by omega) (by omega)]
        rcases Nat.eq_zero_or_pos l.length with e | e
        · simp only [spec_FarFirst.l0, e]
          rw [if_neg (by omega)]
          rfl
        · obtain ⟨j, hj⟩ : ∃ j, l.length = j + 1 := ⟨l.length - 1, by omega⟩
          have hj' : j < l.length := by omega
          have o := (hok j hj').2
          have e1 : (l.length : Int) - 1 = (j : Int) := by omega
          have e5 : wrap64 ((j : Int) - 1) = (j : Int) - 1 := w64 (by omega) (by omega)
          have eA : ldA l j = l[j].f1 := by unfold ldA; rw [rdIShop l j hj']
          have eN : wrap64 ((([] ++ [([] : List Int)] : List (List Int)).length : Int) - 1) = (0 : Int) := (w64 (x := ((1 : Nat) : Int) - 1) (by omega) (by omega)).trans (by omega)
          have eR : rd_L4 ([] ++ [([] : List Int)] : List (List Int)) 0 = [] := rfl
          simp only [spec_FarFirst.l0, e1, rdIShop l j hj', e5, eN, eR, Option.bind_some, Int.toNat_zero]
          rw [if_pos (by omega), if_pos (by omega), if_pos (by omega)]
          rw [show capB l a l.length = (if ldA l j ≤ a then capB l a j else false) by rw [hj]; rfl, eA]
          by_cases hcj : l[j].f1 ≤ a
          · rw [if_neg (by omega), if_pos (by simp), if_pos (by simp), if_pos (by simp), if_pos (by simp), if_pos (by simp), if_pos hcj, w64 (by omega) (by omega)]
            have := ff_spec l a a0 a1 hok j [] [(j : Int)] (a - l[j].f1) k (by omega) (by omega) (by simp; omega) (by simp; omega) (by omega) (by omega) (by omega)
            rw [hj, show ff l a (j + 1) = ffo l a j [] [(j : Int)] (a - l[j].f1) by rw [← eA]; rfl]
            exact this
          · rw [if_pos (by omega), if_neg hcj, if_neg (by decide)]
      have hm : capB l a l.length = true → ∀ k, l.length < k → impl_FarFirst.l0 k l a [] 0 (wrap64 ((l.length : Int) - 1)) = some (ff l a l.length, true) := fun hc k hk => by
        obtain ⟨k, rfl⟩ : ∃ m, k = m + 1 := ⟨k - 1, by omega⟩
        rw [w64 (by omega) (by omega)]
        rcases Nat.eq_zero_or_pos l.length with e | e
        · simp only [impl_FarFirst.l0, e]
          rw [if_neg (by omega)]
          rfl
        · obtain ⟨j, hj⟩ : ∃ j, l.length = j + 1 := ⟨l.length - 1, by omega⟩
          have hj' : j < l.length := by omega
          have o := (hok j hj').2
          have e1 : (l.length : Int) - 1 = (j : Int) := by omega
          have e5 : wrap64 ((j : Int) - 1) = (j : Int) - 1 := w64 (by omega) (by omega)
          have eA : ldA l j = l[j].f1 := by unfold ldA; rw [rdIShop l j hj']
          rw [hj] at hc
          simp only [capB, eA] at hc
          have hcj : l[j].f1 ≤ a := by
            by_cases h : l[j].f1 ≤ a
            · exact h
            · rw [if_neg h] at hc; cases hc
          rw [if_pos hcj] at hc
          simp only [impl_FarFirst.l0, e1, rdIShop l j hj', e5, List.length_nil]
          rw [if_pos (by omega), if_neg (by omega), if_pos (by omega), if_pos (by omega), if_pos (by omega), w64 (by omega) (by omega)]
          have := ff_impl l a a0 a1 hok j [] [(j : Int)] (a - l[j].f1) k (by omega) (by omega) (by simp; omega) (by simp; omega) (by omega) (by omega) (by omega) hc
          rw [hj, show ff l a (j + 1) = ffo l a j [] [(j : Int)] (a - l[j].f1) by rw [← eA]; rfl]
          exact this
      cases hc : capB l a l.length with
      | false =>
        refine ⟨[], false, fun k hk => ?_, by simp, fun x hx => (by cases hx)⟩
        have h1 := hA k (by omega)
        constructor
        · obtain ⟨k, rfl⟩ : ∃ m, k = m + 1 := ⟨k - 1, by omega⟩
          have := hs k (by omega)
          rw [hc, if_neg (by decide)] at this
          simp only [spec_FarFirst.f, h1.1, Option.bind_some, if_true, spec_in, hi, Bool.not_true, spec_FarFirst.j0]
          rw [if_neg (by simp)]
          exact this
        · simp only [impl_FarFirst.f, impl_canCarry.f, h1.2, Option.bind_some, if_true, in_is, hi, cap_any, hc, Bool.not_false, Bool.not_true]
          rw [if_neg (by simp)]
      | true =>
        refine ⟨ff l a l.length, true, fun k hk => ?_, (ff_small l a l.length h10).1, (ff_small l a l.length h10).2⟩
        have h1 := hA k (by omega)
        constructor
        · obtain ⟨k, rfl⟩ : ∃ m, k = m + 1 := ⟨k - 1, by omega⟩
          have := hs k (by omega)
          rw [hc, if_pos rfl] at this
          simp only [spec_FarFirst.f, h1.1, Option.bind_some, if_true, spec_in, hi, Bool.not_true, spec_FarFirst.j0]
          rw [if_neg (by simp)]
          exact this
        · simp only [impl_FarFirst.f, impl_canCarry.f, h1.2, Option.bind_some, if_true, in_is, hi, cap_any, hc, Bool.not_false, Bool.not_true]
          exact hm hc k (by omega)
theorem markSp_l : ∀ (d k n : Nat) (x : List Sp) (m : Int), n + d = x.length → d < k → x.length ≤ 1048576 → 0 ≤ m → m + 2 * (d : Int) ≤ 1152921504606846976 → ∃ y, laws_markShopS.l0 k x m (n : Int) = some (m + 2 * (d : Int), y) := by
  intro d
  induction d with
  | zero =>
    intro k n x m hn hk hx h0 h1
    obtain ⟨k, rfl⟩ : ∃ m, k = m + 1 := ⟨k - 1, by omega⟩
    refine ⟨x, ?_⟩
    simp only [laws_markShopS.l0]
    rw [if_neg (by omega)]
    simp
  | succ d ih =>
    intro k n x m hn hk hx h0 h1
    obtain ⟨k, rfl⟩ : ∃ m, k = m + 1 := ⟨k - 1, by omega⟩
    simp only [laws_markShopS.l0, Option.bind_some]
    rw [if_pos (by omega), if_pos (by omega), wn n (by omega), w64 (x := m + 1) (by omega) (by omega), w64 (x := m + 1 + 1) (by omega) (by omega)]
    obtain ⟨y, h⟩ := ih k (n + 1) (((x.set (n : Int).toNat (⟨m, (rd_T35 x (n : Int)).f1⟩ : Sp))).set (n : Int).toNat (⟨(rd_T35 (x.set (n : Int).toNat (⟨m, (rd_T35 x (n : Int)).f1⟩ : Sp)) (n : Int)).f0, m + 1⟩ : Sp)) (m + 1 + 1) (by simp; omega) (by omega) (by simpa using hx) (by omega) (by omega)
    refine ⟨y, ?_⟩
    rw [h]
    simp only [Option.some.injEq, Prod.mk.injEq, and_true]
    omega
theorem markSp (x : List Sp) (k : Nat) (hx : x.length ≤ 1048576) (hk : x.length < k) : ∃ m y, laws_markShopS.f k x 1 = some (m, y) ∧ 0 ≤ m := by
  obtain ⟨y, h⟩ := markSp_l x.length k 0 x 1 (by omega) hk hx (by omega) (by omega)
  exact ⟨_, y, h, by omega⟩
theorem FnExactFarFirst : laws_FnExactFarFirst.Pure := by
  intro l a hm hl hw _
  by_cases h : l.length > 1048576
  · refine ⟨0, ?_⟩
    unfold laws_FnExactFarFirst.f
    rw [szShop_is l hm]
    simp only [Option.bind_some]
    rw [if_pos h, if_pos (by omega)]
  · obtain ⟨v, b, hK, hv, hv2⟩ := far_both (l.map cvShop) a (by simp; omega)
    have hvs : ∀ x ∈ v, x.length ≤ 1048576 := fun x hx => by have := hv2 x hx; omega
    have hvl := lenR_le 20 v hv2
    obtain ⟨k, hk2⟩ : ∃ k, l.length + 1048700 < k := ⟨l.length + 1048701, by omega⟩
    have hK' : ∀ q, k ≤ q → spec_FarFirst.f q (l.map cvShop) a = some (v, b) ∧ impl_FarFirst.f q (l.map cvShop) a = some (v, b) := fun q hq => hK q (by rw [List.length_map]; omega)
    obtain ⟨m, y, hr, hr0⟩ := markSp (l.map cvShop) (k + 2) (by simp; omega) (by simp; omega)
    have m1 := markR_is (k + 1) (by omega) v 1 hvs (by omega) (by omega)
    have m2 := heldR_is v (k + 1) 1 hvs (by omega) (by omega) (by omega) (by omega)
    have m3 := heldR_is v k 1 hvs (by omega) (by omega) (by omega) (by omega)
    refine ⟨k + 3, ?_⟩
    unfold laws_FnExactFarFirst.f
    rw [szShop_is l hm]
    simp only [Option.bind_some]
    rw [if_neg h, if_neg (by omega), toShop_is l (k + 3) hl (by omega)]
    simp only [Option.bind_some, (hK' (k + 3) (by omega)).1, (hK' (k + 3) (by omega)).2]
    rw [eqR_is v (k + 3) (by omega) hvs (by omega)]
    simp only [Option.bind_some, if_true, bne_self_eq_false]
    simp only [laws_FnExactFarFirst.j0, Bool.false_eq_true, if_false, toShop_is l (k + 2) hl (by omega), Option.bind_some]
    rw [eqShop_is _ (k + 2) (by simp; omega) (by simp; omega)]
    simp only [Option.bind_some, if_true, hr]
    rw [if_neg (by omega), eqR_is v (k + 2) (by omega) hvs (by omega)]
    simp only [Option.bind_some, if_true, laws_FnExactFarFirst.j1, Bool.false_eq_true, if_false, m1, m2, toShop_is l (k + 1) hl (by omega), (hK' (k + 1) (by omega)).2]
    rw [if_neg (show ¬ (1 + (lenR v : Int) < 0) by omega), eqR_is v (k + 1) (by omega) hvs (by omega)]
    simp only [Option.bind_some, if_true, laws_FnExactFarFirst.j2, Bool.false_eq_true, if_false, m3, bne_self_eq_false]
    rw [if_neg (show ¬ (1 + (lenR v : Int) < 0) by omega)]
end Go.Proofs.Ytciceapcnjoogaa.Pure
