/- The next thing: the law. -/
import Derived.Test.YtkgigoefmpkngaaPureFnExactFollowsFrom
namespace Go.Proofs.Ytkgigoefmpkngaa.Pure
set_option linter.unusedVariables false
set_option linter.unusedSimpArgs false
open Go.RowKit Go.Proofs.Ytkgigoefmpkngaa.PCX Go.Proofs.Ytkgigoefmpkngaa.Base Go.Proofs.YtkgigoefmpkngaaW.PrintWords Go.Proofs.YtkgigoefmpkngaaW.PrintLast

theorem bt_is (x i : Nat) (hx : x < 4611686018427387904) (hi : i ≤ 63) : Go.bits .and .i64 (shr .i64 (x : Int) (i : Int)) 1 = if x.testBit i then 1 else 0 := by
  have e : shr .i64 (x : Int) (i : Int) = ((x / 2 ^ i : Nat) : Int) := by
    unfold shr
    rw [Int.toNat_natCast, show IntKind.i64.bits = 64 from rfl, Nat.min_eq_left (by omega)]
    simp
  have h : x / 2 ^ i ≤ x := Nat.div_le_self _ _
  rw [e]
  have := and_nat (x / 2 ^ i) 1 (by omega) (by omega)
  rw [Nat.and_one_is_mod] at this
  refine this.trans ?_
  rw [Nat.testBit_eq_decide_div_mod_eq]
  by_cases q : x / 2 ^ i % 2 = 1
  · simp [q]
  · have : x / 2 ^ i % 2 = 0 := by omega
    simp [this]
theorem up_lt (l : List Int) (h : Up l 0) : ∀ (d i : Nat) (hj : i + d + 1 < l.length), l[i]'(by omega) < l[i + d + 1]'hj
  | 0, i, hj => by
    have := h (i + 1) hj (Nat.zero_le _) (by omega)
    simpa using this
  | d + 1, i, hj => by
    have h1 := up_lt l h d i (by omega)
    have h2 := h (i + (d + 1) + 1) hj (Nat.zero_le _) (by omega)
    have e : i + (d + 1) + 1 - 1 = i + d + 1 := by omega
    simp only [e] at h2
    omega
theorem th_nodup (l : List Int) (h : Th l) : l.Nodup := List.pairwise_iff_getElem.2 (fun i j hi hj hij => by
  have := up_lt l h.2 (j - i - 1) i (by omega)
  have e : i + (j - i - 1) + 1 = j := by omega
  simp only [e] at this
  omega)
theorem set_add (l1 : List Int) (t : Int) (h : Th l1) (ht : t ∉ l1) (h9 : 1 ≤ t ∧ t ≤ 9) (hl : l1.length ≤ 1048576) : ∃ T, impl_set.f (l1 ++ [t]) = some T ∧ Th T ∧ T.length ≤ 1048577 ∧ ∀ x, x ∈ T ↔ x ∈ l1 ∨ x = t := by
  have hnd : (l1 ++ [t]).Nodup := by
    rw [List.nodup_append]
    exact ⟨th_nodup l1 h, by simp, fun x hx y hy => by rw [List.mem_singleton] at hy; rw [hy]; exact fun e => ht (e ▸ hx)⟩
  have hlen : (l1 ++ [t]).length = l1.length + 1 := by simp
  unfold impl_set.f
  rw [if_pos (by omega)]
  have hp := List.mergeSort_perm (l1 ++ [t]) (fun x y => decide (x ≤ y))
  have hs := List.pairwise_mergeSort (le := fun x y : Int => decide (x ≤ y)) (fun a b c h1 h2 => by simp only [decide_eq_true_eq] at *; omega) (fun a b => by simp only [Bool.or_eq_true, decide_eq_true_eq]; omega) (l1 ++ [t])
  generalize ((l1 ++ [t]).mergeSort fun x y => decide (x ≤ y)) = T at hp hs
  have hnT : T.Nodup := hp.nodup_iff.2 hnd
  have hlt : ∀ (j : Nat) (hj : j < T.length) (h0 : 0 < j), T[j - 1] < T[j] := fun j hj h0 => by
    have h1 := List.pairwise_iff_getElem.1 hs (j - 1) j (by omega) hj (by omega)
    have h2 := List.pairwise_iff_getElem.1 hnT (j - 1) j (by omega) hj (by omega)
    simp only [decide_eq_true_eq] at h1
    omega
  have hc : Go.Lib.compact T = T := Go.Lib.compact_all T (fun j hj => by
    unfold Go.Lib.keeps
    rw [decide_eq_true_eq]
    by_cases h0 : j = 0
    · exact Or.inl h0
    · right
      have := hlt j hj (by omega)
      have e1 : T.toArray[j]! = T[j] := by simp [hj]
      have e2 : T.toArray[j - 1]! = T[j - 1] := by simp [show j - 1 < T.length by omega]
      rw [e1, e2]
      omega)
  have hm : ∀ x, x ∈ T ↔ x ∈ l1 ∨ x = t := fun x => by rw [hp.mem_iff]; simp
  rw [hc]
  refine ⟨T, rfl, ⟨fun x hx => ?_, fun j hj _ h0 => hlt j hj h0⟩, by rw [hp.length_eq]; omega, hm⟩
  rcases (hm x).1 hx with q | q
  · exact h.1 x q
  · rw [q]; exact h9
theorem next_l (l : List Bk) (l1 : List Int) (hs : l.length ≤ 1048576) (hn : ∀ s ∈ l, s.f0.length ≤ 1048576) (hO : Okb l) (hT : Th l1) (h1 : l1.length ≤ 1048576) :
    ∀ (d k t : Nat) (best most : Int), t + d = 10 → 1 ≤ t → d + l.length + 1048580 < k → ∃ r, spec_NextThing.l0 k l ((setN l1 0 : Nat) : Int) best most (t : Int) = some r ∧ impl_NextThing.l0 k l l1 best most (t : Int) = some r := by
  intro d
  induction d with
  | zero =>
    intro k t best most ht h0 hk
    obtain ⟨k, rfl⟩ : ∃ m, k = m + 1 := ⟨k - 1, by omega⟩
    simp only [spec_NextThing.l0, impl_NextThing.l0]
    rw [if_neg (by omega), if_neg (by omega)]
    exact ⟨_, rfl, rfl⟩
  | succ d ih =>
    intro k t best most ht h0 hk
    obtain ⟨k, rfl⟩ : ∃ m, k = m + 1 := ⟨k - 1, by omega⟩
    have b1 := setN_lt l1 0 hT.1 (by omega)
    have pt : 2 ^ t < 2 ^ 10 := Nat.pow_lt_pow_right (by omega) (by omega)
    have p1 : ∀ x ∈ l1, 0 ≤ x := fun x hx => by have := hT.1 x hx; omega
    have hbit := setN_bit l1 0 t p1
    simp only [Nat.zero_testBit, Bool.false_eq_true, false_or] at hbit
    simp only [spec_NextThing.l0, impl_NextThing.l0, shl_nat t (by omega), or_nat _ _ b1 pt, bt_is (setN l1 0) t (by omega) (by omega), slices_Contains_int_int.f, slices_Clone_int_int.f, Option.bind_some]
    rw [if_pos (show (t : Int) ≤ 9 by omega), if_pos (show (t : Int) ≤ 9 by omega), if_pos (show (0 : Int) ≤ (t : Int) by omega), wn t (by omega)]
    by_cases hm : (t : Int) ∈ l1
    · have e : setN l1 0 ||| 2 ^ t = setN l1 0 := by
        apply Nat.eq_of_testBit_eq
        intro i
        rw [Nat.testBit_or, Nat.testBit_two_pow]
        by_cases q : t = i
        · subst q
          rw [hbit.2 hm]; simp
        · simp [q]
      obtain ⟨_, c2⟩ := cw l l1 hs hn hO hT (by omega) k (by omega)
      rw [e, c2, hbit.2 hm, List.contains_iff_mem.2 hm]
      obtain ⟨r, g1, g2⟩ := ih k (t + 1) best most (by omega) (by omega) (by omega)
      exact ⟨r, by simpa using g1, by simpa using g2⟩
    · obtain ⟨T, e1, e2, e3, e4⟩ := set_add l1 (t : Int) hT hm (by omega) h1
      have e : setN l1 0 ||| 2 ^ t = setN T 0 := by
        apply Nat.eq_of_testBit_eq
        intro i
        rw [Nat.testBit_or, Nat.testBit_two_pow, Bool.eq_iff_iff, Bool.or_eq_true, setN_bit l1 0 i p1, setN_bit T 0 i (fun x hx => by have := e2.1 x hx; omega), e4, decide_eq_true_eq]
        simp only [Nat.zero_testBit, Bool.false_eq_true, false_or]
        constructor
        · rintro (h | h)
          · exact Or.inl h
          · right; omega
        · rintro (h | h)
          · exact Or.inl h
          · right; omega
      obtain ⟨c1, c2⟩ := cw l T hs hn hO e2 (by omega) k (by omega)
      have hb0 : (setN l1 0).testBit t = false := by
        cases q : (setN l1 0).testBit t with
        | false => rfl
        | true => exact absurd (hbit.1 q) hm
      have hc0 : l1.contains (t : Int) = false := by
        cases q : l1.contains (t : Int) with
        | false => rfl
        | true => exact absurd (List.contains_iff_mem.1 q) hm
      rw [e, c2, hb0, hc0, if_pos (show l1.length ≤ 1000000000 by omega)]
      simp only [Option.bind_some, Bool.false_eq_true, if_false, if_true]
      rw [if_pos (show l1.length < 17592186044416 by omega), e1]
      simp only [Option.bind_some, c1]
      generalize l.countP (holdsAll T) = x
      by_cases hx : (x : Int) > most
      · obtain ⟨r, g1, g2⟩ := ih k (t + 1) (t : Int) (x : Int) (by omega) (by omega) (by omega)
        exact ⟨r, by rw [if_pos hx]; exact g1, by rw [if_pos hx]; exact g2⟩
      · obtain ⟨r, g1, g2⟩ := ih k (t + 1) best most (by omega) (by omega) (by omega)
        exact ⟨r, by rw [if_neg hx]; exact g1, by rw [if_neg hx]; exact g2⟩
theorem next_both (l : List Bk) (l1 : List Int) (hs : l.length ≤ 1048576) (hn : ∀ s ∈ l, s.f0.length ≤ 1048576) (h1 : l1.length ≤ 1048576) (k : Nat) (hk : l.length + 1048600 < k) : ∃ r, spec_NextThing.f k l l1 = some r ∧ impl_NextThing.f k l l1 = some r := by
  obtain ⟨r, g1, g2⟩ := count_both l l1 hs hn h1 k (by omega)
  unfold spec_NextThing.f impl_NextThing.f
  rw [g1, g2]
  simp only [Option.bind_some]
  by_cases hr : r ≤ 0
  · exact ⟨-1, by rw [if_pos hr], by rw [if_pos hr]⟩
  · rw [if_neg hr, if_neg hr]
    obtain ⟨b, q1, hb⟩ := impl_ok l hn k (by omega)
    obtain ⟨c, _, q2, hc⟩ := th_both l1 k (by omega) (by omega)
    unfold impl_CountWith.f at g2
    rw [q1, Option.bind_some] at g2
    cases b with
    | false => rw [if_neg (by simp)] at g2; have := Option.some.inj g2; omega
    | true =>
      rw [if_pos rfl, q2, Option.bind_some] at g2
      cases c with
      | false => rw [if_neg (by simp)] at g2; have := Option.some.inj g2; omega
      | true =>
        have hT := hc.1 rfl
        rw [set_is l1 hT.1 k (by omega) (by omega), Option.bind_some]
        exact next_l l l1 hs hn (hb.1 rfl) hT h1 9 k 1 (-1) 0 rfl (Nat.le_refl _) (by omega)
theorem FnExactNextThing : laws_FnExactNextThing.Pure := by
  intro l o hm hl hw hm1 hl1 hw1
  unfold laws_FnExactNextThing.f
  by_cases hb : (o.length : Int) > 1048576
  · exact ⟨0, by rw [if_pos hb]⟩
  simp only [if_neg hb]
  refine frame l hm hw _ (fun h1 h2 => ?_)
  obtain ⟨k, hk1, hk2⟩ : ∃ k, l.length + 1048600 < k ∧ o.length < k := ⟨l.length + 1048601 + o.length, by omega, by omega⟩
  obtain ⟨r, g1, g2⟩ := next_both (l.map cvBk) o (by simpa using h1) (map_short l h2) (by omega) k (by simpa using hk1)
  refine ⟨k, by omega, ?_⟩
  rw [toBk_is l k h1 h2 (by omega)]
  simp only [Option.bind_some, g1, g2, toInts o k hl1 hk2]
  rw [eqBk_is _ k (by simpa using h1) (map_short l h2) (by simp; omega), eqInts o o k (by omega) hk2]
  simp
end Go.Proofs.Ytkgigoefmpkngaa.Pure
