/- What follows from a thing: the law. -/
import Derived.Test.YtkgigoefmpkngaaPureFnExactCountWith
namespace Go.Proofs.Ytkgigoefmpkngaa.Pure
set_option linter.unusedVariables false
set_option linter.unusedSimpArgs false
open Go.RowKit Go.Proofs.Ytkgigoefmpkngaa.PCX Go.Proofs.Ytkgigoefmpkngaa.Base Go.Proofs.YtkgigoefmpkngaaW.PrintWords Go.Proofs.YtkgigoefmpkngaaW.PrintLast

theorem th_one (a : Int) (h : 1 ≤ a ∧ a ≤ 9) : Th [a] := ⟨fun x hx => by rw [List.mem_singleton] at hx; rw [hx]; exact h, fun j hj _ h0 => by simp at hj; omega⟩
theorem th_two (a b : Int) (ha : 1 ≤ a ∧ a ≤ 9) (hb : 1 ≤ b ∧ b ≤ 9) (h : a < b) : Th [a, b] := ⟨fun x hx => by
  simp only [List.mem_cons, List.not_mem_nil, or_false] at hx
  rcases hx with rfl | rfl
  · exact ha
  · exact hb, fun j hj _ h0 => by
  simp at hj
  obtain rfl : j = 1 := by omega
  exact h⟩
theorem comp_one (a : Int) : Go.Lib.compact [a, a] = [a] := by
  simp [Go.Lib.compact, Go.Lib.compactUpTo, Go.Lib.keeps, List.range_succ, List.filter_cons]
theorem comp_two (a b : Int) (h : a < b) : Go.Lib.compact [a, b] = [a, b] := by
  have : b ≠ a := by omega
  simp [Go.Lib.compact, Go.Lib.compactUpTo, Go.Lib.keeps, List.range_succ, List.filter_cons, this]
theorem sort_two (a b : Int) : ([a, b].mergeSort fun x y => decide (x ≤ y)) = if a ≤ b then [a, b] else [b, a] := by
  by_cases h : a ≤ b
  · rw [if_pos h]
    simp [List.mergeSort, List.MergeSort.Internal.splitInTwo, List.merge, h]
  · rw [if_neg h]
    simp [List.mergeSort, List.MergeSort.Internal.splitInTwo, List.merge, h]
theorem both_is (a b : Int) (ha : 1 ≤ a ∧ a ≤ 9) (hb : 1 ≤ b ∧ b ≤ 9) : ∃ T, impl_both.f a b = some T ∧ Th T ∧ T.length ≤ 2 ∧ ∀ x, x ∈ T ↔ x = a ∨ x = b := by
  unfold impl_both.f impl_set.f
  rw [if_pos (by simp), sort_two]
  simp only [Option.bind_some]
  rcases Int.lt_trichotomy a b with h | h | h
  · rw [if_pos (by omega), comp_two a b h]
    exact ⟨_, rfl, th_two a b ha hb h, by simp, fun x => by simp⟩
  · subst h
    rw [if_pos (Int.le_refl _), comp_one]
    exact ⟨_, rfl, th_one a ha, by simp, fun x => by simp⟩
  · rw [if_neg (by omega), comp_two b a h]
    exact ⟨_, rfl, th_two b a hb ha h, by simp, fun x => by simp [or_comm]⟩
theorem cw (l : List Bk) (T : List Int) (hs : l.length ≤ 1048576) (hn : ∀ s ∈ l, s.f0.length ≤ 1048576) (hO : Okb l) (hT : Th T) (hl : T.length ≤ 1048578) (k : Nat) (hk : l.length + 1048580 < k) :
    impl_CountWith.f k l T = some ((l.countP (holdsAll T) : Nat) : Int) ∧ spec_l20Count.f k l ((setN T 0 : Nat) : Int) = some ((l.countP (holdsAll T) : Nat) : Int) := by
  obtain ⟨r, g2, hr⟩ := impl_ok l hn k (by omega)
  obtain rfl : r = true := hr.2 hO
  obtain ⟨q, _, t2, hq⟩ := th_both T k (by omega) (by omega)
  obtain rfl : q = true := hq.2 hT
  constructor
  · unfold impl_CountWith.f
    rw [g2]
    simp only [Option.bind_some, if_true, t2]
  · have := count_l l T hT.1 (fun b hb => (hO.2 b hb).1) hO.1 hn l.length k 0 0 (by omega) (by omega) (Nat.le_refl _)
    rw [List.drop_zero, Nat.zero_add] at this
    exact this
theorem follows_both (l : List Bk) (a b p : Int) (hs : l.length ≤ 1048576) (hn : ∀ s ∈ l, s.f0.length ≤ 1048576) (k : Nat) (hk : l.length + 1048581 < k) : ∃ r, spec_FollowsFrom.f k l a b p = some r ∧ impl_FollowsFrom.f k l a b p = some r := by
  obtain ⟨r, g1, g2⟩ := ok_both l hs hn k (by omega)
  obtain ⟨r', g2', hr⟩ := impl_ok l hn k (by omega)
  rw [g2] at g2'
  obtain rfl := Option.some.inj g2'
  obtain ⟨k, rfl⟩ : ∃ m, k = m + 1 := ⟨k - 1, by omega⟩
  unfold spec_FollowsFrom.f impl_FollowsFrom.f
  rw [g1, g2]
  simp only [spec_in, in_is, Option.bind_some]
  cases r with
  | false => exact ⟨false, by simp [spec_FollowsFrom.j0], by simp [impl_FollowsFrom.j0]⟩
  | true =>
    cases ha : inB 1 9 a with
    | false => exact ⟨false, by simp [spec_FollowsFrom.j0], by simp [impl_FollowsFrom.j0]⟩
    | true =>
      cases hb : inB 1 9 b with
      | false => exact ⟨false, by simp [spec_FollowsFrom.j0], by simp [impl_FollowsFrom.j0]⟩
      | true =>
        cases hp : inB 0 100 p with
        | false => exact ⟨false, by simp [spec_FollowsFrom.j0], by simp [impl_FollowsFrom.j0]⟩
        | true =>
          have ha' := (inB_iff _ _ _).1 ha
          have hb' := (inB_iff _ _ _).1 hb
          have hO := hr.1 rfl
          obtain ⟨T, e1, e2, e3, e4⟩ := both_is a b ha' hb'
          obtain ⟨A, rfl⟩ : ∃ A : Nat, a = (A : Int) := ⟨a.toNat, by omega⟩
          obtain ⟨B, rfl⟩ : ∃ B : Nat, b = (B : Int) := ⟨b.toNat, by omega⟩
          obtain ⟨c1, c2⟩ := cw l [(A : Int)] hs hn hO (th_one _ ha') (by simp) k (by omega)
          obtain ⟨d1, d2⟩ := cw l T hs hn hO e2 (by omega) k (by omega)
          have s1 : setN [(A : Int)] 0 = 2 ^ A := by simp [setN]
          have s2 : setN T 0 = 2 ^ A ||| 2 ^ B := by
            apply Nat.eq_of_testBit_eq
            intro i
            rw [Bool.eq_iff_iff, setN_bit T 0 i (fun x hx => by have := e2.1 x hx; omega), e4, Nat.testBit_or, Nat.testBit_two_pow, Nat.testBit_two_pow, Bool.or_eq_true, decide_eq_true_eq, decide_eq_true_eq]
            simp only [Nat.zero_testBit, Bool.false_eq_true, false_or]
            constructor
            · rintro (h | h)
              · left; omega
              · right; omega
            · rintro (h | h)
              · left; omega
              · right; omega
          have pa : 2 ^ A < 2 ^ 10 := Nat.pow_lt_pow_right (by omega) (by omega)
          have pb : 2 ^ B < 2 ^ 10 := Nat.pow_lt_pow_right (by omega) (by omega)
          rw [s1] at c2
          rw [s2] at d2
          simp only [if_true, spec_FollowsFrom.j0, impl_FollowsFrom.j0, Bool.not_true, Bool.false_eq_true, if_false, shl_nat A (by omega), shl_nat B (by omega), or_nat _ _ pa pb, c1, c2, d1, d2, e1, Option.bind_some]
          rw [if_pos (show (0 : Int) ≤ (A : Int) by omega)]
          generalize l.countP (holdsAll [(A : Int)]) = x
          generalize l.countP (holdsAll T) = y
          by_cases h : (x : Int) > 0
          · exact ⟨_, by rw [if_pos h, if_pos (show (0 : Int) ≤ (B : Int) by omega)], by rw [if_pos h]⟩
          · exact ⟨_, by rw [if_neg h], by rw [if_neg h]⟩
theorem FnExactFollowsFrom : laws_FnExactFollowsFrom.Pure := by
  intro l a b p hm hl hw _ _ _
  unfold laws_FnExactFollowsFrom.f
  refine frame l hm hw _ (fun h1 h2 => ?_)
  obtain ⟨k, hk1⟩ : ∃ k, l.length + 1048581 < k := ⟨_, Nat.lt_succ_self _⟩
  obtain ⟨r, g1, g2⟩ := follows_both (l.map cvBk) a b p (by simpa using h1) (map_short l h2) k (by simpa using hk1)
  refine ⟨k, by omega, ?_⟩
  rw [toBk_is l k h1 h2 (by omega)]
  simp only [Option.bind_some, g1, g2]
  rw [eqBk_is _ k (by simpa using h1) (map_short l h2) (by simp; omega)]
  simp
end Go.Proofs.Ytkgigoefmpkngaa.Pure
