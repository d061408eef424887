/- Baskets: the law. -/
import Derived.Test.YtkgigoefmpkngaaPureBF
import Derived.Test.YtkgigoefmpkngaaPCLx10
namespace Go.Proofs.Ytkgigoefmpkngaa.Pure
set_option linter.unusedVariables false
set_option linter.unusedSimpArgs false
open Go.RowKit Go.Proofs.Ytkgigoefmpkngaa.PCL Go.Proofs.Ytkgigoefmpkngaa.Base Go.Proofs.YtkgigoefmpkngaaW.PrintWords Go.Proofs.YtkgigoefmpkngaaW.PrintLast

theorem rdR (xs : List (List Int)) (i : Nat) (h : i < xs.length) : rd_L1 xs (i : Int) = xs[i] := by simp [rd_L1, h]
theorem same_two (A B a b : Int) (k : Nat) (hk : 3 ≤ k) : laws_sameInts.f k [A, B] [a, b] = some (decide (A = a ∧ B = b)) := by
  obtain ⟨k, rfl⟩ : ∃ m, k = m + 1 + 1 + 1 := ⟨k - 3, by omega⟩
  have e1 : wrap64 1 = 1 := w64 (by omega) (by omega)
  have e2 : wrap64 2 = 2 := w64 (by omega) (by omega)
  by_cases hA : A = a
  · by_cases hB : B = b
    · simp [laws_sameInts.f, laws_sameInts.l0, rd, hA, hB, e1, e2]
    · simp [laws_sameInts.f, laws_sameInts.l0, rd, hA, hB, e1, e2]
  · simp [laws_sameInts.f, laws_sameInts.l0, rd, hA, e1, e2]
theorem odd_basket (k : Nat) (hk : 1048600 < k) : impl_CountWith.f k [(⟨[1, 4]⟩ : Bk)] [4] = some 1 :=
  cwi [(⟨[1, 4]⟩ : Bk)] [4] (by simp) (fun s hs => by rw [List.mem_singleton] at hs; subst hs; simp) ⟨by simp, fun s hs => by rw [List.mem_singleton] at hs; subst hs; exact th_two 1 4 (by omega) (by omega) (by omega)⟩ (th_one 4 (by omega)) (by simp) k hk
theorem FnBaskets : laws_FnBaskets.Pure := by
  intro code hm hl hw
  by_cases hb : (code.length : Int) > 1048576
  · refine ⟨0, ?_⟩
    unfold laws_FnBaskets.f
    rw [big_is, decide_eq_true hb]
    rfl
  · have hcl : code.length ≤ 1048576 := by omega
    obtain ⟨l, ⟨hs, hO, hn⟩, Kd, hd⟩ := draw_is code hcl
    obtain ⟨va, hva, a0, a1⟩ := at_is code 0 (by omega) (by omega) hcl hw
    obtain ⟨vb, hvb, b0, b1⟩ := at_is code 1 (by omega) (by omega) hcl hw
    obtain ⟨vc, hvc, c0, c1⟩ := at_is code 2 (by omega) (by omega) hcl hw
    have ta0 := Int.tmod_nonneg 6 a0
    have ta1 := Int.tmod_lt_of_pos va (show (0 : Int) < 6 by omega)
    have tb0 := Int.tmod_nonneg 6 b0
    have tb1 := Int.tmod_lt_of_pos vb (show (0 : Int) < 6 by omega)
    have tc0 := Int.tmod_nonneg 4 c0
    have tc1 := Int.tmod_lt_of_pos vc (show (0 : Int) < 4 by omega)
    obtain ⟨a, ha⟩ : ∃ a, a = 1 + Int.tmod va 6 := ⟨_, rfl⟩
    obtain ⟨b, hbb⟩ : ∃ b, b = 1 + Int.tmod vb 6 := ⟨_, rfl⟩
    obtain ⟨least, hle⟩ : ∃ c, c = 1 + Int.tmod vc 4 := ⟨_, rfl⟩
    have wa : wrap64 (1 + Int.tmod va 6) = a := by rw [ha]; exact w64 (by omega) (by omega)
    have wb : wrap64 (1 + Int.tmod vb 6) = b := by rw [hbb]; exact w64 (by omega) (by omega)
    have wc : wrap64 (1 + Int.tmod vc 4) = least := by rw [hle]; exact w64 (by omega) (by omega)
    have ha9 : 1 ≤ a ∧ a ≤ 9 := by omega
    have hb9 : 1 ≤ b ∧ b ≤ 9 := by omega
    obtain ⟨n, hF, hN⟩ := next_is l a ha9 hs hn hO
    obtain ⟨Kp, hp⟩ := cp_is l least (by omega) (by omega) hs hn hO
    obtain ⟨Km, v, hm2, hv9, hv⟩ := lc_both l least (by omega) hn
    have hve := hv hO (by omega) (by omega)
    rw [hve] at hm2
    clear hve hv hv9
    have hok : ∀ k, 1048600 < k → impl_BasketsOk.f k l = some true := fun k hk => by
      obtain ⟨r, g, hr⟩ := impl_ok l hn k (by omega)
      rw [g, hr.2 hO]
    have hx0 := ct_nn l [a]
    have hxl := ct_le l [a]
    have hcw1 : ∀ c, 1 ≤ c ∧ c ≤ 9 → ∀ k, 1048600 < k → impl_CountWith.f k l [c] = some (ct l [c]) := fun c hc k hk => cwi l [c] hs hn hO (th_one c hc) (by simp) k hk
    -- the end
    have J5 : ∀ k, 1048602 < k → laws_FnBaskets.j5 k l false = some true := fun k hk => by
      obtain ⟨k, rfl⟩ : ∃ m, k = m + 1 := ⟨k - 1, by omega⟩
      simp only [laws_FnBaskets.j5, hok k (by omega), Option.bind_some, if_true, Bool.false_eq_true, if_false, odd_basket k (by omega)]
      rfl
    have J3 : ∀ k, 1048810 < k → laws_FnBaskets.j3 k l a b = some true := fun k hk => by
      obtain ⟨k, rfl⟩ : ∃ m, k = m + 1 := ⟨k - 1, by omega⟩
      simp only [laws_FnBaskets.j3, hN k (by omega), Option.bind_some]
      by_cases hn0 : n > 0
      · obtain ⟨f1, f2, f3, f4⟩ := hF hn0
        rw [if_pos hn0, if_neg f1, cwi l [mn a n, mx a n] hs hn hO (pr_th a n ha9 f2 (fun e => f1 e.symm)) (by simp) k (by omega), Option.bind_some, show (decide (ct l [mn a n, mx a n] < 1)) = false from decide_eq_false (by show ¬ pr l a n < 1; omega)]
        obtain ⟨k, rfl⟩ : ∃ m, k = m + 1 := ⟨k - 1, by omega⟩
        simp only [laws_FnBaskets.j4, Bool.false_eq_true, if_false]
        by_cases hab : b = a
        · rw [if_pos hab]
          exact J5 k (by omega)
        · rw [if_neg hab, cwi l [mn a b, mx a b] hs hn hO (pr_th a b ha9 hb9 (fun e => hab e.symm)) (by simp) k (by omega), Option.bind_some, cwi l [mn a n, mx a n] hs hn hO (pr_th a n ha9 f2 (fun e => f1 e.symm)) (by simp) k (by omega), Option.bind_some, show (decide (ct l [mn a b, mx a b] > ct l [mn a n, mx a n])) = false from decide_eq_false (by
            have := f4 b hb9.1 hb9.2 hab
            show ¬ pr l a b > pr l a n
            omega)]
          exact J5 k (by omega)
      · rw [if_neg hn0]
        simp only [hok k (by omega), Option.bind_some, if_true, odd_basket k (by omega)]
        rfl
    -- is the pair among the pairs
    have hpl := prs0_len l least 9 1
    have hpl' : (cpV l least).length ≤ 81 := hpl
    have L1 : a < b → ∀ (d t : Nat), t + d = (cpV l least).length → ∀ k, 1048900 + d < k → laws_FnBaskets.l1 k l a b (ct l [a]) least (cpV l least) (ct l [a, b]) (decide ([a, b] ∈ (cpV l least).take t)) (t : Int) = some true := by
      intro hab d
      have hth := th_two a b ha9 hb9 hab
      have hy0 := ct_nn l [a, b]
      have hya := ct_mono l [a] [a, b] (fun x hx => by rw [List.mem_singleton] at hx; rw [hx]; simp)
      have hyb := ct_mono l [b] [a, b] (fun x hx => by rw [List.mem_singleton] at hx; rw [hx]; simp)
      induction d with
      | zero =>
        intro t ht k hk
        obtain ⟨k, rfl⟩ : ∃ m, k = m + 1 := ⟨k - 1, by omega⟩
        rw [List.take_of_length_le (by omega)]
        have hmem : (decide ([a, b] ∈ cpV l least)) = decide (ct l [a, b] ≥ least) := by
          rw [decide_eq_decide, cp_mem]
          constructor
          · rintro ⟨_, _, _, _, _, _, h⟩
            exact h
          · intro h
            exact ⟨a.toNat, b.toNat, by omega, by omega, by omega, by rw [show ((a.toNat : Nat) : Int) = a by omega, show ((b.toNat : Nat) : Int) = b by omega], h⟩
        simp only [laws_FnBaskets.l1, hmem, hcw1 b hb9 k (by omega), Option.bind_some]
        rw [if_neg (by omega), if_neg (by omega), if_neg (by omega), if_neg (by simp)]
        by_cases hx : ct l [a] > 0
        · have hq0 : 0 ≤ Int.tdiv (100 * ct l [a, b]) (ct l [a]) := Int.tdiv_nonneg (by omega) (by omega)
          have hq : Int.tdiv (100 * ct l [a, b]) (ct l [a]) * ct l [a] ≤ 100 * ct l [a, b] := by
            have := Int.tmod_add_mul_tdiv (100 * ct l [a, b]) (ct l [a])
            have h2 := Int.tmod_nonneg (ct l [a]) (show 0 ≤ 100 * ct l [a, b] by omega)
            rw [Int.mul_comm (ct l [a])] at this
            omega
          have hq100 : Int.tdiv (100 * ct l [a, b]) (ct l [a]) ≤ 100 := by
            by_cases h : Int.tdiv (100 * ct l [a, b]) (ct l [a]) ≤ 100
            · exact h
            · have h1 := Int.mul_le_mul_of_nonneg_right (show (101 : Int) ≤ Int.tdiv (100 * ct l [a, b]) (ct l [a]) by omega) (show 0 ≤ ct l [a] by omega)
              omega
          have w1 : wrap64 (100 * ct l [a, b]) = 100 * ct l [a, b] := w64 (by omega) (by omega)
          rw [if_pos hx, if_neg (by omega), w1, w64 (show -9223372036854775808 ≤ Int.tdiv (100 * ct l [a, b]) (ct l [a]) by omega) (by omega), follows_is l a b _ ha9 hb9 ⟨hq0, hq100⟩ hs hn hO hx k (by omega), Option.bind_some, if_pos (by rw [decide_eq_true_eq]; exact hq), follows_is l a b 100 ha9 hb9 ⟨by omega, by omega⟩ hs hn hO hx k (by omega), Option.bind_some]
          have he : (decide (100 * ct l [a, b] ≥ 100 * ct l [a])) = (ct l [a, b] == ct l [a]) := by
            rw [Bool.eq_iff_iff, decide_eq_true_eq, beq_iff_eq]
            omega
          rw [he, if_neg (by simp)]
          exact J3 k (by omega)
        · rw [if_neg hx]
          exact J3 k (by omega)
      | succ d ih =>
        intro t ht k hk
        obtain ⟨k, rfl⟩ : ∃ m, k = m + 1 := ⟨k - 1, by omega⟩
        have ht' : t < (cpV l least).length := by omega
        obtain ⟨A, B, q1, q2, q3, q4, q5⟩ := (cp_mem l least _).1 (List.getElem_mem ht')
        have etk : [a, b] ∈ (cpV l least).take (t + 1) ↔ [a, b] ∈ (cpV l least).take t ∨ ((A : Int) = a ∧ (B : Int) = b) := by
          rw [List.take_succ_eq_append_getElem ht', List.mem_append, List.mem_singleton, q4]
          simp only [List.cons.injEq, and_true]
          constructor
          · rintro (h | ⟨h1, h2⟩)
            · exact Or.inl h
            · exact Or.inr ⟨h1.symm, h2.symm⟩
          · rintro (h | ⟨h1, h2⟩)
            · exact Or.inl h
            · exact Or.inr ⟨h1.symm, h2.symm⟩
        have u := ih (t + 1) (by omega) k (by omega)
        simp only [laws_FnBaskets.l1, rdR _ t ht', q4, same_two _ _ _ _ k (by omega), Option.bind_some]
        rw [if_pos (by omega), wn t (by omega)]
        by_cases hin : [a, b] ∈ (cpV l least).take t
        · rw [decide_eq_true hin, if_pos rfl]
          rw [decide_eq_true (etk.2 (Or.inl hin))] at u
          exact u
        · rw [decide_eq_false hin, if_neg (by simp), if_pos (by omega)]
          have : (decide ([a, b] ∈ (cpV l least).take (t + 1))) = decide ((A : Int) = a ∧ (B : Int) = b) := by
            rw [decide_eq_decide, etk]
            simp [hin]
          rw [this] at u
          exact u
    -- each pair is good
    have L0 : ∀ (d t : Nat), t + d = (cpV l least).length → ∀ k, 1049100 + d < k → laws_FnBaskets.l0 k l a b (ct l [a]) least (cpV l least) (t : Int) = some true := by
      intro d
      induction d with
      | zero =>
        intro t ht k hk
        obtain ⟨k, rfl⟩ : ∃ m, k = m + 1 := ⟨k - 1, by omega⟩
        simp only [laws_FnBaskets.l0]
        rw [if_neg (by omega)]
        by_cases hab : a < b
        · rw [if_pos hab, cwi l [a, b] hs hn hO (th_two a b ha9 hb9 hab) (by simp) k (by omega), Option.bind_some]
          have := L1 hab (cpV l least).length 0 (by omega) k (by omega)
          rw [List.take_zero] at this
          exact this
        · rw [if_neg hab]
          exact J3 k (by omega)
      | succ d ih =>
        intro t ht k hk
        obtain ⟨k, rfl⟩ : ∃ m, k = m + 1 := ⟨k - 1, by omega⟩
        have ht' : t < (cpV l least).length := by omega
        obtain ⟨A, B, q1, q2, q3, q4, q5⟩ := (cp_mem l least _).1 (List.getElem_mem ht')
        have e5 : ct l [(A : Int), (B : Int)] ≥ least := by rw [← q4]; exact q5
        have r0 : rd [(A : Int), (B : Int)] 0 = (A : Int) := rfl
        have r1 : rd [(A : Int), (B : Int)] 1 = (B : Int) := rfl
        simp only [laws_FnBaskets.l0, rdR _ t ht', q4, cwi l [(A : Int), (B : Int)] hs hn hO (th_two _ _ (by omega) (by omega) (by omega)) (by simp) k (by omega), Option.bind_some, r0, r1]
        rw [if_pos (by omega), if_pos (by omega), if_pos (by simp), if_neg (by omega), if_pos (by simp), if_pos (by simp), if_neg (by omega), wn t (by omega)]
        exact ih (t + 1) (by omega) k (by omega)
    obtain ⟨k, hk⟩ : ∃ k, k = Kd + Kp + Km + 1049300 := ⟨_, rfl⟩
    have J0 : laws_FnBaskets.j0 k l a b (ct l [a]) least (cpV l least) false = some true := by
      obtain ⟨m, hm⟩ : ∃ m, k = m + 1 := ⟨k - 1, by omega⟩
      rw [hm]
      simp only [laws_FnBaskets.j0]
      rw [if_neg (by simp)]
      exact L0 (cpV l least).length 0 (by omega) m (by omega)
    have hfrom := allB_from l least 511 1 [] (Or.inl rfl)
    have hlp := lc_pair l least
    have e0 := cwi l [] hs hn hO th_nil (by simp) k (by omega)
    rw [ct_nil] at e0
    refine ⟨k, ?_⟩
    unfold laws_FnBaskets.f
    rw [big_is, decide_eq_false hb]
    simp only [Option.bind_some, Bool.false_eq_true, if_false, hd k (by omega), hva, hvb, hvc, wa, wb, wc, hcw1 a ha9 k (by omega), hp k (by omega), (hm2 k (by omega)).2, e0, if_true]
    rw [if_neg (by omega), if_neg (by omega)]
    by_cases hmz : ((lcV l least).length : Int) > 0
    · have hct : ∃ c, impl_CountWith.f k l (lcV l least) = some c ∧ least ≤ c := by
        rcases hfrom with e | ⟨c, e, hc⟩
        · exact absurd hmz (by rw [show lcV l least = [] from e]; simp)
        · refine ⟨cntB l c, ?_, hc⟩
          rw [show lcV l least = bitsL c from e]
          have := bitsL_len c
          exact cwi l (bitsL c) hs hn hO (bits_th c) (by omega) k (by omega)
      obtain ⟨c, hc1, hc2⟩ := hct
      rw [if_pos hmz, hc1, Option.bind_some, if_neg (by omega)]
      by_cases hpz : ((cpV l least).length : Int) > 0
      · have := hlp (by omega)
        rw [if_pos hpz, decide_eq_false (by omega)]
        exact J0
      · rw [if_neg hpz]
        exact J0
    · rw [if_neg hmz]
      by_cases hpz : ((cpV l least).length : Int) > 0
      · have := hlp (by omega)
        omega
      · rw [if_neg hpz]
        exact J0
end Go.Proofs.Ytkgigoefmpkngaa.Pure
