/- Baskets: what the laws share. -/
import Derived.Test.YtkgigoefmpkngaaPureBk
import Derived.Test.YtkgigoefmpkngaaPCLx8
namespace Go.Proofs.Ytkgigoefmpkngaa.Pure
set_option linter.unusedVariables false
set_option linter.unusedSimpArgs false
open Go.RowKit Go.Proofs.Ytkgigoefmpkngaa.PCL Go.Proofs.Ytkgigoefmpkngaa.Base Go.Proofs.YtkgigoefmpkngaaW.PrintWords Go.Proofs.YtkgigoefmpkngaaW.PrintLast

theorem th_one (a : Int) (h : 1 ≤ a ∧ a ≤ 9) : Th [a] := ⟨fun x hx => by rw [List.mem_singleton] at hx; rw [hx]; exact h, fun j hj _ h0 => by simp at hj; omega⟩
theorem th_two (a b : Int) (ha : 1 ≤ a ∧ a ≤ 9) (hb : 1 ≤ b ∧ b ≤ 9) (h : a < b) : Th [a, b] := ⟨fun x hx => by
  simp only [List.mem_cons, List.not_mem_nil, or_false] at hx
  rcases hx with rfl | rfl
  · exact ha
  · exact hb, fun j hj _ h0 => by
  simp at hj
  obtain rfl : j = 1 := by omega
  exact h⟩
theorem comp_one (a : Int) : Go.Lib.compact [a, a] = [a] := by
  simp [Go.Lib.compact, Go.Lib.compactUpTo, Go.Lib.keeps, List.range_succ, List.filter_cons]
theorem comp_two (a b : Int) (h : a < b) : Go.Lib.compact [a, b] = [a, b] := by
  have : b ≠ a := by omega
  simp [Go.Lib.compact, Go.Lib.compactUpTo, Go.Lib.keeps, List.range_succ, List.filter_cons, this]
theorem sort_two (a b : Int) : ([a, b].mergeSort fun x y => decide (x ≤ y)) = if a ≤ b then [a, b] else [b, a] := by
  by_cases h : a ≤ b
  · rw [if_pos h]
    simp [List.mergeSort, List.MergeSort.Internal.splitInTwo, List.merge, h]
  · rw [if_neg h]
    simp [List.mergeSort, List.MergeSort.Internal.splitInTwo, List.merge, h]
theorem both_is (a b : Int) (ha : 1 ≤ a ∧ a ≤ 9) (hb : 1 ≤ b ∧ b ≤ 9) : ∃ T, impl_both.f a b = some T ∧ Th T ∧ T.length ≤ 2 ∧ ∀ x, x ∈ T ↔ x = a ∨ x = b := by
  unfold impl_both.f impl_set.f
  rw [if_pos (by simp), sort_two]
  simp only [Option.bind_some]
  rcases Int.lt_trichotomy a b with h | h | h
  · rw [if_pos (by omega), comp_two a b h]
    exact ⟨_, rfl, th_two a b ha hb h, by simp, fun x => by simp⟩
  · subst h
    rw [if_pos (Int.le_refl _), comp_one]
    exact ⟨_, rfl, th_one a ha, by simp, fun x => by simp⟩
  · rw [if_neg (by omega), comp_two b a h]
    exact ⟨_, rfl, th_two b a hb ha h, by simp, fun x => by simp [or_comm]⟩
theorem up_lt (l : List Int) (h : Up l 0) : ∀ (d i : Nat) (hj : i + d + 1 < l.length), l[i]'(by omega) < l[i + d + 1]'hj
  | 0, i, hj => by
    have := h (i + 1) hj (Nat.zero_le _) (by omega)
    simpa using this
  | d + 1, i, hj => by
    have h1 := up_lt l h d i (by omega)
    have h2 := h (i + (d + 1) + 1) hj (Nat.zero_le _) (by omega)
    have e : i + (d + 1) + 1 - 1 = i + d + 1 := by omega
    simp only [e] at h2
    omega
theorem th_nodup (l : List Int) (h : Th l) : l.Nodup := List.pairwise_iff_getElem.2 (fun i j hi hj hij => by
  have := up_lt l h.2 (j - i - 1) i (by omega)
  have e : i + (j - i - 1) + 1 = j := by omega
  simp only [e] at this
  omega)
theorem set_add (l1 : List Int) (t : Int) (h : Th l1) (ht : t ∉ l1) (h9 : 1 ≤ t ∧ t ≤ 9) (hl : l1.length ≤ 1048576) : ∃ T, impl_set.f (l1 ++ [t]) = some T ∧ Th T ∧ T.length ≤ 1048577 ∧ ∀ x, x ∈ T ↔ x ∈ l1 ∨ x = t := by
  have hnd : (l1 ++ [t]).Nodup := by
    rw [List.nodup_append]
    exact ⟨th_nodup l1 h, by simp, fun x hx y hy => by rw [List.mem_singleton] at hy; rw [hy]; exact fun e => ht (e ▸ hx)⟩
  have hlen : (l1 ++ [t]).length = l1.length + 1 := by simp
  unfold impl_set.f
  rw [if_pos (by omega)]
  have hp := List.mergeSort_perm (l1 ++ [t]) (fun x y => decide (x ≤ y))
  have hs := List.pairwise_mergeSort (le := fun x y : Int => decide (x ≤ y)) (fun a b c h1 h2 => by simp only [decide_eq_true_eq] at *; omega) (fun a b => by simp only [Bool.or_eq_true, decide_eq_true_eq]; omega) (l1 ++ [t])
  generalize ((l1 ++ [t]).mergeSort fun x y => decide (x ≤ y)) = T at hp hs
  have hnT : T.Nodup := hp.nodup_iff.2 hnd
  have hlt : ∀ (j : Nat) (hj : j < T.length) (h0 : 0 < j), T[j - 1] < T[j] := fun j hj h0 => by
    have h1 := List.pairwise_iff_getElem.1 hs (j - 1) j (by omega) hj (by omega)
    have h2 := List.pairwise_iff_getElem.1 hnT (j - 1) j (by omega) hj (by omega)
    simp only [decide_eq_true_eq] at h1
    omega
  have hc : Go.Lib.compact T = T := Go.Lib.compact_all T (fun j hj => by
    unfold Go.Lib.keeps
    rw [decide_eq_true_eq]
    by_cases h0 : j = 0
    · exact Or.inl h0
    · right
      have := hlt j hj (by omega)
      have e1 : T.toArray[j]! = T[j] := by simp [hj]
      have e2 : T.toArray[j - 1]! = T[j - 1] := by simp [show j - 1 < T.length by omega]
      rw [e1, e2]
      omega)
  have hm : ∀ x, x ∈ T ↔ x ∈ l1 ∨ x = t := fun x => by rw [hp.mem_iff]; simp
  rw [hc]
  refine ⟨T, rfl, ⟨fun x hx => ?_, fun j hj _ h0 => hlt j hj h0⟩, by rw [hp.length_eq]; omega, hm⟩
  rcases (hm x).1 hx with q | q
  · exact h.1 x q
  · rw [q]; exact h9
end Go.Proofs.Ytkgigoefmpkngaa.Pure
