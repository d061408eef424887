/- Lists strictly ascending, and what impl.set makes: plain law. -/
import Derived.Test.YthdgbngnddkkiaaShelf
import Derived.Test.YthdgbngnddkkiaaInts
namespace Go.Proofs.Ythdgbngnddkkiaa.Pure
/-- Strictly ascending. -/
def SA (l : List Int) : Prop := l.Pairwise (· < ·)
theorem sa_ext : ∀ (a b : List Int), SA a → SA b → (∀ x, x ∈ a ↔ x ∈ b) → a = b
  | [], [], _, _, _ => rfl
  | [], y :: b, _, _, h => absurd ((h y).2 (by simp)) (by simp)
  | x :: a, [], _, _, h => absurd ((h x).1 (by simp)) (by simp)
  | x :: a, y :: b, ha, hb, h => by
    have ha' := List.pairwise_cons.1 ha
    have hb' := List.pairwise_cons.1 hb
    have e : x = y := by
      have h1 := (h x).1 (by simp)
      have h2 := (h y).2 (by simp)
      rcases List.mem_cons.1 h1 with q | q
      · exact q
      · rcases List.mem_cons.1 h2 with p | p
        · exact p.symm
        · have := ha'.1 y p; have := hb'.1 x q; omega
    subst e
    rw [sa_ext a b ha'.2 hb'.2 (fun z => ?_)]
    constructor
    · intro hz
      rcases List.mem_cons.1 ((h z).1 (List.mem_cons_of_mem _ hz)) with q | q
      · have := ha'.1 z hz; omega
      · exact q
    · intro hz
      rcases List.mem_cons.1 ((h z).2 (List.mem_cons_of_mem _ hz)) with q | q
      · have := hb'.1 z hz; omega
      · exact q
/-- Of an ascending array's first m places: what Compact keeps ascends strictly, and has the same members. -/
theorem compact_up (d : Array Int) (hs : ∀ i j, i < j → j < d.size → d[i]! ≤ d[j]!) : ∀ m, m ≤ d.size → SA (Go.Lib.compactUpTo d m) ∧ ∀ x, x ∈ Go.Lib.compactUpTo d m ↔ ∃ j, j < m ∧ d[j]! = x
  | 0, _ => by simp [Go.Lib.compactUpTo, SA]
  | m + 1, hm => by
    obtain ⟨h1, h2⟩ := compact_up d hs m (by omega)
    rw [Go.Lib.compactUpTo_succ]
    cases hk : Go.Lib.keeps d m with
    | true =>
      rw [if_pos rfl]
      unfold Go.Lib.keeps at hk
      rw [decide_eq_true_eq] at hk
      refine ⟨?_, fun x => ?_⟩
      · unfold SA
        rw [List.pairwise_append]
        refine ⟨h1, by simp, fun x hx y hy => ?_⟩
        rw [List.mem_singleton] at hy
        subst hy
        obtain ⟨j, hj, rfl⟩ := (h2 x).1 hx
        rcases hk with hk | hk
        · omega
        · have a1 := hs (m - 1) m (by omega) (by omega)
          rcases Nat.lt_or_ge j (m - 1) with q | q
          · have := hs j (m - 1) q (by omega); omega
          · obtain rfl : j = m - 1 := by omega
            omega
      · rw [List.mem_append, h2, List.mem_singleton]
        constructor
        · rintro (⟨j, hj, e⟩ | e)
          · exact ⟨j, by omega, e⟩
          · exact ⟨m, by omega, e.symm⟩
        · rintro ⟨j, hj, e⟩
          by_cases q : j = m
          · subst q; exact Or.inr e.symm
          · exact Or.inl ⟨j, by omega, e⟩
    | false =>
      rw [if_neg (by simp), List.append_nil]
      unfold Go.Lib.keeps at hk
      rw [decide_eq_false_iff_not] at hk
      refine ⟨h1, fun x => ?_⟩
      rw [h2]
      constructor
      · rintro ⟨j, hj, e⟩; exact ⟨j, by omega, e⟩
      · rintro ⟨j, hj, e⟩
        by_cases q : j = m
        · subst q
          have h3 : d[j]! = d[j - 1]! := by
            by_cases w : d[j]! = d[j - 1]!
            · exact w
            · exact absurd (Or.inr w) hk
          have h4 : j ≠ 0 := fun w => hk (Or.inl w)
          exact ⟨j - 1, by omega, by rw [← h3]; exact e⟩
        · exact ⟨j, by omega, e⟩
theorem set_plain (xs : List Int) : SA (Go.Lib.compact (xs.mergeSort fun x y => decide (x ≤ y))) ∧ ∀ x, x ∈ Go.Lib.compact (xs.mergeSort fun x y => decide (x ≤ y)) ↔ x ∈ xs := by
  have hp := List.mergeSort_perm xs (fun x y => decide (x ≤ y))
  have hs := List.pairwise_mergeSort (le := fun x y : Int => decide (x ≤ y)) (fun a b c h1 h2 => by simp only [decide_eq_true_eq] at *; omega) (fun a b => by simp only [Bool.or_eq_true, decide_eq_true_eq]; omega) xs
  generalize (xs.mergeSort fun x y => decide (x ≤ y)) = T at hp hs
  have hg : ∀ j (hj : j < T.length), T.toArray[j]! = T[j] := fun j hj => by simp [hj]
  obtain ⟨h1, h2⟩ := compact_up T.toArray (fun i j hij hj => by
    have hj' : j < T.length := by simpa using hj
    rw [hg i (by omega), hg j hj']
    have := List.pairwise_iff_getElem.1 hs i j (by omega) hj' hij
    simpa using this) T.length (by simp)
  refine ⟨h1, fun x => ?_⟩
  unfold Go.Lib.compact
  rw [h2, ← hp.mem_iff, List.mem_iff_getElem]
  constructor
  · rintro ⟨j, hj, e⟩
    exact ⟨j, hj, by rw [← hg j hj]; exact e⟩
  · rintro ⟨j, hj, e⟩
    exact ⟨j, hj, by rw [hg j hj]; exact e⟩
end Go.Proofs.Ythdgbngnddkkiaa.Pure
