/- Baskets: what the law asks of the program alone. -/
import Derived.Test.YtkgigoefmpkngaaPureBk2
import Derived.Test.YtkgigoefmpkngaaPureLC
import Derived.Test.YtkgigoefmpkngaaDraw
namespace Go.Proofs.Ytkgigoefmpkngaa.Pure
set_option linter.unusedVariables false
set_option linter.unusedSimpArgs false
open Go.RowKit Go.Proofs.Ytkgigoefmpkngaa.PCL Go.Proofs.Ytkgigoefmpkngaa.Base Go.Proofs.YtkgigoefmpkngaaW.PrintWords Go.Proofs.YtkgigoefmpkngaaW.PrintLast

/-! ### how often -/
def ct (l : List Bk) (T : List Int) : Int := ((l.countP (holdsAll T) : Nat) : Int)
theorem holds_iff (T : List Int) (b : Bk) : holdsAll T b = true ↔ ∀ x ∈ T, x ∈ b.f0 := by
  unfold holdsAll
  rw [Bool.not_eq_true', List.any_eq_false]
  constructor
  · intro h x hx
    have := h x hx
    rw [Bool.not_eq_true', Bool.not_eq_false, List.contains_iff_mem] at this
    exact this
  · intro h x hx
    rw [Bool.not_eq_true', Bool.not_eq_false, List.contains_iff_mem]
    exact h x hx
theorem ct_nn (l : List Bk) (T : List Int) : 0 ≤ ct l T := by unfold ct; omega
theorem ct_le (l : List Bk) (T : List Int) : ct l T ≤ (l.length : Int) := by
  have := List.countP_le_length (p := holdsAll T) (l := l)
  unfold ct
  omega
theorem ct_mono (l : List Bk) (T T' : List Int) (h : ∀ x ∈ T, x ∈ T') : ct l T' ≤ ct l T := by
  have := List.countP_mono_left (l := l) (p := holdsAll T') (q := holdsAll T) (fun b _ hb => (holds_iff T b).2 (fun x hx => (holds_iff T' b).1 hb x (h x hx)))
  unfold ct
  omega
theorem ct_eq (l : List Bk) (T T' : List Int) (h : ∀ x, x ∈ T ↔ x ∈ T') : ct l T = ct l T' := Int.le_antisymm (ct_mono l T' T (fun x hx => (h x).2 hx)) (ct_mono l T T' (fun x hx => (h x).1 hx))
theorem ct_nil (l : List Bk) : ct l [] = (l.length : Int) := by
  have : l.countP (holdsAll []) = l.length := List.countP_eq_length.2 (fun b _ => (holds_iff [] b).2 (fun x hx => by cases hx))
  unfold ct
  rw [this]
theorem th_nil : Th [] := ⟨fun x hx => (by cases hx), fun j hj _ _ => absurd hj (by simp)⟩
theorem cwi (l : List Bk) (T : List Int) (hs : l.length ≤ 9) (hn : ∀ s ∈ l, s.f0.length ≤ 1048576) (hO : Okb l) (hT : Th T) (hl : T.length ≤ 1048578) (k : Nat) (hk : 1048600 < k) : impl_CountWith.f k l T = some (ct l T) := (cw l T (by omega) hn hO hT hl k (by omega)).1
def pr (l : List Bk) (a u : Int) : Int := ct l [mn a u, mx a u]
theorem pr_mem (a u x : Int) : x ∈ [mn a u, mx a u] ↔ x = a ∨ x = u := by
  simp only [List.mem_cons, List.not_mem_nil, or_false]
  unfold mn mx
  split <;> split <;> omega
theorem pr_lt (a u : Int) (h : a ≠ u) : mn a u < mx a u := by
  unfold mn mx
  split <;> split <;> omega
theorem pr_th (a u : Int) (ha : 1 ≤ a ∧ a ≤ 9) (hu : 1 ≤ u ∧ u ≤ 9) (h : a ≠ u) : Th [mn a u, mx a u] :=
  th_two _ _ (by unfold mn; split <;> omega) (by unfold mx; split <;> omega) (pr_lt a u h)

/-! ### the next thing -/
def Fin1 (l : List Bk) (a n : Int) : Prop := n > 0 → n ≠ a ∧ (1 ≤ n ∧ n ≤ 9) ∧ 1 ≤ pr l a n ∧ ∀ u : Int, 1 ≤ u → u ≤ 9 → u ≠ a → pr l a u ≤ pr l a n
theorem next_p (l : List Bk) (a : Int) (ha : 1 ≤ a ∧ a ≤ 9) (hs : l.length ≤ 9) (hn : ∀ s ∈ l, s.f0.length ≤ 1048576) (hO : Okb l) :
    ∀ (d t : Nat) (best most : Int), t + d = 10 → 1 ≤ t → 0 ≤ most → (best ≤ 0 ∨ (best ≠ a ∧ (1 ≤ best ∧ best ≤ 9) ∧ most = pr l a best ∧ 1 ≤ most)) → (∀ u : Int, 1 ≤ u → u < (t : Int) → u ≠ a → pr l a u ≤ most) →
      ∃ n, Fin1 l a n ∧ ∀ k, d + 1048700 < k → impl_NextThing.l0 k l [a] best most (t : Int) = some n := by
  intro d
  induction d with
  | zero =>
    intro t best most ht h0 hm hb hu
    refine ⟨best, fun hp => ?_, fun k hk => ?_⟩
    · rcases hb with h | ⟨h1, h2, h3, h4⟩
      · omega
      · exact ⟨h1, h2, by omega, fun u u1 u2 u3 => by rw [← h3]; exact hu u u1 (by omega) u3⟩
    · obtain ⟨k, rfl⟩ : ∃ m, k = m + 1 := ⟨k - 1, by omega⟩
      simp only [impl_NextThing.l0]
      rw [if_neg (by omega)]
  | succ d ih =>
    intro t best most ht h0 hm hb hu
    by_cases hta : (t : Int) = a
    · obtain ⟨n, h1, h2⟩ := ih (t + 1) best most (by omega) (by omega) hm hb (fun u u1 u2 u3 => hu u u1 (by omega) u3)
      refine ⟨n, h1, fun k hk => ?_⟩
      obtain ⟨k, rfl⟩ : ∃ m, k = m + 1 := ⟨k - 1, by omega⟩
      simp only [impl_NextThing.l0, slices_Contains_int_int.f, Option.bind_some]
      rw [if_pos (by omega), if_pos (by rw [List.contains_iff_mem, hta]; simp), wn t (by omega)]
      exact h2 k (by omega)
    · obtain ⟨T, e1, e2, e3, e4⟩ := set_add [a] (t : Int) (th_one a ha) (by simp; omega) (by omega) (by simp)
      have ec : ct l T = pr l a (t : Int) := ct_eq l _ _ (fun x => by rw [e4, pr_mem, List.mem_singleton])
      have hstep : ∀ k, d + 1 + 1048700 < k + 1 → impl_NextThing.l0 (k + 1) l [a] best most (t : Int) = if pr l a (t : Int) > most then impl_NextThing.l0 k l [a] (t : Int) (pr l a (t : Int)) ((t + 1 : Nat) : Int) else impl_NextThing.l0 k l [a] best most ((t + 1 : Nat) : Int) := fun k hk => by
        simp only [impl_NextThing.l0, slices_Contains_int_int.f, slices_Clone_int_int.f, Option.bind_some]
        rw [if_pos (by omega), if_neg (by rw [List.contains_iff_mem, List.mem_singleton]; exact hta), if_pos (by simp), Option.bind_some, if_pos (by simp), e1, Option.bind_some, cwi l T hs hn hO e2 (by omega) k (by omega), Option.bind_some, ec, wn t (by omega)]
      by_cases hx : pr l a (t : Int) > most
      · obtain ⟨n, h1, h2⟩ := ih (t + 1) (t : Int) (pr l a (t : Int)) (by omega) (by omega) (by omega) (Or.inr ⟨hta, by omega, rfl, by omega⟩) (fun u u1 u2 u3 => by
          by_cases e : u = (t : Int)
          · subst e; exact Int.le_refl _
          · have := hu u u1 (by omega) u3
            omega)
        refine ⟨n, h1, fun k hk => ?_⟩
        obtain ⟨k, rfl⟩ : ∃ m, k = m + 1 := ⟨k - 1, by omega⟩
        rw [hstep k (by omega), if_pos hx]
        exact h2 k (by omega)
      · obtain ⟨n, h1, h2⟩ := ih (t + 1) best most (by omega) (by omega) hm hb (fun u u1 u2 u3 => by
          by_cases e : u = (t : Int)
          · subst e; omega
          · exact hu u u1 (by omega) u3)
        refine ⟨n, h1, fun k hk => ?_⟩
        obtain ⟨k, rfl⟩ : ∃ m, k = m + 1 := ⟨k - 1, by omega⟩
        rw [hstep k (by omega), if_neg hx]
        exact h2 k (by omega)
theorem next_is (l : List Bk) (a : Int) (ha : 1 ≤ a ∧ a ≤ 9) (hs : l.length ≤ 9) (hn : ∀ s ∈ l, s.f0.length ≤ 1048576) (hO : Okb l) : ∃ n, Fin1 l a n ∧ ∀ k, 1048800 < k → impl_NextThing.f k l [a] = some n := by
  by_cases h0 : ct l [a] ≤ 0
  · refine ⟨-1, fun h => absurd h (by omega), fun k hk => ?_⟩
    simp only [impl_NextThing.f, cwi l [a] hs hn hO (th_one a ha) (by simp) k (by omega), Option.bind_some]
    rw [if_pos h0]
  · obtain ⟨n, h1, h2⟩ := next_p l a ha hs hn hO 9 1 (-1) 0 rfl (Nat.le_refl _) (Int.le_refl _) (Or.inl (by omega)) (fun u u1 u2 _ => by omega)
    refine ⟨n, h1, fun k hk => ?_⟩
    simp only [impl_NextThing.f, cwi l [a] hs hn hO (th_one a ha) (by simp) k (by omega), Option.bind_some]
    rw [if_neg h0]
    exact h2 k (by omega)

/-! ### what follows from what -/
theorem follows_is (l : List Bk) (a b p : Int) (ha : 1 ≤ a ∧ a ≤ 9) (hb : 1 ≤ b ∧ b ≤ 9) (hp : 0 ≤ p ∧ p ≤ 100) (hs : l.length ≤ 9) (hn : ∀ s ∈ l, s.f0.length ≤ 1048576) (hO : Okb l) (h0 : ct l [a] > 0) (k : Nat) (hk : 1048700 < k) :
    impl_FollowsFrom.f k l a b p = some (decide (100 * ct l [a, b] ≥ p * ct l [a])) := by
  obtain ⟨r, g, hr⟩ := impl_ok l hn k (by omega)
  obtain rfl : r = true := hr.2 hO
  obtain ⟨T, e1, e2, e3, e4⟩ := both_is a b ha hb
  have ec : ct l T = ct l [a, b] := ct_eq l _ _ (fun x => by rw [e4]; simp)
  have q1 := ct_le l [a]
  have q2 := ct_le l [a, b]
  have q3 := ct_nn l [a, b]
  obtain ⟨k, rfl⟩ : ∃ m, k = m + 1 := ⟨k - 1, by omega⟩
  simp only [impl_FollowsFrom.f, g, Option.bind_some, if_true, in_is, (inB_iff 1 9 a).2 ha, (inB_iff 1 9 b).2 hb, (inB_iff 0 100 p).2 hp, Bool.not_true, impl_FollowsFrom.j0, Bool.false_eq_true, if_false, cwi l [a] hs hn hO (th_one a ha) (by simp) k (by omega), e1, cwi l T hs hn hO e2 (by omega) k (by omega), ec]
  have m1 : 0 ≤ p * ct l [a] := Int.mul_nonneg hp.1 (by omega)
  have m2 : p * ct l [a] ≤ 100 * 9 := Int.le_trans (Int.mul_le_mul_of_nonneg_right hp.2 (by omega)) (Int.mul_le_mul_of_nonneg_left (by omega) (by omega))
  rw [if_pos h0, w64 (by omega) (by omega), w64 (by omega) (by omega)]

/-! ### common pairs -/
def prs1 (l : List Bk) (least : Int) (i : Nat) : Nat → Nat → List (List Int)
  | 0, _ => []
  | d + 1, j => (if ct l [(i : Int), (j : Int)] ≥ least then [[(i : Int), (j : Int)]] else []) ++ prs1 l least i d (j + 1)
def prs0 (l : List Bk) (least : Int) : Nat → Nat → List (List Int)
  | 0, _ => []
  | d + 1, i => prs1 l least i (9 - i) (i + 1) ++ prs0 l least d (i + 1)
theorem prs1_len (l : List Bk) (least : Int) (i : Nat) : ∀ (d j : Nat), (prs1 l least i d j).length ≤ d
  | 0, _ => Nat.le_refl _
  | d + 1, j => by
    have := prs1_len l least i d (j + 1)
    simp only [prs1, List.length_append]
    split <;> simp <;> omega
theorem prs0_len (l : List Bk) (least : Int) : ∀ (d i : Nat), (prs0 l least d i).length ≤ 9 * d
  | 0, _ => Nat.le_refl _
  | d + 1, i => by
    have h1 := prs0_len l least d (i + 1)
    have h2 := prs1_len l least i (9 - i) (i + 1)
    simp only [prs0, List.length_append]
    omega
theorem prs1_mem (l : List Bk) (least : Int) (i : Nat) (T : List Int) : ∀ (d j : Nat), T ∈ prs1 l least i d j ↔ ∃ b : Nat, j ≤ b ∧ b < j + d ∧ T = [(i : Int), (b : Int)] ∧ ct l T ≥ least
  | 0, j => by
    simp only [prs1, List.not_mem_nil, false_iff]
    rintro ⟨b, h1, h2, _⟩
    omega
  | d + 1, j => by
    simp only [prs1, List.mem_append, prs1_mem l least i T d (j + 1)]
    constructor
    · rintro (h | ⟨b, h1, h2, h3, h4⟩)
      · split at h
        · rename_i hc
          rw [List.mem_singleton] at h
          exact ⟨j, Nat.le_refl _, by omega, h, by rw [h]; exact hc⟩
        · cases h
      · exact ⟨b, by omega, by omega, h3, h4⟩
    · rintro ⟨b, h1, h2, h3, h4⟩
      by_cases e : b = j
      · left
        subst e
        rw [if_pos (by rw [← h3]; exact h4), List.mem_singleton]
        exact h3
      · exact Or.inr ⟨b, by omega, by omega, h3, h4⟩
theorem prs0_mem (l : List Bk) (least : Int) (T : List Int) : ∀ (d i : Nat), i + d = 10 → (T ∈ prs0 l least d i ↔ ∃ a b : Nat, i ≤ a ∧ a < b ∧ b ≤ 9 ∧ T = [(a : Int), (b : Int)] ∧ ct l T ≥ least)
  | 0, i, hi => by
    simp only [prs0, List.not_mem_nil, false_iff]
    rintro ⟨a, b, h1, h2, h3, _⟩
    omega
  | d + 1, i, hi => by
    simp only [prs0, List.mem_append, prs0_mem l least T d (i + 1) (by omega), prs1_mem]
    constructor
    · rintro (⟨b, h1, h2, h3, h4⟩ | ⟨a, b, h1, h2, h3, h4⟩)
      · exact ⟨i, b, Nat.le_refl _, by omega, by omega, h3, h4⟩
      · exact ⟨a, b, by omega, h2, h3, h4⟩
    · rintro ⟨a, b, h1, h2, h3, h4, h5⟩
      by_cases e : a = i
      · subst e
        exact Or.inl ⟨b, by omega, by omega, h4, h5⟩
      · exact Or.inr ⟨a, b, by omega, h2, h3, h4, h5⟩
theorem cp_l1 (l : List Bk) (least : Int) (hs : l.length ≤ 9) (hn : ∀ s ∈ l, s.f0.length ≤ 1048576) (hO : Okb l) (i : Nat) (hi : 1 ≤ i) (hi9 : i ≤ 9) (R : List (List Int)) (K : Nat) (hK : 1048600 < K) :
    ∀ (d j : Nat) (acc : List (List Int)), j + d = 10 → i < j → acc.length + d ≤ 1000 → (∀ k, K ≤ k → impl_CommonPairs.l0 k l least (acc ++ prs1 l least i d j) ((i + 1 : Nat) : Int) = some R) → ∀ k, K + d < k → impl_CommonPairs.l1 k l least acc (i : Int) (j : Int) = some R := by
  intro d
  induction d with
  | zero =>
    intro j acc hj hij ha h k hk
    obtain ⟨k, rfl⟩ : ∃ m, k = m + 1 := ⟨k - 1, by omega⟩
    have h' := h k (by omega)
    simp only [prs1, List.append_nil] at h'
    simp only [impl_CommonPairs.l1]
    rw [if_neg (by omega), wn i (by omega)]
    exact h'
  | succ d ih =>
    intro j acc hj hij ha h k hk
    obtain ⟨k, rfl⟩ : ∃ m, k = m + 1 := ⟨k - 1, by omega⟩
    simp only [impl_CommonPairs.l1, cwi l [(i : Int), (j : Int)] hs hn hO (th_two _ _ (by omega) (by omega) (by omega)) (by simp) k (by omega), Option.bind_some]
    rw [if_pos (by omega), wn j (by omega)]
    simp only [prs1] at h
    by_cases hc : ct l [(i : Int), (j : Int)] ≥ least
    · rw [if_pos hc] at h
      rw [if_pos hc, if_pos (by omega)]
      exact ih (j + 1) _ (by omega) (by omega) (by simp; omega) (fun k hk => by rw [List.append_assoc]; exact h k hk) k (by omega)
    · rw [if_neg hc] at h
      rw [if_neg hc]
      exact ih (j + 1) acc (by omega) (by omega) (by omega) (fun k hk => by have := h k hk; rwa [List.nil_append] at this) k (by omega)
theorem cp_l0 (l : List Bk) (least : Int) (hs : l.length ≤ 9) (hn : ∀ s ∈ l, s.f0.length ≤ 1048576) (hO : Okb l) : ∀ (d i : Nat) (acc : List (List Int)), i + d = 10 → 1 ≤ i → acc.length + 9 * d ≤ 100 → ∃ K, 1048600 < K ∧ ∀ k, K ≤ k → impl_CommonPairs.l0 k l least acc (i : Int) = some (acc ++ prs0 l least d i) := by
  intro d
  induction d with
  | zero =>
    intro i acc hi h1 ha
    refine ⟨1048601, by omega, fun k hk => ?_⟩
    obtain ⟨k, rfl⟩ : ∃ m, k = m + 1 := ⟨k - 1, by omega⟩
    simp only [impl_CommonPairs.l0, prs0, List.append_nil]
    rw [if_neg (by omega)]
  | succ d ih =>
    intro i acc hi h1 ha
    have hl := prs1_len l least i (9 - i) (i + 1)
    obtain ⟨K, hK, h⟩ := ih (i + 1) (acc ++ prs1 l least i (9 - i) (i + 1)) (by omega) (by omega) (by rw [List.length_append]; omega)
    refine ⟨K + 20, by omega, fun k hk => ?_⟩
    obtain ⟨k, rfl⟩ : ∃ m, k = m + 1 := ⟨k - 1, by omega⟩
    simp only [impl_CommonPairs.l0, prs0]
    rw [if_pos (by omega), wn i (by omega), ← List.append_assoc]
    exact cp_l1 l least hs hn hO i h1 (by omega) _ K hK (9 - i) (i + 1) acc (by omega) (by omega) (by omega) h k (by omega)
def cpV (l : List Bk) (least : Int) : List (List Int) := prs0 l least 9 1
theorem cp_is (l : List Bk) (least : Int) (h1 : 1 ≤ least) (h30 : least ≤ 30) (hs : l.length ≤ 9) (hn : ∀ s ∈ l, s.f0.length ≤ 1048576) (hO : Okb l) : ∃ K, ∀ k, K ≤ k → impl_CommonPairs.f k l least = some (cpV l least) := by
  obtain ⟨K, hK, h⟩ := cp_l0 l least hs hn hO 9 1 [] rfl (Nat.le_refl _) (by simp)
  refine ⟨K + 1, fun k hk => ?_⟩
  obtain ⟨r, g, hr⟩ := impl_ok l hn k (by omega)
  obtain rfl : r = true := hr.2 hO
  obtain ⟨k, rfl⟩ : ∃ m, k = m + 1 := ⟨k - 1, by omega⟩
  have h' := h k (by omega)
  rw [List.nil_append] at h'
  simp only [impl_CommonPairs.f, g, Option.bind_some, if_true, in_is, (inB_iff 1 30 least).2 ⟨h1, h30⟩, Bool.not_true, impl_CommonPairs.j0, Bool.false_eq_true, if_false]
  exact h'
theorem cp_mem (l : List Bk) (least : Int) (T : List Int) : T ∈ cpV l least ↔ ∃ a b : Nat, 1 ≤ a ∧ a < b ∧ b ≤ 9 ∧ T = [(a : Int), (b : Int)] ∧ ct l T ≥ least := prs0_mem l least T 9 1 rfl

/-! ### the largest common set -/
theorem stepB_ge (l : List Bk) (least : Int) (best : List Int) (b : Nat) : best.length ≤ (stepB l least best b).length ∧ (cntB l b ≥ least → (bitsL b).length ≤ (stepB l least best b).length) := by
  unfold stepB
  split
  · rename_i h
    exact ⟨Nat.le_refl _, fun hc => by rcases h with h | h <;> omega⟩
  · split
    · rename_i h1 h2
      exact ⟨by omega, fun _ => Nat.le_refl _⟩
    · rename_i h1 h2
      exact ⟨Nat.le_refl _, fun _ => by omega⟩
theorem allB_ge (l : List Bk) (least : Int) : ∀ (d b : Nat) (best : List Int), best.length ≤ (allB l least d b best).length ∧ ∀ c, b ≤ c → c < b + d → cntB l c ≥ least → (bitsL c).length ≤ (allB l least d b best).length
  | 0, b, best => ⟨Nat.le_refl _, fun c h1 h2 => absurd h1 (by omega)⟩
  | d + 1, b, best => by
    obtain ⟨g1, g2⟩ := stepB_ge l least best b
    obtain ⟨a1, a2⟩ := allB_ge l least d (b + 1) (stepB l least best b)
    simp only [allB]
    refine ⟨by omega, fun c h1 h2 h3 => ?_⟩
    by_cases e : c = b
    · subst e
      have := g2 h3
      omega
    · exact a2 c (by omega) (by omega) h3
def FromB (l : List Bk) (least : Int) (best : List Int) : Prop := best = [] ∨ ∃ c, best = bitsL c ∧ cntB l c ≥ least
theorem allB_from (l : List Bk) (least : Int) : ∀ (d b : Nat) (best : List Int), FromB l least best → FromB l least (allB l least d b best)
  | 0, b, best, h => h
  | d + 1, b, best, h => allB_from l least d (b + 1) _ (by
    unfold stepB
    split
    · exact h
    · rename_i hc
      split
      · exact Or.inr ⟨b, rfl, by omega⟩
      · exact h)
theorem pair_bits : ∀ A : Fin 10, ∀ B : Fin 10, 1 ≤ A.1 → A.1 < B.1 → bitsL (2 ^ (A.1 - 1) + 2 ^ (B.1 - 1)) = [(A.1 : Int), (B.1 : Int)] ∧ 1 ≤ 2 ^ (A.1 - 1) + 2 ^ (B.1 - 1) ∧ 2 ^ (A.1 - 1) + 2 ^ (B.1 - 1) < 512 := by decide +kernel
theorem lc_pair (l : List Bk) (least : Int) (h : 0 < (cpV l least).length) : 2 ≤ (lcV l least).length := by
  obtain ⟨T, hT⟩ : ∃ T, T ∈ cpV l least := ⟨_, List.getElem_mem h⟩
  obtain ⟨a, b, h1, h2, h3, e, hc⟩ := (cp_mem l least T).1 hT
  obtain ⟨p1, p2, p3⟩ := pair_bits ⟨a, by omega⟩ ⟨b, by omega⟩ h1 h2
  simp only at p1 p2 p3
  have := (allB_ge l least 511 1 []).2 (2 ^ (a - 1) + 2 ^ (b - 1)) (by omega) (by omega) (by
    unfold cntB
    rw [p1, ← e]
    exact hc)
  rw [p1] at this
  exact this

/-! ### what is drawn -/
theorem pick_is (code : List Int) (i h : Int) (hl : code.length ≤ 1048576) (hc : Cur code i) : ∃ (v : Nat) (i' h' : Int), spec_l01PickInt.f code i h [0, 1, 3] = some ((v : Int), i', h') ∧ v ≤ 3 ∧ Cur code i' := by
  obtain ⟨v, i', h', e, v0, v1, c⟩ := below_is code i h 3 hl hc (by omega)
  obtain ⟨V, rfl⟩ : ∃ V : Nat, v = (V : Int) := ⟨v.toNat, by omega⟩
  have hV : V < 3 := by omega
  have e' : spec_l01Below.f code i h ((([0, 1, 3] : List Int).length : Nat) : Int) = some ((V : Int), i', h') := e
  have hr : ∃ w : Nat, rd [0, 1, 3] (V : Int) = (w : Int) ∧ w ≤ 3 := by
    rcases V with _ | _ | _ | V
    · exact ⟨0, rfl, by omega⟩
    · exact ⟨1, rfl, by omega⟩
    · exact ⟨3, rfl, by omega⟩
    · omega
  obtain ⟨w, hw, hw3⟩ := hr
  refine ⟨w, i', h', ?_, hw3, c⟩
  simp only [spec_l01PickInt.f, e', Option.bind_some]
  rw [if_pos (by omega), if_pos (by simp; omega), hw]
theorem draw_l0 (code : List Int) (hl : code.length ≤ 1048576) (N : Nat) (hN : N ≤ 9) : ∀ (d n : Nat) (acc : List Bk) (ci h : Int), n + d = N → acc.length = n → (∀ s ∈ acc, Th s.f0 ∧ s.f0.length ≤ 9) → Cur code ci →
    ∃ L ci' h', (∀ k, d + 20 < k → spec_l20List.l0 k acc (N : Int) (n : Int) code ci h = some (L, ci', h')) ∧ L.length = N ∧ ∀ s ∈ L, Th s.f0 ∧ s.f0.length ≤ 9 := by
  intro d
  induction d with
  | zero =>
    intro n acc ci h hn ha hD hc
    refine ⟨acc, ci, h, fun k hk => ?_, by omega, hD⟩
    obtain ⟨k, rfl⟩ : ∃ m, k = m + 1 := ⟨k - 1, by omega⟩
    simp only [spec_l20List.l0]
    rw [if_neg (by omega)]
  | succ d ih =>
    intro n acc ci h hn ha hD hc
    obtain ⟨v, ci1, h1, e1, v0, v1, c1⟩ := below_is code ci h 64 hl hc (by omega)
    obtain ⟨V, rfl⟩ : ∃ V : Nat, v = (V : Int) := ⟨v.toNat, by omega⟩
    obtain ⟨w, ci2, h2, e2, w3, c2⟩ := pick_is code ci1 h1 hl c1
    have hor : V ||| w < 2 ^ 6 := Nat.or_lt_two_pow (by omega) (by omega)
    have ew : wrap64 (2 * Go.bits .or .i64 (V : Int) (w : Int)) = ((2 * (V ||| w) : Nat) : Int) := by
      rw [or_nat V w (by omega) (by omega), w64 (by omega) (by omega)]
      omega
    obtain ⟨L, ci', h', q1, q2, q3⟩ := ih (n + 1) (acc ++ [⟨bitsL (V ||| w)⟩]) ci2 h2 (by omega) (by simp [ha]) (fun s hs => by
      rcases List.mem_append.1 hs with hs | hs
      · exact hD s hs
      · rw [List.mem_singleton] at hs
        subst hs
        exact ⟨bits_th _, bitsL_len _⟩) c2
    refine ⟨L, ci', h', fun k hk => ?_, q2, q3⟩
    obtain ⟨k, rfl⟩ : ∃ m, k = m + 1 := ⟨k - 1, by omega⟩
    simp only [spec_l20List.l0, e1, e2, Option.bind_some, ew, sbits (V ||| w) (by omega) k (by omega)]
    rw [if_pos (by omega), if_pos (by omega), wn n (by omega)]
    exact q1 k (by omega)
theorem draw_is (code : List Int) (hl : code.length ≤ 1048576) : ∃ l, (l.length ≤ 9 ∧ Okb l ∧ ∀ s ∈ l, s.f0.length ≤ 1048576) ∧ ∃ K, ∀ k, K ≤ k → spec_DrawBaskets.f k code = some l := by
  obtain ⟨h, e⟩ := new_is code (code.length + 1) hl (by omega)
  obtain ⟨v, i1, h1, e1, b0, b1, c1⟩ := below_is code 0 h 10 hl (cur0 code) (by omega)
  obtain ⟨N, rfl⟩ : ∃ N : Nat, v = (N : Int) := ⟨v.toNat, by omega⟩
  obtain ⟨L, i', h', g1, g2, g3⟩ := draw_l0 code hl N (by omega) N 0 [] i1 h1 (by omega) rfl (fun s hs => by cases hs) c1
  refine ⟨L, ⟨by omega, ⟨by omega, fun s hs => (g3 s hs).1⟩, fun s hs => by have := (g3 s hs).2; omega⟩, code.length + N + 40, fun k hk => ?_⟩
  have e3 := up_to (fun k => spec_l01New.mono code k) e (show code.length + 1 ≤ k by omega)
  have g2' : spec_l20List.l0 k [] (N : Int) 0 code i1 h1 = some (L, i', h') := g1 k (by omega)
  simp only [spec_DrawBaskets.f, e3, Option.bind_some, spec_l20List.f, e1]
  rw [g2']
  rfl
end Go.Proofs.Ytkgigoefmpkngaa.Pure
