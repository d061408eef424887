/- The lots that made just the bad breads: both say the same. -/
import Derived.Test.YthdgbngnddkkiaaPureLots
import Derived.Test.YthdgbngnddkkiaaBfs
import Derived.Test.YthdgbngnddkkiaaPHXx7
import Derived.Test.YthdgbngnddkkiaaPHXx9
namespace Go.Proofs.Ythdgbngnddkkiaa.Pure
set_option linter.unusedVariables false
set_option linter.unusedSimpArgs false
open Go.RowKit Go.Proofs.Ythdgbngnddkkiaa.PHX Go.Proofs.Ythdgbngnddkkiaa.Base Go.Proofs.YthdgbngnddkkiaaW.PrintWords Go.Proofs.YthdgbngnddkkiaaW.PrintLast

theorem breads_i (l : List Us) (x : Int) (hb : l.length ≤ 9223372036854775800) : Ev (fun k => impl_BreadsOf.f k l x) (breadsV l x) := by
  obtain ⟨K, h⟩ := breads_both l x hb
  exact ⟨K, fun k hk => (h k hk).2⟩
theorem breads_s (l : List Us) (x : Int) (hb : l.length ≤ 9223372036854775800) : Ev (fun k => spec_BreadsOf.f k l x) (breadsV l x) := by
  obtain ⟨K, h⟩ := breads_both l x hb
  exact ⟨K, fun k hk => (h k hk).1⟩
theorem lots_i (l : List Us) (x : Int) (hb : l.length ≤ 9223372036854775800) : Ev (fun k => impl_LotsOf.f k l x) (lotsV l x) := by
  obtain ⟨K, h⟩ := lots_both l x hb
  exact ⟨K, fun k hk => (h k hk).2⟩
theorem eqI_l (a b : List Int) (hl : a.length = b.length) (hb : a.length ≤ 9223372036854775800) : ∀ (d n k : Nat), n + d = a.length → d < k → slices_Equal_int_int.l0 k a b (a.length : Int) (n : Int) = some (decide (a.drop n = b.drop n)) := by
  intro d
  induction d with
  | zero =>
    intro n k hn hk
    obtain ⟨k, rfl⟩ : ∃ m, k = m + 1 := ⟨k - 1, by omega⟩
    simp only [slices_Equal_int_int.l0]
    rw [if_neg (by omega), List.drop_of_length_le (by omega), List.drop_of_length_le (by omega)]
    simp
  | succ d ih =>
    intro n k hn hk
    obtain ⟨k, rfl⟩ : ∃ m, k = m + 1 := ⟨k - 1, by omega⟩
    simp only [slices_Equal_int_int.l0]
    rw [if_pos (by omega), if_pos (by omega), if_pos (by omega), if_pos (by omega), rd_get a n (by omega), rd_get b n (by omega), wn n (by omega)]
    have e : (a.drop n = b.drop n) ↔ (a[n] = b[n] ∧ a.drop (n + 1) = b.drop (n + 1)) := by
      rw [List.drop_eq_getElem_cons (show n < a.length by omega), List.drop_eq_getElem_cons (show n < b.length by omega), List.cons.injEq]
    by_cases h : a[n] = b[n]
    · rw [if_pos h, ih (n + 1) k (by omega) (by omega)]
      simp only [e, h, true_and]
    · rw [if_neg h]
      simp only [e, h, false_and, decide_false]
theorem eqI (a b : List Int) (k : Nat) (hb : a.length ≤ 9223372036854775800) (hk : a.length < k) : slices_Equal_int_int.f k a b = some (decide (a = b)) := by
  unfold slices_Equal_int_int.f
  by_cases h : a.length = b.length
  · rw [if_pos (by omega)]
    have := eqI_l a b h hb a.length 0 k (by omega) hk
    simpa using this
  · rw [if_neg (by omega)]
    have : a ≠ b := fun e => h (by rw [e])
    simp [this]
theorem has_l (l : List Int) (a : Int) (hb : l.length ≤ 9223372036854775800) : ∀ (d k n : Nat), n + d = l.length → d < k → spec_l17Has.l0 k l a (n : Int) = some ((l.drop n).contains a) := by
  intro d
  induction d with
  | zero =>
    intro k n hn hk
    obtain ⟨k, rfl⟩ : ∃ m, k = m + 1 := ⟨k - 1, by omega⟩
    simp only [spec_l17Has.l0]
    rw [if_neg (by omega), List.drop_of_length_le (by omega)]
    rfl
  | succ d ih =>
    intro k n hn hk
    obtain ⟨k, rfl⟩ : ∃ m, k = m + 1 := ⟨k - 1, by omega⟩
    have hn' : n < l.length := by omega
    simp only [spec_l17Has.l0]
    rw [if_pos (by omega), if_pos (by omega), rd_get l n hn', wn n (by omega), ih k (n + 1) (by omega) (by omega), List.drop_eq_getElem_cons hn', List.contains_cons]
    by_cases e : l[n] = a
    · rw [if_pos e, e]; simp
    · rw [if_neg e]
      have : (a == l[n]) = false := by simp; exact fun h => e h.symm
      rw [this]; simp
theorem has_is (l : List Int) (a : Int) (k : Nat) (hb : l.length ≤ 9223372036854775800) (hk : l.length < k) : spec_l17Has.f k l a = some (l.contains a) := by
  have := has_l l a hb l.length k 0 (by omega) hk
  simpa [spec_l17Has.f] using this
def setL (xs : List Int) : List Int := Go.Lib.compact (xs.mergeSort fun x y => decide (x ≤ y))
theorem set_is (xs : List Int) (h : xs.length ≤ 1000000000) : impl_set.f xs = some (setL xs) := by
  unfold impl_set.f
  rw [if_pos h]
  rfl
theorem breadsV_sa (l : List Us) (x : Int) : SA (breadsV l x) := by
  unfold breadsV
  split
  · exact bFrom_sa l x 50 1
  · exact List.Pairwise.nil
theorem same_set (b bad : List Int) (hb : SA b) : (bad.all (fun x => b.contains x) && b.all (fun x => bad.contains x)) = decide (b = setL bad) := by
  obtain ⟨h1, h2⟩ := set_plain bad
  rw [Bool.eq_iff_iff, Bool.and_eq_true, List.all_eq_true, List.all_eq_true, decide_eq_true_eq]
  constructor
  · rintro ⟨g1, g2⟩
    refine sa_ext _ _ hb h1 (fun x => Iff.trans ?_ (h2 x).symm)
    exact ⟨fun h => by simpa using g2 x h, fun h => by simpa using g1 x h⟩
  · intro e
    have h3 : ∀ x, x ∈ b ↔ x ∈ bad := fun x => by rw [e]; exact h2 x
    exact ⟨fun x hx => by simpa using (h3 x).2 hx, fun x hx => by simpa using (h3 x).1 hx⟩
/-- The suspects from lot b on. -/
def sFrom (l : List Us) (S : List Int) : Nat → Nat → List Int
  | 0, _ => []
  | d + 1, b => if breadsV l b = S then (b : Int) :: sFrom l S d (b + 1) else sFrom l S d (b + 1)
theorem sFrom_len (l : List Us) (S : List Int) : ∀ (d b : Nat), (sFrom l S d b).length ≤ d
  | 0, _ => by simp [sFrom]
  | d + 1, b => by
    have := sFrom_len l S d (b + 1)
    simp only [sFrom]
    split
    · simp; omega
    · omega
theorem sFrom_mem (l : List Us) (S : List Int) : ∀ (d b : Nat) (x : Int), x ∈ sFrom l S d b ↔ ((b : Int) ≤ x ∧ x < ((b + d : Nat) : Int) ∧ breadsV l x = S)
  | 0, b, x => by
    simp only [sFrom, List.not_mem_nil, false_iff]
    rintro ⟨h1, h2, _⟩
    omega
  | d + 1, b, x => by
    have ih := sFrom_mem l S d (b + 1) x
    simp only [sFrom]
    split
    · rename_i hf
      rw [List.mem_cons, ih]
      constructor
      · rintro (h | ⟨h1, h2, h3⟩)
        · subst h; exact ⟨by omega, by omega, hf⟩
        · exact ⟨by omega, by omega, h3⟩
      · rintro ⟨h1, h2, h3⟩
        by_cases e : x = (b : Int)
        · exact Or.inl e
        · exact Or.inr ⟨by omega, by omega, h3⟩
    · rename_i hf
      rw [ih]
      constructor
      · rintro ⟨h1, h2, h3⟩
        exact ⟨by omega, by omega, h3⟩
      · rintro ⟨h1, h2, h3⟩
        by_cases e : x = (b : Int)
        · subst e; exact absurd h3 hf
        · exact ⟨by omega, by omega, h3⟩
theorem susp_il (l : List Us) (bad : List Int) (hb : l.length ≤ 9223372036854775800) (hbad : bad.length ≤ 1000000) : ∀ (d b : Nat) (o : List Int), b + d = 51 → o.length + d ≤ 1000 → Ev (fun k => impl_Suspects.l0 k l bad o (b : Int)) (o ++ sFrom l (setL bad) d b) := by
  intro d
  induction d with
  | zero =>
    intro b o hbd ho
    refine ⟨1, fun k hk => ?_⟩
    obtain ⟨k, rfl⟩ : ∃ m, k = m + 1 := ⟨k - 1, by omega⟩
    simp only [impl_Suspects.l0]
    rw [if_neg (by omega)]
    simp [sFrom]
  | succ d ih =>
    intro b o hbd ho
    obtain ⟨K, h⟩ := ih (b + 1) (if breadsV l b = setL bad then o ++ [(b : Int)] else o) (by omega) (by split <;> (try simp only [List.length_append, List.length_singleton]) <;> omega)
    obtain ⟨K1, h1⟩ := breads_i l (b : Int) hb
    have hlen := breadsV_len l (b : Int)
    refine ⟨K + K1 + 1000, fun k hk => ?_⟩
    obtain ⟨k, rfl⟩ : ∃ m, k = m + 1 := ⟨k - 1, by omega⟩
    have h' := h k (by omega)
    have h1' := h1 k (by omega)
    simp only at h' h1'
    simp only [impl_Suspects.l0]
    rw [if_pos (by omega), h1', Option.bind_some, set_is bad (by omega), Option.bind_some, eqI _ _ k (by omega) (by omega), Option.bind_some, w64 (by omega) (by omega)]
    simp only [sFrom]
    by_cases e : breadsV l (b : Int) = setL bad
    · rw [if_pos e] at h'
      rw [if_pos (decide_eq_true e), if_pos (by omega), if_pos e]
      simpa using h'
    · rw [if_neg e] at h'
      rw [if_neg (by simp [e]), if_neg e]
      simpa using h'
def suspB (l : List Us) (bad : List Int) : Bool := usesV l && (inB 1 50 (bad.length : Int) && bad.all (inB 1 50))
def suspV (l : List Us) (bad : List Int) : List Int := if suspB l bad = true then sFrom l (setL bad) 50 1 else []
theorem susp_i (l : List Us) (bad : List Int) (hb : l.length ≤ 9223372036854775800) : Ev (fun k => impl_Suspects.f k l bad) (suspV l bad) := by
  unfold suspV suspB
  cases hv : usesV l with
  | false =>
    refine ⟨1, fun k hk => ?_⟩
    obtain ⟨k, rfl⟩ : ∃ m, k = m + 1 := ⟨k - 1, by omega⟩
    simp [impl_Suspects.f, impl_uses, hv, impl_Suspects.j0]
  | true =>
    cases hi : inB 1 50 (bad.length : Int) with
    | false =>
      refine ⟨1, fun k hk => ?_⟩
      obtain ⟨k, rfl⟩ : ∃ m, k = m + 1 := ⟨k - 1, by omega⟩
      simp [impl_Suspects.f, impl_uses, hv, impl_Suspects.j0, in_is, hi]
    | true =>
      cases ha : bad.all (inB 1 50) with
      | false =>
        refine ⟨1, fun k hk => ?_⟩
        obtain ⟨k, rfl⟩ : ∃ m, k = m + 1 := ⟨k - 1, by omega⟩
        simp only [impl_Suspects.f, impl_uses, hv, impl_Suspects.j0, in_is, hi, impl_allIn.f, ha, Option.bind_some, if_true, Bool.not_false]
        simp
      | true =>
        rw [inB_iff] at hi
        obtain ⟨K, h⟩ := susp_il l bad hb (by omega) 50 1 [] rfl (by simp)
        refine ⟨K + 1, fun k hk => ?_⟩
        obtain ⟨k, rfl⟩ : ∃ m, k = m + 1 := ⟨k - 1, by omega⟩
        have h' := h k (by omega)
        simp only [impl_Suspects.f, impl_uses, hv, impl_Suspects.j0, in_is, (inB_iff _ _ _).2 hi, impl_allIn.f, ha, Option.bind_some, if_true, Bool.not_true]
        rw [if_neg (by simp)]
        simpa using h'
theorem susp_l3 (l : List Us) (bad b : List Int) (o : List Int) (x : Int) (hx : 1 ≤ x ∧ x ≤ 50) (hbl : b.length ≤ 50) (hbad : bad.length ≤ 1000000) (ho : o.length ≤ 1000) (K : Nat) (R : List Int) (q : Bool) :
    ∀ (d n : Nat) (f : Bool), n + d = b.length → (∀ k, K ≤ k → spec_Suspects.l1 k l bad (if (f && (b.drop n).all (fun y => bad.contains y)) = true then o ++ [x] else o) (x + 1) = some R) → ∀ k, K + 2000000 + d ≤ k → spec_Suspects.l3 k l bad o x b f (n : Int) = some R := by
  intro d
  induction d with
  | zero =>
    intro n f hn h k hk
    obtain ⟨k, rfl⟩ : ∃ m, k = m + 1 := ⟨k - 1, by omega⟩
    have h' := h k (by omega)
    rw [List.drop_of_length_le (by omega), List.all_nil, Bool.and_true] at h'
    simp only [spec_Suspects.l3]
    rw [if_neg (by omega), w64 (by omega) (by omega)]
    cases f with
    | true => rw [if_pos rfl] at h'; rw [if_pos rfl, if_pos (by omega)]; exact h'
    | false => rw [if_neg (by simp)] at h'; rw [if_neg (by simp)]; exact h'
  | succ d ih =>
    intro n f hn h k hk
    obtain ⟨k, rfl⟩ : ∃ m, k = m + 1 := ⟨k - 1, by omega⟩
    have hn' : n < b.length := by omega
    rw [List.drop_eq_getElem_cons hn', List.all_cons] at h
    simp only [spec_Suspects.l3]
    rw [if_pos (by omega), wn n (by omega)]
    cases f with
    | true =>
      rw [if_pos rfl, if_pos (by omega), rd_get b n hn', has_is bad _ k (by omega) (by omega), Option.bind_some]
      refine ih (n + 1) _ (by omega) (fun k hk => ?_) k (by omega)
      have := h k hk
      rwa [Bool.true_and] at this
    | false =>
      rw [if_neg (by simp)]
      refine ih (n + 1) false (by omega) (fun k hk => ?_) k (by omega)
      have := h k hk
      rwa [Bool.false_and] at this ⊢
theorem susp_l2 (l : List Us) (bad b : List Int) (o : List Int) (x : Int) (hx : 1 ≤ x ∧ x ≤ 50) (hbl : b.length ≤ 50) (hbad : bad.length ≤ 1000000) (ho : o.length ≤ 1000) (K : Nat) (R : List Int) :
    ∀ (d n : Nat) (f : Bool), n + d = bad.length → (∀ k, K ≤ k → spec_Suspects.l1 k l bad (if ((f && (bad.drop n).all (fun y => b.contains y)) && b.all (fun y => bad.contains y)) = true then o ++ [x] else o) (x + 1) = some R) → ∀ k, K + 3000000 + d ≤ k → spec_Suspects.l2 k l bad o x b f (n : Int) = some R := by
  intro d
  induction d with
  | zero =>
    intro n f hn h k hk
    obtain ⟨k, rfl⟩ : ∃ m, k = m + 1 := ⟨k - 1, by omega⟩
    rw [List.drop_of_length_le (by omega), List.all_nil, Bool.and_true] at h
    simp only [spec_Suspects.l2]
    rw [if_neg (by omega)]
    refine susp_l3 l bad b o x hx hbl hbad ho K R true b.length 0 f (by omega) (fun k hk => ?_) k (by omega)
    rw [List.drop_zero]
    exact h k hk
  | succ d ih =>
    intro n f hn h k hk
    obtain ⟨k, rfl⟩ : ∃ m, k = m + 1 := ⟨k - 1, by omega⟩
    have hn' : n < bad.length := by omega
    rw [List.drop_eq_getElem_cons hn', List.all_cons] at h
    simp only [spec_Suspects.l2]
    rw [if_pos (by omega), wn n (by omega)]
    cases f with
    | true =>
      rw [if_pos rfl, if_pos (by omega), rd_get bad n hn', has_is b _ k (by omega) (by omega), Option.bind_some]
      refine ih (n + 1) _ (by omega) (fun k hk => ?_) k (by omega)
      have := h k hk
      rwa [Bool.true_and] at this
    | false =>
      rw [if_neg (by simp)]
      refine ih (n + 1) false (by omega) (fun k hk => ?_) k (by omega)
      have := h k hk
      simp only [Bool.false_and] at this ⊢
      exact this
theorem susp_sl (l : List Us) (bad : List Int) (hb : l.length ≤ 9223372036854775800) (hbad : bad.length ≤ 1000000) : ∀ (d b : Nat) (o : List Int), b + d = 51 → 1 ≤ b → o.length + d ≤ 1000 → Ev (fun k => spec_Suspects.l1 k l bad o (b : Int)) (o ++ sFrom l (setL bad) d b) := by
  intro d
  induction d with
  | zero =>
    intro b o hbd h1 ho
    refine ⟨1, fun k hk => ?_⟩
    obtain ⟨k, rfl⟩ : ∃ m, k = m + 1 := ⟨k - 1, by omega⟩
    simp only [spec_Suspects.l1]
    rw [if_neg (by omega)]
    simp [sFrom]
  | succ d ih =>
    intro b o hbd hb1 ho
    obtain ⟨K, h⟩ := ih (b + 1) (if breadsV l b = setL bad then o ++ [(b : Int)] else o) (by omega) (by omega) (by split <;> (try simp only [List.length_append, List.length_singleton]) <;> omega)
    obtain ⟨K1, h1⟩ := breads_s l (b : Int) hb
    have hlen := breadsV_len l (b : Int)
    obtain ⟨M, hM⟩ : ∃ M, M = K + K1 + 3000000 + bad.length + 1 := ⟨_, rfl⟩
    refine ⟨M, fun k hk => ?_⟩
    obtain ⟨k, rfl⟩ : ∃ m, k = m + 1 := ⟨k - 1, by omega⟩
    have h1' := h1 k (by omega)
    simp only at h1'
    simp only [spec_Suspects.l1]
    rw [if_pos (by omega), h1', Option.bind_some]
    refine susp_l2 l bad _ o (b : Int) (by omega) hlen hbad (by omega) (K + K1) _ bad.length 0 true (by omega) (fun k hk => ?_) k (by omega)
    rw [List.drop_zero, Bool.true_and, same_set _ _ (breadsV_sa l b)]
    have h' := h k (by omega)
    simp only at h'
    simp only [sFrom]
    by_cases e : breadsV l (b : Int) = setL bad
    · rw [if_pos e] at h' ⊢
      rw [if_pos (decide_eq_true e)]
      simpa using h'
    · rw [if_neg e] at h' ⊢
      rw [if_neg (by simp [e])]
      simpa using h'
theorem susp_s0 (l : List Us) (bad : List Int) (hb : l.length ≤ 9223372036854775800) (hbad : bad.length ≤ 1000000) (K : Nat) (h : ∀ k, K ≤ k → spec_Suspects.l1 k l bad [] 1 = some (sFrom l (setL bad) 50 1)) :
    ∀ (d n k : Nat), n + d = bad.length → K + d + 1 ≤ k → spec_Suspects.l0 k l bad [] (n : Int) = some (if (bad.drop n).all (inB 1 50) = true then sFrom l (setL bad) 50 1 else []) := by
  intro d
  induction d with
  | zero =>
    intro n k hn hk
    obtain ⟨k, rfl⟩ : ∃ m, k = m + 1 := ⟨k - 1, by omega⟩
    simp only [spec_Suspects.l0]
    rw [if_neg (by omega), List.drop_of_length_le (by omega), h k (by omega)]
    simp
  | succ d ih =>
    intro n k hn hk
    obtain ⟨k, rfl⟩ : ∃ m, k = m + 1 := ⟨k - 1, by omega⟩
    have hn' : n < bad.length := by omega
    simp only [spec_Suspects.l0, rd_get bad n hn', spec_in, Option.bind_some]
    rw [if_pos (by omega), if_pos (by omega), wn n (by omega), List.drop_eq_getElem_cons hn', List.all_cons]
    cases inB 1 50 bad[n] with
    | true => rw [if_pos rfl, ih (n + 1) k (by omega) (by omega), Bool.true_and]
    | false => simp
theorem susp_s (l : List Us) (bad : List Int) (hb : l.length ≤ 9223372036854775800) : Ev (fun k => spec_Suspects.f k l bad) (suspV l bad) := by
  unfold suspV suspB
  cases hv : usesV l with
  | false =>
    refine ⟨l.length + 2, fun k hk => ?_⟩
    have := spec_uses l k hb (by omega)
    obtain ⟨k, rfl⟩ : ∃ m, k = m + 1 := ⟨k - 1, by omega⟩
    simp [spec_Suspects.f, this, hv, spec_Suspects.j0]
  | true =>
    cases hi : inB 1 50 (bad.length : Int) with
    | false =>
      refine ⟨l.length + 2, fun k hk => ?_⟩
      have := spec_uses l k hb (by omega)
      obtain ⟨k, rfl⟩ : ∃ m, k = m + 1 := ⟨k - 1, by omega⟩
      simp [spec_Suspects.f, this, hv, spec_Suspects.j0, spec_in, hi]
    | true =>
      have hi' := (inB_iff _ _ _).1 hi
      obtain ⟨K, h⟩ := susp_sl l bad hb (by omega) 50 1 [] rfl (by omega) (by simp)
      refine ⟨K + l.length + bad.length + 10, fun k hk => ?_⟩
      have := spec_uses l k hb (by omega)
      obtain ⟨k, rfl⟩ : ∃ m, k = m + 1 := ⟨k - 1, by omega⟩
      have h0 := susp_s0 l bad hb (by omega) K (fun k hk => by simpa using h k hk) bad.length 0 k (by omega) (by omega)
      rw [List.drop_zero] at h0
      simp only [spec_Suspects.f, this, hv, spec_Suspects.j0, spec_in, hi, Option.bind_some, if_true, Bool.not_true]
      rw [if_neg (by simp)]
      simpa using h0
theorem suspV_len (l : List Us) (bad : List Int) : (suspV l bad).length ≤ 50 := by
  unfold suspV
  split
  · exact sFrom_len _ _ 50 1
  · simp
end Go.Proofs.Ythdgbngnddkkiaa.Pure
