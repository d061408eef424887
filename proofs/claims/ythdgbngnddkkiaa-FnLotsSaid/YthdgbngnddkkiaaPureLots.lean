/- The lots of a bread. -/
import Derived.Test.YthdgbngnddkkiaaPureBreads
namespace Go.Proofs.Ythdgbngnddkkiaa.Pure
set_option linter.unusedVariables false
set_option linter.unusedSimpArgs false
open Go.RowKit Go.Proofs.Ythdgbngnddkkiaa.PHX Go.Proofs.Ythdgbngnddkkiaa.Base Go.Proofs.YthdgbngnddkkiaaW.PrintWords Go.Proofs.YthdgbngnddkkiaaW.PrintLast

def fndL (l : List Us) (lot b : Int) : Bool := l.any fun u => decide (u.f0 = b) && decide (u.f1 = lot)
theorem fndL_cons (x : Us) (xs : List Us) (lot b : Int) : fndL (x :: xs) lot b = ((decide (x.f0 = b) && decide (x.f1 = lot)) || fndL xs lot b) := rfl
/-- The reference's inner loop: was lot b found from place n on. -/
theorem lots_l1 (l : List Us) (lot b : Int) (o : List Int) (hb : l.length ≤ 9223372036854775800) (ho : o.length ≤ 1000) (hb9 : 1 ≤ b ∧ b ≤ 50) (K : Nat) (R : List Int) :
    ∀ (d n : Nat) (f : Bool), n + d = l.length → spec_LotsOf.l0 K l lot (if (f || fndL (l.drop n) lot b) = true then o ++ [b] else o) (b + 1) = some R →
      spec_LotsOf.l1 (K + d + 1) l lot o b f (n : Int) = some R := by
  intro d
  induction d with
  | zero =>
    intro n f hn h
    rw [List.drop_of_length_le (by omega)] at h
    simp only [Nat.add_zero, spec_LotsOf.l1]
    rw [if_neg (by omega), w64 (by omega) (by omega)]
    cases f with
    | true => rw [if_pos rfl, if_pos (by omega)]; simpa [fndL] using h
    | false => rw [if_neg (by simp)]; simpa [fndL] using h
  | succ d ih =>
    intro n f hn h
    have hn' : n < l.length := by omega
    obtain ⟨M, hM⟩ : ∃ M, M = K + d + 1 := ⟨_, rfl⟩
    rw [show K + (d + 1) + 1 = M + 1 by omega]
    rw [List.drop_eq_getElem_cons hn', fndL_cons] at h
    simp only [spec_LotsOf.l1, rdIUse l n hn']
    rw [if_pos (by omega), wn n (by omega)]
    subst hM
    cases f with
    | true =>
      rw [if_pos rfl]
      exact ih (n + 1) true (by omega) (by simpa using h)
    | false =>
      rw [if_neg (by simp), if_pos (by omega)]
      by_cases e : l[n].f0 = b
      · rw [if_pos e]
        refine ih (n + 1) _ (by omega) ?_
        rw [decide_eq_true e, Bool.true_and, Bool.false_or] at h
        exact h
      · rw [if_neg e]
        refine ih (n + 1) false (by omega) ?_
        rw [decide_eq_false e, Bool.false_and, Bool.false_or] at h
        exact h
/-- The lots found from b on. -/
def lFrom (l : List Us) (lot : Int) : Nat → Nat → List Int
  | 0, _ => []
  | d + 1, b => if fndL l lot b = true then (b : Int) :: lFrom l lot d (b + 1) else lFrom l lot d (b + 1)
theorem lFrom_len (l : List Us) (lot : Int) : ∀ (d b : Nat), (lFrom l lot d b).length ≤ d
  | 0, _ => by simp [lFrom]
  | d + 1, b => by
    have := lFrom_len l lot d (b + 1)
    simp only [lFrom]
    split
    · simp; omega
    · omega
theorem lFrom_mem (l : List Us) (lot : Int) : ∀ (d b : Nat) (x : Int), x ∈ lFrom l lot d b ↔ ((b : Int) ≤ x ∧ x < ((b + d : Nat) : Int) ∧ fndL l lot x = true)
  | 0, b, x => by
    simp only [lFrom, List.not_mem_nil, false_iff]
    rintro ⟨h1, h2, _⟩
    omega
  | d + 1, b, x => by
    have ih := lFrom_mem l lot d (b + 1) x
    simp only [lFrom]
    split
    · rename_i hf
      rw [List.mem_cons, ih]
      constructor
      · rintro (h | ⟨h1, h2, h3⟩)
        · subst h; exact ⟨by omega, by omega, hf⟩
        · exact ⟨by omega, by omega, h3⟩
      · rintro ⟨h1, h2, h3⟩
        by_cases e : x = (b : Int)
        · exact Or.inl e
        · exact Or.inr ⟨by omega, by omega, h3⟩
    · rename_i hf
      rw [ih]
      constructor
      · rintro ⟨h1, h2, h3⟩
        exact ⟨by omega, by omega, h3⟩
      · rintro ⟨h1, h2, h3⟩
        by_cases e : x = (b : Int)
        · subst e; exact absurd h3 hf
        · exact ⟨by omega, by omega, h3⟩
theorem lFrom_sa (l : List Us) (lot : Int) : ∀ (d b : Nat), SA (lFrom l lot d b)
  | 0, b => List.Pairwise.nil
  | d + 1, b => by
    simp only [lFrom]
    split
    · refine List.pairwise_cons.2 ⟨fun x hx => ?_, lFrom_sa l lot d (b + 1)⟩
      have := ((lFrom_mem l lot d (b + 1) x).1 hx).1
      omega
    · exact lFrom_sa l lot d (b + 1)
theorem lots_spec (l : List Us) (lot : Int) (hb : l.length ≤ 9223372036854775800) (hv : usesV l = true) : ∀ (d b : Nat) (o : List Int), b + d = 51 → 1 ≤ b → o.length + d ≤ 1000 → ∃ K, spec_LotsOf.l0 K l lot o (b : Int) = some (o ++ lFrom l lot d b) := by
  intro d
  induction d with
  | zero =>
    intro b o hbd h1 ho
    refine ⟨2, ?_⟩
    simp only [spec_LotsOf.l0]
    rw [if_neg (by omega)]
    simp [spec_LotsOf.j1, lFrom]
  | succ d ih =>
    intro b o hbd h1 ho
    obtain ⟨K, h⟩ := ih (b + 1) (if fndL l lot b = true then o ++ [(b : Int)] else o) (by omega) (by omega) (by split <;> (try simp only [List.length_append, List.length_singleton]) <;> omega)
    have q := lots_l1 l lot (b : Int) o hb (by omega) (by omega) (K + l.length + 1) (o ++ lFrom l lot (d + 1) b) l.length 0 false (by omega) (by
      rw [List.drop_zero, Bool.false_or]
      have h2 := up_to (g := fun k => spec_LotsOf.l0 k l lot (if fndL l lot b = true then o ++ [(b : Int)] else o) ((b + 1 : Nat) : Int)) (fun k => (spec_LotsOf.mono_l k).1 _ _ _ _) h (show K ≤ K + l.length + 1 by omega)
      refine h2.trans ?_
      simp only [lFrom]
      split <;> simp)
    refine ⟨(K + l.length + 1 + l.length + 1) + 1 + 1, ?_⟩
    simp only [spec_LotsOf.l0]
    rw [if_pos (by omega), spec_uses l _ hb (by omega), Option.bind_some, hv]
    simp only [spec_LotsOf.j1]
    rw [if_pos trivial]
    exact q
def lrs (l : List Us) (lot : Int) : List Int := (l.filter fun u => decide (u.f1 = lot)).map fun u => u.f0
theorem lrs_cons (x : Us) (xs : List Us) (lot : Int) : lrs (x :: xs) lot = if x.f1 = lot then x.f0 :: lrs xs lot else lrs xs lot := by
  by_cases e : x.f1 = lot <;> simp [lrs, e]
theorem lots_impl (l : List Us) (lot : Int) (hl : l.length ≤ 60) : ∀ (d k n : Nat) (xs : List Int), n + d = l.length → d < k → xs.length ≤ n → impl_LotsOf.l0 k lot xs l (l.length : Int) (n : Int) = impl_set.f (xs ++ lrs (l.drop n) lot) := by
  intro d
  induction d with
  | zero =>
    intro k n xs hn hk hx
    obtain ⟨k, rfl⟩ : ∃ m, k = m + 1 := ⟨k - 1, by omega⟩
    simp only [impl_LotsOf.l0]
    rw [if_neg (by omega), List.drop_of_length_le (by omega)]
    simp [lrs]
  | succ d ih =>
    intro k n xs hn hk hx
    obtain ⟨k, rfl⟩ : ∃ m, k = m + 1 := ⟨k - 1, by omega⟩
    have hn' : n < l.length := by omega
    simp only [impl_LotsOf.l0, rdIUse l n hn']
    rw [if_pos (by omega), if_pos (by omega), if_pos (by omega), wn n (by omega), List.drop_eq_getElem_cons hn', lrs_cons]
    by_cases e : l[n].f1 = lot
    · rw [if_pos e, if_pos e, if_pos (by omega), ih k (n + 1) _ (by omega) (by omega) (by simp; omega), List.append_assoc]
      rfl
    · rw [if_neg e, if_neg e, ih k (n + 1) _ (by omega) (by omega) (by omega)]
theorem lrs_len (l : List Us) (lot : Int) : (lrs l lot).length ≤ l.length := by
  unfold lrs
  rw [List.length_map]
  exact List.length_filter_le _ _
theorem lots_eq (l : List Us) (lot : Int) (hv : usesV l = true) : lFrom l lot 50 1 = Go.Lib.compact ((lrs l lot).mergeSort fun x y => decide (x ≤ y)) := by
  obtain ⟨h1, h2⟩ := set_plain (lrs l lot)
  refine sa_ext _ _ (lFrom_sa l lot 50 1) h1 (fun x => ?_)
  rw [h2, lFrom_mem]
  have hu := ((usesV_iff l).1 hv).2
  simp only [lrs, fndL, List.any_eq_true, Bool.and_eq_true, decide_eq_true_eq, List.mem_map, List.mem_filter]
  constructor
  · rintro ⟨_, _, u, hm, e1, e2⟩
    exact ⟨u, ⟨hm, e2⟩, e1⟩
  · rintro ⟨u, ⟨hm, e1⟩, e2⟩
    have := hu u hm
    exact ⟨by omega, by omega, u, hm, e2, e1⟩
/-- The lots of a bread, as both say them. -/
def lotsV (l : List Us) (lot : Int) : List Int := if usesV l = true then lFrom l lot 50 1 else []
theorem lots_both (l : List Us) (lot : Int) (hb : l.length ≤ 9223372036854775800) : ∃ K, ∀ k, K ≤ k → spec_LotsOf.f k l lot = some (lotsV l lot) ∧ impl_LotsOf.f k l lot = some (lotsV l lot) := by
  unfold lotsV
  cases hv : usesV l with
  | false =>
    refine ⟨l.length + 3, fun k hk => ?_⟩
    obtain ⟨k, rfl⟩ : ∃ m, k = m + 1 + 1 := ⟨k - 2, by omega⟩
    unfold spec_LotsOf.f impl_LotsOf.f
    simp only [spec_LotsOf.l0, impl_uses, hv, Option.bind_some]
    rw [if_pos (by omega), spec_uses l _ hb (by omega), Option.bind_some, hv]
    simp [spec_LotsOf.j1]
  | true =>
    obtain ⟨K, h⟩ := lots_spec l lot hb hv 50 1 [] rfl (Nat.le_refl _) (by simp)
    have h60 := ((usesV_iff l).1 hv).1
    refine ⟨K + l.length + 1, fun k hk => ⟨?_, ?_⟩⟩
    · rw [if_pos rfl]
      have h2 := up_to (g := fun k => spec_LotsOf.l0 k l lot [] ((1 : Nat) : Int)) (fun k => (spec_LotsOf.mono_l k).1 _ _ _ _) h (show K ≤ k by omega)
      rw [List.nil_append] at h2
      exact h2
    · unfold impl_LotsOf.f
      rw [impl_uses, Option.bind_some, hv, if_pos rfl, if_pos rfl]
      have h3 := lots_impl l lot h60 l.length k 0 [] (by omega) (by omega) (Nat.le_refl _)
      rw [List.drop_zero, List.nil_append] at h3
      refine h3.trans ?_
      unfold impl_set.f
      have := lrs_len l lot
      rw [if_pos (by omega), lots_eq l lot hv]
theorem lotsV_len (l : List Us) (lot : Int) : (lotsV l lot).length ≤ 50 := by
  unfold lotsV
  split
  · exact lFrom_len l lot 50 1
  · simp
end Go.Proofs.Ythdgbngnddkkiaa.Pure
