/- The breads of a lot (UNTESTED: begun at the end of session 1). -/
import Derived.Test.YthdgbngnddkkiaaPureH1
import Derived.Test.YthdgbngnddkkiaaSets
namespace Go.Proofs.Ythdgbngnddkkiaa.Pure
set_option linter.unusedVariables false
set_option linter.unusedSimpArgs false
open Go.RowKit Go.Proofs.Ythdgbngnddkkiaa.PHX Go.Proofs.Ythdgbngnddkkiaa.Base Go.Proofs.YthdgbngnddkkiaaW.PrintWords Go.Proofs.YthdgbngnddkkiaaW.PrintLast

def fndB (l : List Us) (lot b : Int) : Bool := l.any fun u => decide (u.f0 = lot) && decide (u.f1 = b)
theorem fndB_cons (x : Us) (xs : List Us) (lot b : Int) : fndB (x :: xs) lot b = ((decide (x.f0 = lot) && decide (x.f1 = b)) || fndB xs lot b) := rfl
/-- The reference's inner loop: was bread b found from place n on. -/
theorem breads_l1 (l : List Us) (lot b : Int) (o : List Int) (hb : l.length ≤ 9223372036854775800) (ho : o.length ≤ 1000) (hb9 : 1 ≤ b ∧ b ≤ 50) (K : Nat) (R : List Int) :
    ∀ (d n : Nat) (f : Bool), n + d = l.length → spec_BreadsOf.l0 K l lot (if (f || fndB (l.drop n) lot b) = true then o ++ [b] else o) (b + 1) = some R →
      spec_BreadsOf.l1 (K + d + 1) l lot o b f (n : Int) = some R := by
  intro d
  induction d with
  | zero =>
    intro n f hn h
    rw [List.drop_of_length_le (by omega)] at h
    simp only [Nat.add_zero, spec_BreadsOf.l1]
    rw [if_neg (by omega), w64 (by omega) (by omega)]
    cases f with
    | true => rw [if_pos rfl, if_pos (by omega)]; simpa [fndB] using h
    | false => rw [if_neg (by simp)]; simpa [fndB] using h
  | succ d ih =>
    intro n f hn h
    have hn' : n < l.length := by omega
    obtain ⟨M, hM⟩ : ∃ M, M = K + d + 1 := ⟨_, rfl⟩
    rw [show K + (d + 1) + 1 = M + 1 by omega]
    rw [List.drop_eq_getElem_cons hn', fndB_cons] at h
    simp only [spec_BreadsOf.l1, rdIUse l n hn']
    rw [if_pos (by omega), wn n (by omega)]
    subst hM
    cases f with
    | true =>
      rw [if_pos rfl]
      exact ih (n + 1) true (by omega) (by simpa using h)
    | false =>
      rw [if_neg (by simp), if_pos (by omega)]
      by_cases e : l[n].f0 = lot
      · rw [if_pos e]
        refine ih (n + 1) _ (by omega) ?_
        rw [decide_eq_true e, Bool.true_and, Bool.false_or] at h
        exact h
      · rw [if_neg e]
        refine ih (n + 1) false (by omega) ?_
        rw [decide_eq_false e, Bool.false_and, Bool.false_or] at h
        exact h
/-- The breads found from b on. -/
def bFrom (l : List Us) (lot : Int) : Nat → Nat → List Int
  | 0, _ => []
  | d + 1, b => if fndB l lot b = true then (b : Int) :: bFrom l lot d (b + 1) else bFrom l lot d (b + 1)
theorem bFrom_len (l : List Us) (lot : Int) : ∀ (d b : Nat), (bFrom l lot d b).length ≤ d
  | 0, _ => by simp [bFrom]
  | d + 1, b => by
    have := bFrom_len l lot d (b + 1)
    simp only [bFrom]
    split
    · simp; omega
    · omega
theorem bFrom_mem (l : List Us) (lot : Int) : ∀ (d b : Nat) (x : Int), x ∈ bFrom l lot d b ↔ ((b : Int) ≤ x ∧ x < ((b + d : Nat) : Int) ∧ fndB l lot x = true)
  | 0, b, x => by
    simp only [bFrom, List.not_mem_nil, false_iff]
    rintro ⟨h1, h2, _⟩
    omega
  | d + 1, b, x => by
    have ih := bFrom_mem l lot d (b + 1) x
    simp only [bFrom]
    split
    · rename_i hf
      rw [List.mem_cons, ih]
      constructor
      · rintro (h | ⟨h1, h2, h3⟩)
        · subst h; exact ⟨by omega, by omega, hf⟩
        · exact ⟨by omega, by omega, h3⟩
      · rintro ⟨h1, h2, h3⟩
        by_cases e : x = (b : Int)
        · exact Or.inl e
        · exact Or.inr ⟨by omega, by omega, h3⟩
    · rename_i hf
      rw [ih]
      constructor
      · rintro ⟨h1, h2, h3⟩
        exact ⟨by omega, by omega, h3⟩
      · rintro ⟨h1, h2, h3⟩
        by_cases e : x = (b : Int)
        · subst e; exact absurd h3 hf
        · exact ⟨by omega, by omega, h3⟩
theorem bFrom_sa (l : List Us) (lot : Int) : ∀ (d b : Nat), SA (bFrom l lot d b)
  | 0, b => List.Pairwise.nil
  | d + 1, b => by
    simp only [bFrom]
    split
    · refine List.pairwise_cons.2 ⟨fun x hx => ?_, bFrom_sa l lot d (b + 1)⟩
      have := ((bFrom_mem l lot d (b + 1) x).1 hx).1
      omega
    · exact bFrom_sa l lot d (b + 1)
theorem breads_spec (l : List Us) (lot : Int) (hb : l.length ≤ 9223372036854775800) (hv : usesV l = true) : ∀ (d b : Nat) (o : List Int), b + d = 51 → 1 ≤ b → o.length + d ≤ 1000 → ∃ K, spec_BreadsOf.l0 K l lot o (b : Int) = some (o ++ bFrom l lot d b) := by
  intro d
  induction d with
  | zero =>
    intro b o hbd h1 ho
    refine ⟨2, ?_⟩
    simp only [spec_BreadsOf.l0]
    rw [if_neg (by omega)]
    simp [spec_BreadsOf.j1, bFrom]
  | succ d ih =>
    intro b o hbd h1 ho
    obtain ⟨K, h⟩ := ih (b + 1) (if fndB l lot b = true then o ++ [(b : Int)] else o) (by omega) (by omega) (by split <;> (try simp only [List.length_append, List.length_singleton]) <;> omega)
    have q := breads_l1 l lot (b : Int) o hb (by omega) (by omega) (K + l.length + 1) (o ++ bFrom l lot (d + 1) b) l.length 0 false (by omega) (by
      rw [List.drop_zero, Bool.false_or]
      have h2 := up_to (g := fun k => spec_BreadsOf.l0 k l lot (if fndB l lot b = true then o ++ [(b : Int)] else o) ((b + 1 : Nat) : Int)) (fun k => (spec_BreadsOf.mono_l k).1 _ _ _ _) h (show K ≤ K + l.length + 1 by omega)
      refine h2.trans ?_
      simp only [bFrom]
      split <;> simp)
    refine ⟨(K + l.length + 1 + l.length + 1) + 1 + 1, ?_⟩
    simp only [spec_BreadsOf.l0]
    rw [if_pos (by omega), spec_uses l _ hb (by omega), Option.bind_some, hv]
    simp only [spec_BreadsOf.j1]
    rw [if_pos trivial]
    exact q
def brs (l : List Us) (lot : Int) : List Int := (l.filter fun u => decide (u.f0 = lot)).map fun u => u.f1
theorem brs_cons (x : Us) (xs : List Us) (lot : Int) : brs (x :: xs) lot = if x.f0 = lot then x.f1 :: brs xs lot else brs xs lot := by
  by_cases e : x.f0 = lot <;> simp [brs, e]
theorem breads_impl (l : List Us) (lot : Int) (hl : l.length ≤ 60) : ∀ (d k n : Nat) (xs : List Int), n + d = l.length → d < k → xs.length ≤ n → impl_BreadsOf.l0 k lot xs l (l.length : Int) (n : Int) = impl_set.f (xs ++ brs (l.drop n) lot) := by
  intro d
  induction d with
  | zero =>
    intro k n xs hn hk hx
    obtain ⟨k, rfl⟩ : ∃ m, k = m + 1 := ⟨k - 1, by omega⟩
    simp only [impl_BreadsOf.l0]
    rw [if_neg (by omega), List.drop_of_length_le (by omega)]
    simp [brs]
  | succ d ih =>
    intro k n xs hn hk hx
    obtain ⟨k, rfl⟩ : ∃ m, k = m + 1 := ⟨k - 1, by omega⟩
    have hn' : n < l.length := by omega
    simp only [impl_BreadsOf.l0, rdIUse l n hn']
    rw [if_pos (by omega), if_pos (by omega), if_pos (by omega), wn n (by omega), List.drop_eq_getElem_cons hn', brs_cons]
    by_cases e : l[n].f0 = lot
    · rw [if_pos e, if_pos e, if_pos (by omega), ih k (n + 1) _ (by omega) (by omega) (by simp; omega), List.append_assoc]
      rfl
    · rw [if_neg e, if_neg e, ih k (n + 1) _ (by omega) (by omega) (by omega)]
theorem brs_len (l : List Us) (lot : Int) : (brs l lot).length ≤ l.length := by
  unfold brs
  rw [List.length_map]
  exact List.length_filter_le _ _
theorem breads_eq (l : List Us) (lot : Int) (hv : usesV l = true) : bFrom l lot 50 1 = Go.Lib.compact ((brs l lot).mergeSort fun x y => decide (x ≤ y)) := by
  obtain ⟨h1, h2⟩ := set_plain (brs l lot)
  refine sa_ext _ _ (bFrom_sa l lot 50 1) h1 (fun x => ?_)
  rw [h2, bFrom_mem]
  have hu := ((usesV_iff l).1 hv).2
  simp only [brs, fndB, List.any_eq_true, Bool.and_eq_true, decide_eq_true_eq, List.mem_map, List.mem_filter]
  constructor
  · rintro ⟨_, _, u, hm, e1, e2⟩
    exact ⟨u, ⟨hm, e1⟩, e2⟩
  · rintro ⟨u, ⟨hm, e1⟩, e2⟩
    have := hu u hm
    exact ⟨by omega, by omega, u, hm, e1, e2⟩
/-- The breads of a lot, as both say them. -/
def breadsV (l : List Us) (lot : Int) : List Int := if usesV l = true then bFrom l lot 50 1 else []
theorem breads_both (l : List Us) (lot : Int) (hb : l.length ≤ 9223372036854775800) : ∃ K, ∀ k, K ≤ k → spec_BreadsOf.f k l lot = some (breadsV l lot) ∧ impl_BreadsOf.f k l lot = some (breadsV l lot) := by
  unfold breadsV
  cases hv : usesV l with
  | false =>
    refine ⟨l.length + 3, fun k hk => ?_⟩
    obtain ⟨k, rfl⟩ : ∃ m, k = m + 1 + 1 := ⟨k - 2, by omega⟩
    unfold spec_BreadsOf.f impl_BreadsOf.f
    simp only [spec_BreadsOf.l0, impl_uses, hv, Option.bind_some]
    rw [if_pos (by omega), spec_uses l _ hb (by omega), Option.bind_some, hv]
    simp [spec_BreadsOf.j1]
  | true =>
    obtain ⟨K, h⟩ := breads_spec l lot hb hv 50 1 [] rfl (Nat.le_refl _) (by simp)
    have h60 := ((usesV_iff l).1 hv).1
    refine ⟨K + l.length + 1, fun k hk => ⟨?_, ?_⟩⟩
    · rw [if_pos rfl]
      have h2 := up_to (g := fun k => spec_BreadsOf.l0 k l lot [] ((1 : Nat) : Int)) (fun k => (spec_BreadsOf.mono_l k).1 _ _ _ _) h (show K ≤ k by omega)
      rw [List.nil_append] at h2
      exact h2
    · unfold impl_BreadsOf.f
      rw [impl_uses, Option.bind_some, hv, if_pos rfl, if_pos rfl]
      have h3 := breads_impl l lot h60 l.length k 0 [] (by omega) (by omega) (Nat.le_refl _)
      rw [List.drop_zero, List.nil_append] at h3
      refine h3.trans ?_
      unfold impl_set.f
      have := brs_len l lot
      rw [if_pos (by omega), breads_eq l lot hv]
theorem breadsV_len (l : List Us) (lot : Int) : (breadsV l lot).length ≤ 50 := by
  unfold breadsV
  split
  · exact bFrom_len l lot 50 1
  · simp
theorem markUse_l : ∀ (d k n : Nat) (x : List Us) (m : Int), n + d = x.length → d < k → x.length ≤ 1048576 → 0 ≤ m → m + 3 * (d : Int) ≤ 4611686018427387904 → ∃ y, laws_markUseS.l0 k x m (n : Int) = some (m + 3 * (d : Int), y) := by
  intro d
  induction d with
  | zero =>
    intro k n x m hn hk hx h0 h1
    obtain ⟨k, rfl⟩ : ∃ m, k = m + 1 := ⟨k - 1, by omega⟩
    simp only [laws_markUseS.l0]
    rw [if_neg (by omega)]
    exact ⟨x, by simp⟩
  | succ d ih =>
    intro k n x m hn hk hx h0 h1
    obtain ⟨k, rfl⟩ : ∃ m, k = m + 1 := ⟨k - 1, by omega⟩
    simp only [laws_markUseS.l0, Option.bind_some]
    rw [if_pos (by omega), if_pos (by omega), wn n (by omega), w64 (x := m + 1) (by omega) (by omega), w64 (x := m + 1 + 1) (by omega) (by omega), w64 (x := m + 1 + 1 + 1) (by omega) (by omega)]
    have hX : ∀ X : List Us, X.length = x.length → ∃ y, laws_markUseS.l0 k X (m + 1 + 1 + 1) ((n + 1 : Nat) : Int) = some (m + 3 * ((d + 1 : Nat) : Int), y) := fun X hXl => by
      obtain ⟨y, h⟩ := ih k (n + 1) X (m + 1 + 1 + 1) (by omega) (by omega) (by omega) (by omega) (by omega)
      refine ⟨y, h.trans ?_⟩
      congr 2
      omega
    exact hX _ (by simp)
theorem markUse (x : List Us) (k : Nat) (hx : x.length ≤ 1048576) (hk : x.length < k) : ∃ y, laws_markUseS.f k x 1 = some (1 + 3 * (x.length : Int), y) :=
  markUse_l x.length k 0 x 1 (by omega) hk hx (by omega) (by omega)
end Go.Proofs.Ythdgbngnddkkiaa.Pure
