/- Uses: what the program computes is what the reference computes. -/
import Derived.Test.YthdgbngnddkkiaaUse
namespace Go.Proofs.Ythdgbngnddkkiaa.Pure
set_option linter.unusedVariables false
set_option linter.unusedSimpArgs false
open Go.RowKit Go.Proofs.Ythdgbngnddkkiaa.PHX Go.Proofs.Ythdgbngnddkkiaa.Base Go.Proofs.YthdgbngnddkkiaaW.PrintWords Go.Proofs.YthdgbngnddkkiaaW.PrintLast

abbrev Us := S39
theorem useB_iff (u : Us) : useB u = true ↔ (1 ≤ u.f0 ∧ u.f0 ≤ 50) ∧ (1 ≤ u.f1 ∧ u.f1 ≤ 50) ∧ (1 ≤ u.f2 ∧ u.f2 ≤ 100000) := by simp [useB, inB_iff]
def usesV (l : List Us) : Bool := decide (l.length ≤ 60) && l.all useB
theorem spec_uses_l (l : List Us) (hb : l.length ≤ 9223372036854775800) : ∀ (d : Nat) (k n : Nat), n + d = l.length → d < k → spec_UsesOk.l0 k l (n : Int) = some (decide (l.length ≤ 60) && (l.drop n).all useB) := by
  intro d
  induction d with
  | zero =>
    intro k n hn hk
    obtain ⟨k, rfl⟩ : ∃ m, k = m + 1 := ⟨k - 1, by omega⟩
    simp only [spec_UsesOk.l0]
    rw [if_neg (by omega), List.drop_of_length_le (by omega)]
    simp
    omega
  | succ d ih =>
    intro k n hn hk
    obtain ⟨k, rfl⟩ : ∃ m, k = m + 1 := ⟨k - 1, by omega⟩
    have hn' : n < l.length := by omega
    simp only [spec_UsesOk.l0, rdIUse l n hn', spec_in, Option.bind_some]
    rw [if_pos (by omega), if_pos (by omega), wn n (by omega), ih k (n + 1) (by omega) (by omega), List.drop_eq_getElem_cons hn', List.all_cons]
    generalize (l.drop (n + 1)).all useB = q
    simp only [useB]
    cases inB 1 50 l[n].f0 <;> cases inB 1 50 l[n].f1 <;> cases inB 1 100000 l[n].f2 <;> simp
theorem spec_uses (l : List Us) (k : Nat) (hb : l.length ≤ 9223372036854775800) (hk : l.length < k) : spec_UsesOk.f k l = some (usesV l) := by
  have := spec_uses_l l hb l.length k 0 (by omega) hk
  simpa [usesV, spec_UsesOk.f] using this
theorem impl_uses (l : List Us) : impl_UsesOk.f l = some (usesV l) := rfl
theorem usesV_iff (l : List Us) : usesV l = true ↔ l.length ≤ 60 ∧ ∀ u ∈ l, (1 ≤ u.f0 ∧ u.f0 ≤ 50) ∧ (1 ≤ u.f1 ∧ u.f1 ≤ 50) ∧ (1 ≤ u.f2 ∧ u.f2 ≤ 100000) := by
  simp only [usesV, Bool.and_eq_true, decide_eq_true_eq, List.all_eq_true, useB_iff]

def usedSum (lot : Int) : List Us → Int
  | [] => 0
  | u :: us => (if u.f0 = lot then u.f2 else 0) + usedSum lot us
theorem usedSum_bd (lot : Int) : ∀ (l : List Us), (∀ u ∈ l, 1 ≤ u.f2 ∧ u.f2 ≤ 100000) → 0 ≤ usedSum lot l ∧ usedSum lot l ≤ 100000 * (l.length : Int)
  | [], _ => by simp [usedSum]
  | u :: us, h => by
    have h1 := h u (by simp)
    have h2 := usedSum_bd lot us (fun v hv => h v (by simp [hv]))
    simp only [usedSum, List.length_cons]
    split <;> omega
theorem used_l (l : List Us) (lot : Int) (hl : l.length ≤ 60) (hu : ∀ u ∈ l, 1 ≤ u.f2 ∧ u.f2 ≤ 100000) : ∀ (d : Nat) (k n : Nat) (s : Int), n + d = l.length → d < k → 0 ≤ s → s ≤ 100000 * (n : Int) →
    spec_UsedOf.l0 k l lot s (n : Int) = some (s + usedSum lot (l.drop n)) ∧ impl_UsedOf.l0 k lot s l (l.length : Int) (n : Int) = some (s + usedSum lot (l.drop n)) := by
  intro d
  induction d with
  | zero =>
    intro k n s hn hk h0 h1
    obtain ⟨k, rfl⟩ : ∃ m, k = m + 1 := ⟨k - 1, by omega⟩
    simp only [spec_UsedOf.l0, impl_UsedOf.l0]
    rw [if_neg (by omega), if_neg (by omega), List.drop_of_length_le (by omega)]
    simp [usedSum]
  | succ d ih =>
    intro k n s hn hk h0 h1
    obtain ⟨k, rfl⟩ : ∃ m, k = m + 1 := ⟨k - 1, by omega⟩
    have hn' : n < l.length := by omega
    have hun := hu _ (List.getElem_mem hn')
    simp only [spec_UsedOf.l0, impl_UsedOf.l0, rdIUse l n hn']
    rw [if_pos (show (n : Int) < (l.length : Int) by omega), if_pos (show (0 : Int) ≤ (n : Int) by omega), if_pos (show (n : Int) < (l.length : Int) by omega), if_pos (show (0 : Int) ≤ (n : Int) by omega), if_pos (show (n : Int) < (l.length : Int) by omega), wn n (by omega), List.drop_eq_getElem_cons hn']
    simp only [usedSum]
    by_cases h : l[n].f0 = lot
    · rw [if_pos h, if_pos h, if_pos h, w64 (show -9223372036854775808 ≤ s + l[n].f2 by omega) (by omega)]
      obtain ⟨g1, g2⟩ := ih k (n + 1) (s + l[n].f2) (by omega) (by omega) (by omega) (by omega)
      rw [g1, g2]
      exact ⟨by congr 1; omega, by congr 1; omega⟩
    · rw [if_neg h, if_neg h, if_neg h]
      obtain ⟨g1, g2⟩ := ih k (n + 1) s (by omega) (by omega) (by omega) (by omega)
      rw [g1, g2]
      exact ⟨by congr 1; omega, by congr 1; omega⟩
def usedV (l : List Us) (lot : Int) : Int := if usesV l then usedSum lot l else -1
theorem used_both (l : List Us) (lot : Int) (k : Nat) (hb : l.length ≤ 9223372036854775800) (hk : l.length < k) : spec_UsedOf.f k l lot = some (usedV l lot) ∧ impl_UsedOf.f k l lot = some (usedV l lot) := by
  simp only [spec_UsedOf.f, impl_UsedOf.f, spec_uses l k hb hk, impl_uses, Option.bind_some, usedV]
  cases h : usesV l with
  | false => simp
  | true =>
    rw [usesV_iff] at h
    obtain ⟨g1, g2⟩ := used_l l lot h.1 (fun u hu => (h.2 u hu).2.2) l.length k 0 0 (by omega) hk (by omega) (by omega)
    simp only [List.drop_zero, Int.zero_add] at g1 g2
    exact ⟨by simpa using g1, by simpa using g2⟩
theorem FnExactUsedOf : laws_FnExactUsedOf.Pure := by
  intro l lot hm hl hw _
  refine ⟨l.length + 2000, ?_⟩
  unfold laws_FnExactUsedOf.f
  rw [szUse_is l hm]
  simp only [Option.bind_some]
  by_cases h : l.length > 1048576
  · rw [if_pos h, if_pos (by omega)]
  · obtain ⟨h1, h2⟩ := used_both (l.map cvUse) lot (l.length + 2000) (by simp; omega) (by simp)
    rw [if_neg h, if_neg (by omega), toUse_is l _ hl (by omega)]
    simp only [Option.bind_some, h1, h2, if_true]
    rw [eqUse_is _ _ (by simp; omega) (by simp)]
    simp
end Go.Proofs.Ythdgbngnddkkiaa.Pure
