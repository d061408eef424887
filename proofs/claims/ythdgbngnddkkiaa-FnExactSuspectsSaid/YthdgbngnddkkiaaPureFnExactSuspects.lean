/- The lots that made just the bad breads: the law. -/
import Derived.Test.YthdgbngnddkkiaaPureSusp
import Derived.Test.YthdgbngnddkkiaaPHXx10
namespace Go.Proofs.Ythdgbngnddkkiaa.Pure
set_option linter.unusedVariables false
set_option linter.unusedSimpArgs false
open Go.RowKit Go.Proofs.Ythdgbngnddkkiaa.PHX Go.Proofs.Ythdgbngnddkkiaa.Base Go.Proofs.YthdgbngnddkkiaaW.PrintWords Go.Proofs.YthdgbngnddkkiaaW.PrintLast

theorem toInts_l (a : List Int) (hb : a.length ≤ 9223372036854775800) : ∀ (d : Nat) (k n : Nat) (x : List Int), n + d = a.length → d < k → x.length = a.length → (∀ j, j < n → x[j]? = a[j]?) → laws_toIntS.l0 k a x (n : Int) = some a := by
  intro d
  induction d with
  | zero =>
    intro k n x hn hk hx hj
    obtain ⟨k, rfl⟩ : ∃ m, k = m + 1 := ⟨k - 1, by omega⟩
    simp only [laws_toIntS.l0]
    rw [if_neg (by omega)]
    congr 1
    apply List.ext_getElem?
    intro j
    by_cases h : j < n
    · exact hj j h
    · rw [List.getElem?_eq_none (by omega), List.getElem?_eq_none (by omega)]
  | succ d ih =>
    intro k n x hn hk hx hj
    obtain ⟨k, rfl⟩ : ∃ m, k = m + 1 := ⟨k - 1, by omega⟩
    simp only [laws_toIntS.l0]
    rw [if_pos (by omega), if_pos (by omega), if_pos (by omega), rd_get a n (by omega), wn n (by omega)]
    refine ih k (n + 1) _ (by omega) (by omega) (by simp [hx]) (fun j hjn => ?_)
    by_cases e : j = n
    · subst e
      simp [hx, show j < a.length by omega]
    · rw [show ((n : Int)).toNat = n by omega, List.getElem?_set_ne (by omega)]
      exact hj j (by omega)
theorem toInts (a : List Int) (k : Nat) (hb : a.length * 8 ≤ 140737488351232) (hk : a.length < k) : laws_toIntS.f k a = some a := by
  unfold laws_toIntS.f
  rw [if_pos (by omega), if_pos (by omega)]
  have := toInts_l a (by omega) a.length k 0 (List.replicate a.length 0) (by omega) hk (by simp) (fun j h => absurd h (by omega))
  simpa using this
theorem FnExactSuspects : laws_FnExactSuspects.Pure := by
  intro l bad hm hl hw hm1 hl1 hw1
  by_cases hb : (bad.length : Int) > 1048576
  · exact ⟨0, by unfold laws_FnExactSuspects.f; rw [if_pos hb]⟩
  by_cases h : l.length > 1048576
  · refine ⟨0, ?_⟩
    unfold laws_FnExactSuspects.f
    rw [if_neg hb, szUse_is l hm]
    simp only [Option.bind_some]
    rw [if_pos h, if_pos (by omega)]
  · obtain ⟨K1, h1⟩ := susp_s (l.map cvUse) bad (by simp; omega)
    obtain ⟨K2, h2⟩ := susp_i (l.map cvUse) bad (by simp; omega)
    simp only at h1 h2
    obtain ⟨k, hk1, hk2, hk3, hk4, hk5⟩ : ∃ k, K1 ≤ k ∧ K2 ≤ k ∧ l.length < k ∧ bad.length < k ∧ 100 < k := ⟨K1 + K2 + l.length + bad.length + 101, by omega, by omega, by omega, by omega, by omega⟩
    have hlen := suspV_len (l.map cvUse) bad
    have m1 := markInts (suspV (l.map cvUse) bad) k 1 (by omega) (by omega) (by omega) (by omega)
    have m2 := heldInts (suspV (l.map cvUse) bad).length k 1 (by omega) (by omega) (by omega) (by omega)
    have m3 := eqInts (suspV (l.map cvUse) bad) (suspV (l.map cvUse) bad) k (by omega) (by omega)
    obtain ⟨y, hy⟩ := markUse (l.map cvUse) (k + 1) (by simp; omega) (by simp; omega)
    have m4 := markInts bad (k + 1) (1 + 3 * ((l.map cvUse).length : Int)) (by omega) (by omega) (by simp; omega) (by omega)
    refine ⟨k + 1, ?_⟩
    unfold laws_FnExactSuspects.f
    rw [if_neg hb, szUse_is l hm]
    simp only [Option.bind_some]
    rw [if_neg h, if_neg (by omega), toUse_is l _ hl (by omega), toInts bad (k + 1) hl1 (by omega)]
    simp only [Option.bind_some, h1 (k + 1) (by omega), h2 (k + 1) (by omega)]
    rw [eqInts _ _ (k + 1) (by omega) (by omega), eqUse_is _ _ (by simp; omega) (by simp; omega), eqInts bad bad (k + 1) (by omega) (by omega), hy]
    simp only [Option.bind_some, decide_true, if_true, Bool.not_true, m4]
    rw [if_neg (by omega)]
    simp only [laws_FnExactSuspects.j0, toUse_is l k hl (by omega), toInts bad k hl1 (by omega), h2 k (by omega), m1, m2, m3, Option.bind_some, decide_true, if_true, Bool.false_eq_true, if_false]
    rw [if_neg (by omega)]
    simp; omega
end Go.Proofs.Ythdgbngnddkkiaa.Pure
