/- A struct of whole numbers: copied, equal, its size. -/
import Derived.Test.YtdlolekpdophcaaBase
import Derived.Test.YtdlolekpdophcaaInts
namespace Go.Proofs.Ytdlolekpdophcaa.Pure
set_option linter.unusedVariables false
set_option linter.unusedSimpArgs false
open Go.RowKit Go.Proofs.Ytdlolekpdophcaa.PEM Go.Proofs.Ytdlolekpdophcaa.Base Go.Proofs.YtdlolekpdophcaaW.PrintWords Go.Proofs.YtdlolekpdophcaaW.PrintLast

/-! ### Shift -/
def cvShift (x : S47) : S39 := ⟨x.f0, x.f1⟩
theorem rdLShift (xs : List S47) (i : Nat) (h : i < xs.length) : rd_T47 xs (i : Int) = xs[i] := by simp [rd_T47, h]
theorem rdIShift (xs : List S39) (i : Nat) (h : i < xs.length) : rd_T39 xs (i : Int) = xs[i] := by simp [rd_T39, h]
theorem toShift_l (a : List S47) (hb : a.length ≤ 9223372036854775800) : ∀ (d : Nat) (k n : Nat) (x : List S39), n + d = a.length → d < k → x.length = a.length → (∀ j, j < n → x[j]? = (a.map cvShift)[j]?) → laws_toShiftS.l0 k a x (n : Int) = some (a.map cvShift) := by
  intro d
  induction d with
  | zero =>
    intro k n x hn hk hx hj
    obtain ⟨k, rfl⟩ : ∃ m, k = m + 1 := ⟨k - 1, by omega⟩
    simp only [laws_toShiftS.l0]
    rw [if_neg (by omega)]
    congr 1
    apply List.ext_getElem?
    intro j
    by_cases h : j < n
    · exact hj j h
    · rw [List.getElem?_eq_none (by omega), List.getElem?_eq_none (by rw [List.length_map]; omega)]
  | succ d ih =>
    intro k n x hn hk hx hj
    obtain ⟨k, rfl⟩ : ∃ m, k = m + 1 := ⟨k - 1, by omega⟩
    simp only [laws_toShiftS.l0, laws_toShift.f, Option.bind_some]
    rw [if_pos (by omega), if_pos (by omega), if_pos (by omega), rdLShift a n (by omega), wn n (by omega)]
    refine ih k (n + 1) _ (by omega) (by omega) (by simp [hx]) (fun j hjn => ?_)
    by_cases e : j = n
    · subst e
      simp [hx, show j < a.length by omega, cvShift]
    · rw [show ((n : Int)).toNat = n by omega, List.getElem?_set_ne (by omega)]
      exact hj j (by omega)
theorem toShift_is (a : List S47) (k : Nat) (hb : a.length * 16 ≤ 140737488351232) (hk : a.length < k) : laws_toShiftS.f k a = some (a.map cvShift) := by
  unfold laws_toShiftS.f
  rw [if_pos (by omega), if_pos (by omega)]
  have := toShift_l a (by omega) a.length k 0 (List.replicate a.length z39) (by omega) hk (by simp) (fun j h => absurd h (by omega))
  simpa using this
theorem eqShift_l (a : List S39) (hb : a.length ≤ 9223372036854775800) : ∀ (d : Nat) (k n : Nat), n + d = a.length → d < k → laws_eqShiftS.l0 k a a (n : Int) = some true := by
  intro d
  induction d with
  | zero =>
    intro k n hn hk
    obtain ⟨k, rfl⟩ : ∃ m, k = m + 1 := ⟨k - 1, by omega⟩
    simp only [laws_eqShiftS.l0]
    rw [if_neg (by omega)]
  | succ d ih =>
    intro k n hn hk
    obtain ⟨k, rfl⟩ : ∃ m, k = m + 1 := ⟨k - 1, by omega⟩
    simp only [laws_eqShiftS.l0, laws_eqShift.f, if_true, Option.bind_some]
    rw [if_pos (by omega), if_pos (by omega), wn n (by omega)]
    simp only [if_pos (show (n : Int) < (a.length : Int) by omega)]
    exact ih k (n + 1) (by omega) (by omega)
theorem eqShift_is (a : List S39) (k : Nat) (hb : a.length ≤ 9223372036854775800) (hk : a.length < k) : laws_eqShiftS.f k a a = some true := by
  unfold laws_eqShiftS.f
  rw [if_pos rfl]
  exact eqShift_l a hb a.length k 0 (by omega) hk
theorem szShift_is (l : List S47) (h : l.length ≤ maxLen) : laws_szShiftS.f l 1048576 = some (if l.length > 1048576 then -1 else 1048576 - (l.length : Int)) := by
  simp only [maxLen] at h
  unfold laws_szShiftS.f
  rw [w64 (show -9223372036854775808 ≤ 1048576 - (l.length : Int) by omega) (by omega)]
  by_cases h1 : l.length > 1048576
  · rw [if_pos (by omega), if_pos h1]
  · rw [if_neg (by omega), if_neg h1]
end Go.Proofs.Ytdlolekpdophcaa.Pure
