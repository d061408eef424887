/- A struct of whole numbers: copied, equal, its size. -/
import Derived.Test.YtciceapcnjoogaaBase
import Derived.Test.YtciceapcnjoogaaInts
namespace Go.Proofs.Ytciceapcnjoogaa.Pure
set_option linter.unusedVariables false
set_option linter.unusedSimpArgs false
open Go.RowKit Go.Proofs.Ytciceapcnjoogaa.PDF Go.Proofs.Ytciceapcnjoogaa.Base Go.Proofs.YtciceapcnjoogaaW.PrintWords Go.Proofs.YtciceapcnjoogaaW.PrintLast

/-! ### Shop -/
def cvShop (x : S59) : S35 := ⟨x.f0, x.f1⟩
theorem rdLShop (xs : List S59) (i : Nat) (h : i < xs.length) : rd_T59 xs (i : Int) = xs[i] := by simp [rd_T59, h]
theorem rdIShop (xs : List S35) (i : Nat) (h : i < xs.length) : rd_T35 xs (i : Int) = xs[i] := by simp [rd_T35, h]
theorem toShop_l (a : List S59) (hb : a.length ≤ 9223372036854775800) : ∀ (d : Nat) (k n : Nat) (x : List S35), n + d = a.length → d < k → x.length = a.length → (∀ j, j < n → x[j]? = (a.map cvShop)[j]?) → laws_toShopS.l0 k a x (n : Int) = some (a.map cvShop) := by
  intro d
  induction d with
  | zero =>
    intro k n x hn hk hx hj
    obtain ⟨k, rfl⟩ : ∃ m, k = m + 1 := ⟨k - 1, by omega⟩
    simp only [laws_toShopS.l0]
    rw [if_neg (by omega)]
    congr 1
    apply List.ext_getElem?
    intro j
    by_cases h : j < n
    · exact hj j h
    · rw [List.getElem?_eq_none (by omega), List.getElem?_eq_none (by rw [List.length_map]; omega)]
  | succ d ih =>
    intro k n x hn hk hx hj
    obtain ⟨k, rfl⟩ : ∃ m, k = m + 1 := ⟨k - 1, by omega⟩
    simp only [laws_toShopS.l0, laws_toShop.f, Option.bind_some]
    rw [if_pos (by omega), if_pos (by omega), if_pos (by omega), rdLShop a n (by omega), wn n (by omega)]
    refine ih k (n + 1) _ (by omega) (by omega) (by simp [hx]) (fun j hjn => ?_)
    by_cases e : j = n
    · subst e
      simp [hx, show j < a.length by omega, cvShop]
    · rw [show ((n : Int)).toNat = n by omega, List.getElem?_set_ne (by omega)]
      exact hj j (by omega)
theorem toShop_is (a : List S59) (k : Nat) (hb : a.length * 16 ≤ 140737488351232) (hk : a.length < k) : laws_toShopS.f k a = some (a.map cvShop) := by
  unfold laws_toShopS.f
  rw [if_pos (by omega), if_pos (by omega)]
  have := toShop_l a (by omega) a.length k 0 (List.replicate a.length z35) (by omega) hk (by simp) (fun j h => absurd h (by omega))
  simpa using this
theorem eqShop_l (a : List S35) (hb : a.length ≤ 9223372036854775800) : ∀ (d : Nat) (k n : Nat), n + d = a.length → d < k → laws_eqShopS.l0 k a a (n : Int) = some true := by
  intro d
  induction d with
  | zero =>
    intro k n hn hk
    obtain ⟨k, rfl⟩ : ∃ m, k = m + 1 := ⟨k - 1, by omega⟩
    simp only [laws_eqShopS.l0]
    rw [if_neg (by omega)]
  | succ d ih =>
    intro k n hn hk
    obtain ⟨k, rfl⟩ : ∃ m, k = m + 1 := ⟨k - 1, by omega⟩
    simp only [laws_eqShopS.l0, laws_eqShop.f, if_true, Option.bind_some]
    rw [if_pos (by omega), if_pos (by omega), wn n (by omega)]
    simp only [if_pos (show (n : Int) < (a.length : Int) by omega)]
    exact ih k (n + 1) (by omega) (by omega)
theorem eqShop_is (a : List S35) (k : Nat) (hb : a.length ≤ 9223372036854775800) (hk : a.length < k) : laws_eqShopS.f k a a = some true := by
  unfold laws_eqShopS.f
  rw [if_pos rfl]
  exact eqShop_l a hb a.length k 0 (by omega) hk
theorem szShop_is (l : List S59) (h : l.length ≤ maxLen) : laws_szShopS.f l 1048576 = some (if l.length > 1048576 then -1 else 1048576 - (l.length : Int)) := by
  simp only [maxLen] at h
  unfold laws_szShopS.f
  rw [w64 (show -9223372036854775808 ≤ 1048576 - (l.length : Int) by omega) (by omega)]
  by_cases h1 : l.length > 1048576
  · rw [if_pos (by omega), if_pos h1]
  · rw [if_neg (by omega), if_neg h1]
end Go.Proofs.Ytciceapcnjoogaa.Pure
