/- Shops: what the program computes is what the reference computes. -/
import Derived.Test.YtciceapcnjoogaaShop
namespace Go.Proofs.Ytciceapcnjoogaa.Pure
set_option linter.unusedVariables false
set_option linter.unusedSimpArgs false
open Go.RowKit Go.Proofs.Ytciceapcnjoogaa.PDF Go.Proofs.Ytciceapcnjoogaa.Base Go.Proofs.YtciceapcnjoogaaW.PrintWords Go.Proofs.YtciceapcnjoogaaW.PrintLast

abbrev Sp := S35
def okSp (x : Sp) : Prop := (1 ≤ x.f0 ∧ x.f0 ≤ 1000) ∧ 1 ≤ x.f1 ∧ x.f1 ≤ 100
def SpFrom (l : List Sp) (n : Nat) : Prop := ∀ j (hj : j < l.length), n ≤ j → okSp l[j] ∧ (∀ h : 0 < j, l[j - 1].f0 < l[j].f0)
theorem shops_l (l : List Sp) (hb : l.length ≤ 9223372036854775800) : ∀ (d : Nat) (k n : Nat), n + d = l.length → d < k →
    ∃ r, spec_ShopsOk.l0 k l (n : Int) = some r ∧ impl_ShopsOk.l0 k l l (l.length : Int) (n : Int) = some r ∧ (r = true ↔ (l.length ≤ 10 ∧ SpFrom l n)) := by
  intro d
  induction d with
  | zero =>
    intro k n hn hk
    obtain ⟨k, rfl⟩ : ∃ m, k = m + 1 := ⟨k - 1, by omega⟩
    simp only [spec_ShopsOk.l0, impl_ShopsOk.l0]
    rw [if_neg (by omega), if_neg (by omega)]
    refine ⟨_, rfl, rfl, ?_⟩
    rw [decide_eq_true_eq]
    exact ⟨fun h => ⟨by omega, fun j hj hnj => absurd hj (by omega)⟩, fun h => by omega⟩
  | succ d ih =>
    intro k n hn hk
    obtain ⟨k, rfl⟩ : ∃ m, k = m + 1 := ⟨k - 1, by omega⟩
    obtain ⟨r, g1, g2, g3⟩ := ih k (n + 1) (by omega) (by omega)
    have hn' : n < l.length := by omega
    have key : SpFrom l n ↔ (okSp l[n] ∧ (∀ h : 0 < n, l[n - 1].f0 < l[n].f0)) ∧ SpFrom l (n + 1) := by
      constructor
      · intro h
        exact ⟨h n hn' (Nat.le_refl _), fun j hj hnj => h j hj (by omega)⟩
      · rintro ⟨h1, h2⟩ j hj hnj
        by_cases e : j = n
        · subst e; exact h1
        · exact h2 j hj (by omega)
    simp only [spec_ShopsOk.l0, impl_ShopsOk.l0, rdIShop l n hn', spec_in, in_is, Option.bind_some]
    rw [if_pos (show (n : Int) < (l.length : Int) by omega), if_pos (show (0 : Int) ≤ (n : Int) by omega), if_pos (show (n : Int) < (l.length : Int) by omega), if_pos (show (0 : Int) ≤ (n : Int) by omega), if_pos (show (n : Int) < (l.length : Int) by omega), wn n (by omega)]
    cases h0 : inB 1 1000 l[n].f0 with
    | false =>
      refine ⟨false, by simp, by simp, fun h => (by cases h), fun h => ?_⟩
      rw [inB_false] at h0
      exact absurd (key.1 h.2).1.1.1 h0
    | true =>
      cases h1 : inB 1 100 l[n].f1 with
      | false =>
        refine ⟨false, by simp, by simp, fun h => (by cases h), fun h => ?_⟩
        rw [inB_false] at h1
        exact absurd (key.1 h.2).1.1.2 h1
      | true =>
        have hok : okSp l[n] := ⟨(inB_iff _ _ _).1 h0, (inB_iff _ _ _).1 h1⟩
        simp only [if_true]
        by_cases hz : (n : Int) > 0
        · have hw : wrap64 ((n : Int) - 1) = ((n - 1 : Nat) : Int) := by rw [w64 (by omega) (by omega)]; omega
          rw [if_pos hz, if_pos hz, hw, if_pos (show (0 : Int) ≤ ((n - 1 : Nat) : Int) by omega), if_pos (show ((n - 1 : Nat) : Int) < (l.length : Int) by omega), if_pos (show (0 : Int) ≤ ((n - 1 : Nat) : Int) by omega), if_pos (show ((n - 1 : Nat) : Int) < (l.length : Int) by omega), rdIShop l (n - 1) (by omega)]
          by_cases hlt : l[n].f0 ≤ l[n - 1].f0
          · refine ⟨false, by rw [if_pos hlt], by rw [if_pos hlt], fun h => (by cases h), fun h => ?_⟩
            have := (key.1 h.2).1.2 (by omega)
            omega
          · refine ⟨r, by rw [if_neg hlt]; exact g1, by rw [if_neg hlt]; exact g2, ?_⟩
            rw [g3, key]
            exact ⟨fun ⟨p1, p2⟩ => ⟨p1, ⟨hok, fun _ => by omega⟩, p2⟩, fun ⟨p1, _, p2⟩ => ⟨p1, p2⟩⟩
        · rw [if_neg hz, if_neg hz]
          refine ⟨r, g1, g2, ?_⟩
          rw [g3, key]
          exact ⟨fun ⟨p1, p2⟩ => ⟨p1, ⟨hok, fun h => absurd h (by omega)⟩, p2⟩, fun ⟨p1, _, p2⟩ => ⟨p1, p2⟩⟩
theorem shops_both (l : List Sp) (k : Nat) (hb : l.length ≤ 9223372036854775800) (hk : l.length < k) : ∃ r, spec_ShopsOk.f k l = some r ∧ impl_ShopsOk.f k l = some r ∧ (r = true ↔ (l.length ≤ 10 ∧ SpFrom l 0)) :=
  shops_l l hb l.length k 0 (by omega) hk
end Go.Proofs.Ytciceapcnjoogaa.Pure
