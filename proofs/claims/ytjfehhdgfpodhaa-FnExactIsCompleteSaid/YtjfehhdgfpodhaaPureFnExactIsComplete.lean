/- Complete sets of skills: the law. -/
import Derived.Test.YtjfehhdgfpodhaaPureF2
namespace Go.Proofs.Ytjfehhdgfpodhaa.Pure
set_option linter.unusedVariables false
set_option linter.unusedSimpArgs false
open Go.RowKit Go.Proofs.Ytjfehhdgfpodhaa.PF Go.Proofs.Ytjfehhdgfpodhaa.Base Go.Proofs.YtjfehhdgfpodhaaW.PrintWords Go.Proofs.YtjfehhdgfpodhaaW.PrintLast

theorem cpl_l (l : List Sk) (o : List Int) (hn : ∀ s ∈ l, s.f0.length ≤ 1048576) (ho : o.length ≤ 1048576) (hr : ∀ x ∈ o, 0 ≤ x ∧ x < (l.length : Int)) (hl : l.length ≤ 1048576) :
    (∀ (d j : Nat) (hj : j < o.length) (i : Nat) (k : Nat) (R : Bool), i + d = (rd_T34 l o[j]).f0.length → 1048577 ≤ k → spec_IsComplete.l0 k l o ((j + 1 : Nat) : Int) = some R →
      spec_IsComplete.l1 (k + d + 1) l o (j : Int) (i : Int) = some (((rd_T34 l o[j]).f0.drop i).all (fun x => o.contains x) && R)) := by
  intro d
  induction d with
  | zero =>
    intro j hj i k R hi hk h
    have hx := hr o[j] (List.getElem_mem hj)
    rw [List.drop_of_length_le (by omega)]
    simp only [Nat.add_zero, spec_IsComplete.l1, rd_get o j hj]
    rw [if_pos (by omega), if_pos (by omega), if_pos hx.1, if_pos hx.2, if_neg (by omega), wn j (by omega)]
    simpa using h
  | succ d ih =>
    intro j hj i k R hi hk h
    have hx := hr o[j] (List.getElem_mem hj)
    have hi' : i < (rd_T34 l o[j]).f0.length := by omega
    have hsz : (rd_T34 l o[j]).f0.length ≤ 1048576 := by
      have e : o[j] = ((o[j].toNat : Nat) : Int) := by omega
      rw [e, rdI l _ (by omega)]
      exact hn _ (List.getElem_mem _)
    obtain ⟨M, hM⟩ : ∃ M, M = k + d + 1 := ⟨_, rfl⟩
    rw [show k + (d + 1) + 1 = M + 1 by omega]
    simp only [spec_IsComplete.l1, rd_get o j hj]
    rw [if_pos (by omega), if_pos (by omega), if_pos hx.1, if_pos hx.2, if_pos (by omega), if_pos (by omega), rd_get _ i hi', wn i (by omega), has_is o _ M (by omega) (by omega), List.drop_eq_getElem_cons hi', List.all_cons]
    simp only [Option.bind_some]
    cases o.contains (rd_T34 l o[j]).f0[i] with
    | false => simp
    | true =>
      rw [if_pos rfl, Bool.true_and]
      subst hM
      exact ih j hj (i + 1) k R (by omega) hk h
theorem cpl_is (l : List Sk) (o : List Int) (hn : ∀ s ∈ l, s.f0.length ≤ 1048576) (ho : o.length ≤ 1048576) (hr : ∀ x ∈ o, 0 ≤ x ∧ x < (l.length : Int)) (hl : l.length ≤ 1048576) :
    ∀ (d j : Nat), j + d = o.length → ∃ k, 1048577 ≤ k ∧ spec_IsComplete.l0 k l o (j : Int) = some ((o.drop j).all fun y => (rd_T34 l y).f0.all fun x => o.contains x) := by
  intro d
  induction d with
  | zero =>
    intro j hj
    refine ⟨1048577 + 1, by omega, ?_⟩
    obtain ⟨M, hM⟩ : ∃ M, M = 1048577 := ⟨_, rfl⟩
    rw [← hM]
    simp only [spec_IsComplete.l0]
    rw [if_neg (by omega), List.drop_of_length_le (by omega)]
    rfl
  | succ d ih =>
    intro j hj
    obtain ⟨k, hk, h⟩ := ih (j + 1) (by omega)
    have hj' : j < o.length := by omega
    refine ⟨(k + (rd_T34 l o[j]).f0.length + 1) + 1, by omega, ?_⟩
    have q := cpl_l l o hn ho hr hl _ j hj' 0 k _ (Nat.zero_add _) hk h
    rw [List.drop_zero] at q
    simp only [spec_IsComplete.l0]
    rw [if_pos (by omega), List.drop_eq_getElem_cons hj', List.all_cons]
    exact q
theorem complete_both (l : List Sk) (o : List Int) (hl : l.length ≤ 1048576) (hn : ∀ s ∈ l, s.f0.length ≤ 1048576) (ho : o.length ≤ 1048576) : ∃ K r, ∀ k, K ≤ k → spec_IsComplete.f k l o = some r ∧ impl_IsComplete.f k l o = some r := by
  obtain ⟨K, r, hK, hr⟩ := ok_both l hl hn
  cases r with
  | false =>
    refine ⟨K + 1, false, fun k hk => ?_⟩
    obtain ⟨k, rfl⟩ : ∃ m, k = m + 1 := ⟨k - 1, by omega⟩
    unfold spec_IsComplete.f impl_IsComplete.f
    rw [(hK (k + 1) (by omega)).1, (hK (k + 1) (by omega)).2]
    simp [spec_IsComplete.j0]
  | true =>
    obtain ⟨q, hq⟩ : ∃ q : Bool, q = true ↔ Asc l.length o := by
      obtain ⟨q, _, _, h⟩ := asc_both o l.length (o.length + 1) hl (by omega) (by omega)
      exact ⟨q, h⟩
    have hA : ∀ k, 1048577 ≤ k → spec_l20Rising.f k o 0 (wrap64 ((l.length : Int) - 1)) = some q ∧ impl_ascending.f k o (l.length : Int) = some q := fun k hk => by
      obtain ⟨q', h1, h2, h3⟩ := asc_both o l.length k hl (by omega) (by omega)
      have e : q' = q := Bool.eq_iff_iff.2 (h3.trans hq.symm)
      rw [h1, h2, e]
      exact ⟨rfl, rfl⟩
    cases q with
    | false =>
      refine ⟨K + 1048578, false, fun k hk => ?_⟩
      obtain ⟨k, rfl⟩ : ∃ m, k = m + 1 := ⟨k - 1, by omega⟩
      unfold spec_IsComplete.f impl_IsComplete.f
      rw [(hK (k + 1) (by omega)).1, (hK (k + 1) (by omega)).2]
      simp only [Option.bind_some, if_true, (hA (k + 1) (by omega)).1, (hA (k + 1) (by omega)).2]
      simp [spec_IsComplete.j0]
    | true =>
      have hx := (hq.1 rfl).1
      obtain ⟨k0, hk0, h0⟩ := cpl_is l o hn ho hx hl o.length 0 (by omega)
      rw [List.drop_zero] at h0
      refine ⟨K + 1048578 + k0, (o.all fun y => (rd_T34 l y).f0.all fun x => o.contains x), fun k hk => ⟨?_, ?_⟩⟩
      rotate_left
      · unfold impl_IsComplete.f
        rw [(hK k (by omega)).2]
        simp only [Option.bind_some, if_true, (hA k (by omega)).2]
        rw [if_pos hx, ← List.all_eq_not_any_not]
      · obtain ⟨k, rfl⟩ : ∃ m, k = m + 1 := ⟨k - 1, by omega⟩
        unfold spec_IsComplete.f
        rw [(hK (k + 1) (by omega)).1]
        simp only [Option.bind_some, if_true, (hA (k + 1) (by omega)).1, spec_IsComplete.j0]
        have h1 := up_to (g := fun k => spec_IsComplete.l0 k l o 0) (fun k => (spec_IsComplete.mono_l k).2.1 l o 0) h0 (show k0 ≤ k by omega)
        rw [if_neg (by simp)]
        exact h1
theorem FnExactIsComplete : laws_FnExactIsComplete.Pure := by
  intro l o hm hl hw hm1 hl1 hw1
  unfold laws_FnExactIsComplete.f
  by_cases hb : (o.length : Int) > 1048576
  · exact ⟨0, by rw [if_pos hb]⟩
  simp only [if_neg hb]
  refine frame l hm hw _ (fun h1 h2 => ?_)
  obtain ⟨K, r, hK⟩ := complete_both (l.map cvSk) o (by simpa using h1) (map_short l h2) (by omega)
  obtain ⟨k, hk1, hk2, hk3⟩ : ∃ k, K ≤ k ∧ l.length + 1048577 < k ∧ o.length < k := ⟨K + (l.length + 1048578) + o.length, by omega, by omega, by omega⟩
  refine ⟨k, by omega, ?_⟩
  rw [toSk_is l k h1 h2 hk2]
  simp only [Option.bind_some, (hK k hk1).1, (hK k hk1).2, toInts o k hl1 hk3]
  rw [eqSk_is _ k (by simpa using h1) (map_short l h2) (by simpa using hk2), eqInts o o k (by omega) hk3]
  simp
end Go.Proofs.Ytjfehhdgfpodhaa.Pure
