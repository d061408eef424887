/- The order in which skills are learned, and what may be learned: both say the same. -/
import Derived.Test.YtjfehhdgfpodhaaPureF2
namespace Go.Proofs.Ytjfehhdgfpodhaa.Pure
set_option linter.unusedVariables false
set_option linter.unusedSimpArgs false
open Go.RowKit Go.Proofs.Ytjfehhdgfpodhaa.PFL Go.Proofs.Ytjfehhdgfpodhaa.Base Go.Proofs.YtjfehhdgfpodhaaW.PrintWords Go.Proofs.YtjfehhdgfpodhaaW.PrintLast

theorem markSk (k : Nat) (hk : 1048576 < k) : ∀ (l : List Sk) (m : Int), (∀ s ∈ l, s.f0.length ≤ 1048576) → 0 ≤ m → m + 1048577 * (l.length : Int) ≤ 1152921504606846976 → ∃ r, laws_markSkillS.f k l m = some r ∧ 0 ≤ r ∧ r ≤ m + 1048577 * (l.length : Int)
  | [], m, _, h0, _ => ⟨m, rfl, h0, by simp⟩
  | s :: l, m, hn, h0, h1 => by
    have hs := hn s (by simp)
    rw [List.length_cons] at h1
    obtain ⟨r, g1, g2, g3⟩ := markSk k hk l (m + (s.f0.length : Int) + 1) (fun t ht => hn t (by simp [ht])) (by omega) (by omega)
    refine ⟨r, ?_, g2, by rw [List.length_cons]; omega⟩
    simp only [laws_markSkillS.f]
    rw [markInts s.f0 k m (by omega) (by omega) (by omega) (by omega), Option.bind_some, w64 (by omega) (by omega)]
    exact g1
theorem learn_both (l : List Sk) (hs : l.length ≤ 1048576) (hn : ∀ s ∈ l, s.f0.length ≤ 1048576) : ∃ K v, (∀ k, K ≤ k → spec_LearnOrder.f k l = some v ∧ impl_LearnOrder.f k l = some v) ∧ v.length ≤ 12 := by
  obtain ⟨K, r, hK, hr⟩ := ok_both l hs hn
  cases r with
  | false =>
    refine ⟨K, [], fun k hk => ?_, by simp⟩
    simp [spec_LearnOrder.f, impl_LearnOrder.f, (hK k hk).1, (hK k hk).2]
  | true =>
    have hg := hr.1 rfl
    obtain ⟨K2, h2⟩ := order_is l hs (fun s hs => (hg.2.1 s hs).2.1) hn
    refine ⟨K + K2, learnedL l l.length [], fun k hk => ?_, by have := hg.1; have := hg.2.2; omega⟩
    have h2' := up_to (fun k => spec_l23Order.mono l k) h2 (show K2 ≤ k by omega)
    simp only [spec_LearnOrder.f, impl_LearnOrder.f, (hK k (by omega)).1, (hK k (by omega)).2, Option.bind_some, if_true, h2', impl_learned.f]
    rw [if_pos (by omega)]
    simp
/-- What may be learned, from skill n on. -/
def cFrom (l : List Sk) (o : List Int) : Nat → Nat → List Int
  | 0, _ => []
  | d + 1, n => if canNext l o (n : Int) = true then (n : Int) :: cFrom l o d (n + 1) else cFrom l o d (n + 1)
theorem cFrom_len (l : List Sk) (o : List Int) : ∀ (d n : Nat), (cFrom l o d n).length ≤ d
  | 0, _ => by simp [cFrom]
  | d + 1, n => by
    have := cFrom_len l o d (n + 1)
    simp only [cFrom]
    split
    · simp; omega
    · omega
theorem can_at (l : List Sk) (o : List Int) (n : Nat) (hn : n < l.length) : canNext l o (n : Int) = (!o.contains (n : Int) && l[n].f0.all fun x => o.contains x) := by
  unfold canNext
  rw [rdI l n hn]
theorem can_il (l : List Sk) (o : List Int) (hl : l.length ≤ 1048576) : ∀ (d n k : Nat) (out : List Int), n + d = l.length → d < k → out.length ≤ n → impl_CanLearn.l0 k o out l (l.length : Int) (n : Int) = some (out ++ cFrom l o d n) := by
  intro d
  induction d with
  | zero =>
    intro n k out hn hk ho
    obtain ⟨k, rfl⟩ : ∃ m, k = m + 1 := ⟨k - 1, by omega⟩
    simp only [impl_CanLearn.l0]
    rw [if_neg (by omega)]
    simp [cFrom]
  | succ d ih =>
    intro n k out hn hk ho
    obtain ⟨k, rfl⟩ : ∃ m, k = m + 1 := ⟨k - 1, by omega⟩
    have hn' : n < l.length := by omega
    simp only [impl_CanLearn.l0, rdI l n hn', slices_Contains_int_int.f, impl_knowsAll.f, Option.bind_some, cFrom, can_at l o n hn']
    rw [if_pos (by omega), if_pos (by omega), if_pos (by omega), wn n (by omega)]
    cases e1 : o.contains (n : Int) with
    | true =>
      rw [if_pos rfl, ih (n + 1) k out (by omega) (by omega) (by omega)]
      simp
    | false =>
      rw [if_neg (by simp)]
      cases e2 : (l[n].f0.all fun x => o.contains x) with
      | true =>
        rw [if_pos rfl, if_pos (by omega), ih (n + 1) k _ (by omega) (by omega) (by simp; omega)]
        simp
      | false =>
        rw [if_neg (by simp), ih (n + 1) k out (by omega) (by omega) (by omega)]
        simp
theorem can_s1 (l : List Sk) (o out : List Int) (n : Nat) (hn : n < l.length) (hl : l.length ≤ 1048576) (ho : o.length ≤ 1048576) (hout : out.length ≤ n) (hnl : l[n].f0.length ≤ 1048576) (K : Nat) (R : List Int) :
    ∀ (d i : Nat) (f : Bool), i + d = l[n].f0.length → (∀ k, K ≤ k → spec_CanLearn.l0 k l o (if (f && (l[n].f0.drop i).all (fun x => o.contains x)) = true then out ++ [(n : Int)] else out) ((n + 1 : Nat) : Int) = some R) → ∀ k, K + 1048578 + d ≤ k → spec_CanLearn.l1 k l o out (n : Int) f (i : Int) = some R := by
  intro d
  induction d with
  | zero =>
    intro i f hi h k hk
    obtain ⟨k, rfl⟩ : ∃ m, k = m + 1 := ⟨k - 1, by omega⟩
    have h' := h k (by omega)
    rw [List.drop_of_length_le (by omega), List.all_nil, Bool.and_true] at h'
    simp only [spec_CanLearn.l1, rdI l n hn]
    rw [if_pos (by omega), if_pos (by omega), if_neg (by omega), wn n (by omega)]
    cases f with
    | true => rw [if_pos rfl] at h'; rw [if_pos rfl, if_pos (by omega)]; exact h'
    | false => rw [if_neg (by simp)] at h'; rw [if_neg (by simp)]; exact h'
  | succ d ih =>
    intro i f hi h k hk
    obtain ⟨k, rfl⟩ : ∃ m, k = m + 1 := ⟨k - 1, by omega⟩
    have hi' : i < l[n].f0.length := by omega
    rw [List.drop_eq_getElem_cons hi', List.all_cons] at h
    simp only [spec_CanLearn.l1, rdI l n hn]
    rw [if_pos (by omega), if_pos (by omega), if_pos (by omega), wn i (by omega)]
    cases f with
    | true =>
      rw [if_pos rfl, if_pos (by omega), rd_get _ i hi', has_is o _ k (by omega) (by omega), Option.bind_some]
      refine ih (i + 1) _ (by omega) (fun k hk => ?_) k (by omega)
      have := h k hk
      rwa [Bool.true_and] at this
    | false =>
      rw [if_neg (by simp)]
      refine ih (i + 1) false (by omega) (fun k hk => ?_) k (by omega)
      have := h k hk
      simp only [Bool.false_and] at this ⊢
      exact this
theorem can_sl (l : List Sk) (o : List Int) (hl : l.length ≤ 1048576) (ho : o.length ≤ 1048576) (hn : ∀ s ∈ l, s.f0.length ≤ 1048576) : ∀ (d n : Nat) (out : List Int), n + d = l.length → out.length ≤ n → Ev (fun k => spec_CanLearn.l0 k l o out (n : Int)) (out ++ cFrom l o d n) := by
  intro d
  induction d with
  | zero =>
    intro n out hnd hout
    refine ⟨1, fun k hk => ?_⟩
    obtain ⟨k, rfl⟩ : ∃ m, k = m + 1 := ⟨k - 1, by omega⟩
    simp only [spec_CanLearn.l0]
    rw [if_neg (by omega)]
    simp [cFrom]
  | succ d ih =>
    intro n out hnd hout
    have hn' : n < l.length := by omega
    have hq := hn _ (List.getElem_mem hn')
    obtain ⟨K, h⟩ := ih (n + 1) (if canNext l o (n : Int) = true then out ++ [(n : Int)] else out) (by omega) (by split <;> (try simp only [List.length_append, List.length_singleton]) <;> omega)
    obtain ⟨M, hM⟩ : ∃ M, M = K + 1048578 + l[n].f0.length + 1 := ⟨_, rfl⟩
    refine ⟨M, fun k hk => ?_⟩
    obtain ⟨k, rfl⟩ : ∃ m, k = m + 1 := ⟨k - 1, by omega⟩
    simp only [spec_CanLearn.l0]
    rw [if_pos (by omega), has_is o _ k (by omega) (by omega), Option.bind_some]
    refine can_s1 l o out n hn' hl ho hout hq K _ l[n].f0.length 0 _ (Nat.zero_add _) (fun k hk => ?_) k (by omega)
    have h' := h k hk
    simp only at h'
    rw [List.drop_zero, ← can_at l o n hn', h']
    simp only [cFrom]
    split <;> simp
theorem canl_both (l : List Sk) (o : List Int) (hl : l.length ≤ 1048576) (hn : ∀ s ∈ l, s.f0.length ≤ 1048576) (ho : o.length ≤ 1048576) : ∃ K v, (∀ k, K ≤ k → spec_CanLearn.f k l o = some v ∧ impl_CanLearn.f k l o = some v) ∧ v.length ≤ 1048576 := by
  obtain ⟨K, r, hK, hr⟩ := ok_both l hl hn
  cases r with
  | false =>
    refine ⟨K + 1, [], fun k hk => ?_, by simp⟩
    have h1 := hK k (by omega)
    obtain ⟨k, rfl⟩ : ∃ m, k = m + 1 := ⟨k - 1, by omega⟩
    simp [spec_CanLearn.f, impl_CanLearn.f, h1.1, h1.2, spec_CanLearn.j0, impl_CanLearn.j0]
  | true =>
    obtain ⟨q, hq⟩ : ∃ q : Bool, q = true ↔ Asc l.length o := by
      obtain ⟨q, _, _, h⟩ := asc_both o l.length (o.length + 1) hl (by omega) (by omega)
      exact ⟨q, h⟩
    have hA : ∀ k, 1048577 ≤ k → spec_l20Rising.f k o 0 (wrap64 ((l.length : Int) - 1)) = some q ∧ impl_ascending.f k o (l.length : Int) = some q := fun k hk => by
      obtain ⟨q', h1, h2, h3⟩ := asc_both o l.length k hl (by omega) (by omega)
      have e : q' = q := Bool.eq_iff_iff.2 (h3.trans hq.symm)
      rw [h1, h2, e]
      exact ⟨rfl, rfl⟩
    cases q with
    | false =>
      refine ⟨K + 1048578, [], fun k hk => ?_, by simp⟩
      have h1 := hK k (by omega)
      have h2 := hA k (by omega)
      obtain ⟨k, rfl⟩ : ∃ m, k = m + 1 := ⟨k - 1, by omega⟩
      simp only [spec_CanLearn.f, impl_CanLearn.f, h1.1, h1.2, h2.1, h2.2, Option.bind_some, if_true, Bool.not_false, spec_CanLearn.j0, impl_CanLearn.j0]
      simp
    | true =>
      obtain ⟨K1, g1⟩ := can_sl l o hl ho hn l.length 0 [] (Nat.zero_add _) (by simp)
      have hlen := cFrom_len l o l.length 0
      refine ⟨K + K1 + 1048578 + l.length + 2, cFrom l o l.length 0, fun k hk => ?_, by omega⟩
      have h1 := hK k (by omega)
      have h2 := hA k (by omega)
      obtain ⟨k, rfl⟩ : ∃ m, k = m + 1 := ⟨k - 1, by omega⟩
      have g1' := g1 k (by omega)
      have g2' := can_il l o hl l.length 0 k [] (Nat.zero_add _) (by omega) (by simp)
      simp only [List.nil_append] at g1' g2'
      simp only [spec_CanLearn.f, impl_CanLearn.f, h1.1, h1.2, h2.1, h2.2, Option.bind_some, if_true, Bool.not_true, spec_CanLearn.j0, impl_CanLearn.j0]
      rw [if_neg (by simp), if_neg (by simp)]
      exact ⟨g1', g2'⟩
end Go.Proofs.Ytjfehhdgfpodhaa.Pure
