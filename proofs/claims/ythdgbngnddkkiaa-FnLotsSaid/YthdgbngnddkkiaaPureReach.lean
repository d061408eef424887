/- What is reached from a lot: both say the same. -/
import Derived.Test.YthdgbngnddkkiaaPureSusp
import Derived.Test.YthdgbngnddkkiaaPHXx6
import Derived.Test.YthdgbngnddkkiaaPHXx11
namespace Go.Proofs.Ythdgbngnddkkiaa.Pure
set_option linter.unusedVariables false
set_option linter.unusedSimpArgs false
open Go.RowKit Go.Proofs.Ythdgbngnddkkiaa.PHX Go.Proofs.Ythdgbngnddkkiaa.Base Go.Proofs.YthdgbngnddkkiaaW.PrintWords Go.Proofs.YthdgbngnddkkiaaW.PrintLast

/-- The marked lots from b on. -/
def rFrom (L : List Bool) : Nat → Nat → List Int
  | 0, _ => []
  | d + 1, b => if rdOf false L (b : Int) = true then (b : Int) :: rFrom L d (b + 1) else rFrom L d (b + 1)
theorem rFrom_len (L : List Bool) : ∀ (d b : Nat), (rFrom L d b).length ≤ d
  | 0, _ => by simp [rFrom]
  | d + 1, b => by
    have := rFrom_len L d (b + 1)
    simp only [rFrom]
    split
    · simp; omega
    · omega
theorem rFrom_mem (L : List Bool) : ∀ (d b : Nat) (x : Int), x ∈ rFrom L d b ↔ ((b : Int) ≤ x ∧ x < ((b + d : Nat) : Int) ∧ rdOf false L x = true)
  | 0, b, x => by
    simp only [rFrom, List.not_mem_nil, false_iff]
    rintro ⟨h1, h2, _⟩
    omega
  | d + 1, b, x => by
    have ih := rFrom_mem L d (b + 1) x
    simp only [rFrom]
    split
    · rename_i hf
      rw [List.mem_cons, ih]
      constructor
      · rintro (h | ⟨h1, h2, h3⟩)
        · subst h; exact ⟨by omega, by omega, hf⟩
        · exact ⟨by omega, by omega, h3⟩
      · rintro ⟨h1, h2, h3⟩
        by_cases e : x = (b : Int)
        · exact Or.inl e
        · exact Or.inr ⟨by omega, by omega, h3⟩
    · rename_i hf
      rw [ih]
      constructor
      · rintro ⟨h1, h2, h3⟩
        exact ⟨by omega, by omega, h3⟩
      · rintro ⟨h1, h2, h3⟩
        by_cases e : x = (b : Int)
        · subst e; exact absurd h3 hf
        · exact ⟨by omega, by omega, h3⟩
theorem rFrom_sa (L : List Bool) : ∀ (d b : Nat), SA (rFrom L d b)
  | 0, b => List.Pairwise.nil
  | d + 1, b => by
    simp only [rFrom]
    split
    · refine List.pairwise_cons.2 ⟨fun x hx => ?_, rFrom_sa L d (b + 1)⟩
      have := ((rFrom_mem L d (b + 1) x).1 hx).1
      omega
    · exact rFrom_sa L d (b + 1)
def reachedV (l : List Us) (lot : Int) : List Int := if usesV l = true then rFrom (roundsU l 60 (mark0 l lot)).1 50 1 else []
theorem reachedV_sa (l : List Us) (lot : Int) : SA (reachedV l lot) := by
  unfold reachedV
  split
  · exact rFrom_sa _ 50 1
  · exact List.Pairwise.nil
theorem reachedV_len (l : List Us) (lot : Int) : (reachedV l lot).length ≤ 50 := by
  unfold reachedV
  split
  · exact rFrom_len _ 50 1
  · simp
theorem reachedV_mem (l : List Us) (lot : Int) (hv : usesV l = true) (x : Int) : x ∈ reachedV l lot ↔ RL l lot x := by
  unfold reachedV
  rw [if_pos hv, rFrom_mem]
  have hu := okay_of l hv
  have h60 := ((usesV_iff l).1 hv).1
  constructor
  · rintro ⟨h1, _, h3⟩
    exact (rounds_is l lot hu h60 x (by omega)).1 h3
  · intro h
    obtain ⟨u, hm, e⟩ := h.used
    have := (hu u hm).1
    exact ⟨by omega, by omega, (rounds_is l lot hu h60 x (by omega)).2 h⟩

/-! ### the reference's loops -/
theorem reach_l2 (L : List Bool) (hL : L.length = 51) : ∀ (d b : Nat) (o : List Int), b + d = 51 → o.length + d ≤ 1000 → Ev (fun k => spec_Reached.l2 k o L (b : Int)) (o ++ rFrom L d b) := by
  intro d
  induction d with
  | zero =>
    intro b o hbd ho
    refine ⟨1, fun k hk => ?_⟩
    obtain ⟨k, rfl⟩ : ∃ m, k = m + 1 := ⟨k - 1, by omega⟩
    simp only [spec_Reached.l2]
    rw [if_neg (by omega)]
    simp [rFrom]
  | succ d ih =>
    intro b o hbd ho
    obtain ⟨K, h⟩ := ih (b + 1) (if rdOf false L (b : Int) = true then o ++ [(b : Int)] else o) (by omega) (by split <;> (try simp only [List.length_append, List.length_singleton]) <;> omega)
    refine ⟨K + 1, fun k hk => ?_⟩
    obtain ⟨k, rfl⟩ : ∃ m, k = m + 1 := ⟨k - 1, by omega⟩
    have h' := h k (by omega)
    simp only at h'
    simp only [spec_Reached.l2]
    rw [if_pos (by omega), if_pos (by omega), if_pos (by omega), w64 (by omega) (by omega)]
    simp only [rFrom]
    by_cases e : rdOf false L (b : Int) = true
    · rw [if_pos e] at h'
      rw [if_pos e, if_pos (by omega), if_pos e]
      simpa using h'
    · rw [if_neg e] at h'
      rw [if_neg e, if_neg e]
      simpa using h'
theorem reach_l1 (l : List Us) (hu : ∀ u ∈ l, Okay u) (hb : l.length ≤ 60) (o : List Int) (x : Int) (R : List Int) (K : Nat) : ∀ (d n : Nat) (s : Bo), n + d = l.length → Len s →
    (∀ k, K ≤ k → spec_Reached.l0 k l o (passU (l.drop n) s).1 (passU (l.drop n) s).2 (wrap64 (x + 1)) = some R) → ∀ k, K + d + 1 ≤ k → spec_Reached.l1 k l o s.1 s.2 x (n : Int) = some R := by
  intro d
  induction d with
  | zero =>
    intro n s hn hs h k hk
    obtain ⟨k, rfl⟩ : ∃ m, k = m + 1 := ⟨k - 1, by omega⟩
    have h' := h k (by omega)
    rw [List.drop_of_length_le (by omega)] at h'
    simp only [spec_Reached.l1]
    rw [if_neg (by omega)]
    exact h'
  | succ d ih =>
    intro n s hn hs h k hk
    obtain ⟨k, rfl⟩ : ∃ m, k = m + 1 := ⟨k - 1, by omega⟩
    have hn' : n < l.length := by omega
    obtain ⟨⟨a, b⟩, c, e⟩ := hu _ (List.getElem_mem hn')
    have h1 := hs.1
    have h2 := hs.2
    have hst := step_len s l[n] hs
    have ih' := ih (n + 1) (stepU s l[n]) (by omega) hst (fun k hk => by
      have := h k hk
      rw [List.drop_eq_getElem_cons hn'] at this
      exact this) k (by omega)
    simp only [spec_Reached.l1, rdIUse l n hn']
    rw [if_pos (by omega), if_pos (by omega), if_pos (by omega), if_pos (by omega), wn n (by omega)]
    simp only [if_pos (show (0 : Int) ≤ l[n].f1 by omega), if_pos (show l[n].f1 < (s.2.length : Int) by omega)]
    unfold stepU at ih'
    by_cases e1 : rdOf false s.1 l[n].f0 = true
    · rw [if_pos (by rw [e1]; rfl)] at ih'
      rw [if_pos e1]
      exact ih'
    · rw [if_neg e1]
      by_cases e2 : rdOf false s.2 l[n].f1 = true
      · rw [if_pos (by rw [e2]; simp)] at ih'
        rw [if_pos e2]
        exact ih'
      · rw [if_neg (by simp [e1, e2])] at ih'
        rw [if_neg e2]
        exact ih'
theorem reach_l0 (l : List Us) (hu : ∀ u ∈ l, Okay u) (hb : l.length ≤ 60) (o : List Int) (R : List Int) : ∀ (d r : Nat) (s : Bo), r + d = 60 → Len s →
    Ev (fun k => spec_Reached.l2 k o (roundsU l d s).1 1) R → Ev (fun k => spec_Reached.l0 k l o s.1 s.2 (r : Int)) R := by
  intro d
  induction d with
  | zero =>
    intro r s hr hs h
    obtain ⟨K, h⟩ := h
    refine ⟨K + 1, fun k hk => ?_⟩
    obtain ⟨k, rfl⟩ : ∃ m, k = m + 1 := ⟨k - 1, by omega⟩
    have h' := h k (by omega)
    simp only [spec_Reached.l0]
    rw [if_neg (by omega)]
    exact h'
  | succ d ih =>
    intro r s hr hs h
    obtain ⟨K, h'⟩ := ih (r + 1) (passU l s) (by omega) (pass_len l s hs) h
    refine ⟨K + l.length + 2, fun k hk => ?_⟩
    obtain ⟨k, rfl⟩ : ∃ m, k = m + 1 := ⟨k - 1, by omega⟩
    simp only [spec_Reached.l0]
    rw [if_pos (by omega)]
    refine reach_l1 l hu hb o (r : Int) R K l.length 0 s (by omega) hs (fun k hk => ?_) k (by omega)
    rw [List.drop_zero, wn r (by omega)]
    exact h' k hk
theorem reach_s (l : List Us) (lot : Int) (hb : l.length ≤ 9223372036854775800) : Ev (fun k => spec_Reached.f k l lot) (reachedV l lot) := by
  cases hv : usesV l with
  | false =>
    refine ⟨l.length + 1, fun k hk => ?_⟩
    have := spec_uses l k hb (by omega)
    simp [spec_Reached.f, this, hv, reachedV]
  | true =>
    have hu := okay_of l hv
    have h60 := ((usesV_iff l).1 hv).1
    have hB : 0 < (breadsV l lot).length ↔ (l.any fun u => decide (u.f0 = lot)) = true := by
      rw [List.length_pos_iff_exists_mem, List.any_eq_true]
      constructor
      · rintro ⟨b, hb⟩
        obtain ⟨u, hu, e, _⟩ := (mem_breadsV l hv _ _).1 hb
        exact ⟨u, hu, by simp [e]⟩
      · rintro ⟨u, hu, e⟩
        rw [decide_eq_true_eq] at e
        exact ⟨u.f1, (mem_breadsV l hv _ _).2 ⟨u, hu, e, rfl⟩⟩
    have hL := mark0_len l lot
    obtain ⟨K0, h0⟩ := reach_l0 l hu h60 [] (reachedV l lot) 60 0 (mark0 l lot) rfl hL (by
      have h2 := reach_l2 (roundsU l 60 (mark0 l lot)).1 (rounds_len l 60 _ hL).1 50 1 [] rfl (by simp)
      unfold reachedV
      rw [if_pos hv]
      exact h2)
    obtain ⟨K1, h1⟩ := breads_s l lot hb
    refine ⟨K0 + K1 + l.length + 2, fun k hk => ?_⟩
    have hs := spec_uses l k hb (by omega)
    have h1' := h1 k (by omega)
    obtain ⟨k, rfl⟩ : ∃ m, k = m + 1 := ⟨k - 1, by omega⟩
    have h0' := h0 k (by omega)
    simp only at h1' h0'
    simp only [spec_Reached.f, hs, hv, Option.bind_some, if_true, h1']
    rw [if_pos (by omega)]
    unfold mark0 at h0'
    by_cases ha : (l.any fun u => decide (u.f0 = lot)) = true
    · have hlen := hB.2 ha
      rw [List.any_eq_true] at ha
      obtain ⟨u, hm, e⟩ := ha
      rw [decide_eq_true_eq] at e
      obtain ⟨⟨a, b⟩, _⟩ := hu u hm
      rw [if_pos (List.any_eq_true.2 ⟨u, hm, by simp [e]⟩)] at h0'
      rw [if_pos (by omega), if_pos (by omega), if_pos (by simp; omega)]
      simp only [spec_Reached.j0]
      exact h0'
    · have hlen : ¬ 0 < (breadsV l lot).length := fun h => ha (hB.1 h)
      rw [if_neg ha] at h0'
      rw [if_neg (by omega)]
      simp only [spec_Reached.j0]
      exact h0'

/-! ### the program's loops -/
theorem bfs_l2 (l : List Us) (at_ : Int) (bs : List Int) (i : Int) (ys : List Int) (hys : ys.length ≤ 50) (R : List Int) (K : Nat) : ∀ (d n : Nat) (o : List Int), n + d = ys.length → o.length + d ≤ 1000000 →
    (∀ k, K ≤ k → impl_Reached.l1 k l (addAll o (ys.drop n)) at_ bs (bs.length : Int) (wrap64 (i + 1)) = some R) → ∀ k, K + d + 1 ≤ k → impl_Reached.l2 k l o at_ bs (bs.length : Int) i ys (ys.length : Int) (n : Int) = some R := by
  intro d
  induction d with
  | zero =>
    intro n o hn ho h k hk
    obtain ⟨k, rfl⟩ : ∃ m, k = m + 1 := ⟨k - 1, by omega⟩
    have h' := h k (by omega)
    rw [List.drop_of_length_le (by omega)] at h'
    simp only [impl_Reached.l2]
    rw [if_neg (by omega)]
    exact h'
  | succ d ih =>
    intro n o hn ho h k hk
    obtain ⟨k, rfl⟩ : ∃ m, k = m + 1 := ⟨k - 1, by omega⟩
    have hn' : n < ys.length := by omega
    have ih' := ih (n + 1) (add1 o ys[n]) (by omega) (by unfold add1; split <;> (try simp only [List.length_append, List.length_singleton]) <;> omega) (fun k hk => by
      have := h k hk
      rw [List.drop_eq_getElem_cons hn'] at this
      exact this) k (by omega)
    simp only [impl_Reached.l2, rd_get ys n hn', slices_Contains_int_int.f, Option.bind_some]
    rw [if_pos (by omega), if_pos (by omega), if_pos (by omega), wn n (by omega)]
    unfold add1 at ih'
    by_cases e : o.contains ys[n] = true
    · rw [if_pos e] at ih' ⊢
      exact ih'
    · rw [if_neg e] at ih' ⊢
      rw [if_pos (by omega)]
      exact ih'
theorem bfs_l1 (l : List Us) (hb : l.length ≤ 9223372036854775800) (at_ : Int) (bs : List Int) (hbs : bs.length ≤ 50) (R : List Int) (K : Nat) : ∀ (d i : Nat) (o : List Int), i + d = bs.length → o.length + 50 * d ≤ 100000 →
    (∀ k, K ≤ k → impl_Reached.l0 k l (grow l o (bs.drop i)) (wrap64 (at_ + 1)) = some R) → ∃ K', ∀ k, K' ≤ k → impl_Reached.l1 k l o at_ bs (bs.length : Int) (i : Int) = some R := by
  intro d
  induction d with
  | zero =>
    intro i o hi ho h
    refine ⟨K + 1, fun k hk => ?_⟩
    obtain ⟨k, rfl⟩ : ∃ m, k = m + 1 := ⟨k - 1, by omega⟩
    have h' := h k (by omega)
    rw [List.drop_of_length_le (by omega)] at h'
    simp only [impl_Reached.l1]
    rw [if_neg (by omega)]
    exact h'
  | succ d ih =>
    intro i o hi ho h
    have hi' : i < bs.length := by omega
    have hg : (addAll o (lotsV l bs[i])).length ≤ o.length + 50 := by
      have := lotsV_len l bs[i]
      have q : ∀ (ys o : List Int), (addAll o ys).length ≤ o.length + ys.length := by
        intro ys
        induction ys with
        | nil => intro o; simp [addAll]
        | cons y ys ih =>
          intro o
          have h1 := ih (add1 o y)
          have h2 : (add1 o y).length ≤ o.length + 1 := by unfold add1; split <;> simp
          show (addAll (add1 o y) ys).length ≤ _
          rw [List.length_cons]
          omega
      have := q (lotsV l bs[i]) o
      omega
    obtain ⟨K', h'⟩ := ih (i + 1) (addAll o (lotsV l bs[i])) (by omega) (by omega) (fun k hk => by
      have := h k hk
      rw [List.drop_eq_getElem_cons hi'] at this
      exact this)
    obtain ⟨K1, h1⟩ := lots_i l bs[i] hb
    refine ⟨K' + K1 + 60, fun k hk => ?_⟩
    obtain ⟨k, rfl⟩ : ∃ m, k = m + 1 := ⟨k - 1, by omega⟩
    have h1' := h1 k (by omega)
    have hll := lotsV_len l bs[i]
    simp only at h1'
    simp only [impl_Reached.l1, rd_get bs i hi', h1', Option.bind_some]
    rw [if_pos (by omega), if_pos (by omega), if_pos (by omega)]
    refine bfs_l2 l at_ bs (i : Int) _ hll R K' _ 0 o (Nat.zero_add _) (by omega) (fun k hk => ?_) k (by omega)
    rw [List.drop_zero, wn i (by omega)]
    exact h' k hk
theorem bfs_l0 (l : List Us) (lot : Int) (hv : usesV l = true) : ∀ (d n : Nat) (o : List Int), n + d = 51 → Walk l lot o n → Ev (fun k => impl_Reached.l0 k l o (n : Int)) (reachedV l lot) := by
  have h60 := ((usesV_iff l).1 hv).1
  intro d
  induction d with
  | zero =>
    intro n o hn hw
    have := hw.len hv
    have := hw.le
    omega
  | succ d ih =>
    intro n o hn hw
    have hlen := hw.len hv
    by_cases hlt : n < o.length
    · obtain ⟨K, h⟩ := ih (n + 1) _ (by omega) (hw.step hv hlt)
      obtain ⟨K1, h1⟩ := breads_i l o[n] (by omega)
      have hbl := breadsV_len l o[n]
      obtain ⟨K2, h2⟩ := bfs_l1 l (by omega) (n : Int) (breadsV l o[n]) hbl (reachedV l lot) K _ 0 o (Nat.zero_add _) (by omega) (fun k hk => by
        rw [List.drop_zero, wn n (by omega)]
        exact h k hk)
      refine ⟨K1 + K2 + 1, fun k hk => ?_⟩
      obtain ⟨k, rfl⟩ : ∃ m, k = m + 1 := ⟨k - 1, by omega⟩
      have h1' := h1 k (by omega)
      simp only at h1'
      simp only [impl_Reached.l0, rd_get o n hlt, h1', Option.bind_some]
      rw [if_pos (by omega), if_pos (by omega)]
      exact h2 k (by omega)
    · have hno : n = o.length := by have := hw.le; omega
      subst hno
      refine ⟨1, fun k hk => ?_⟩
      obtain ⟨k, rfl⟩ : ∃ m, k = m + 1 := ⟨k - 1, by omega⟩
      simp only [impl_Reached.l0]
      rw [if_neg (by omega), set_is o (by omega), Option.bind_some]
      congr 1
      obtain ⟨h1, h2⟩ := set_plain o
      refine sa_ext _ _ h1 (reachedV_sa l lot) (fun x => ?_)
      rw [reachedV_mem l lot hv, ← hw.all x]
      exact h2 x
theorem reach_i (l : List Us) (lot : Int) (hb : l.length ≤ 9223372036854775800) : Ev (fun k => impl_Reached.f k l lot) (reachedV l lot) := by
  cases hv : usesV l with
  | false =>
    refine ⟨1, fun k hk => ?_⟩
    simp [impl_Reached.f, impl_uses, hv, reachedV]
  | true =>
    obtain ⟨K, h⟩ := bfs_l0 l lot hv 51 0 _ rfl (Walk.init l lot hv)
    obtain ⟨K1, h1⟩ := breads_i l lot hb
    refine ⟨K + K1 + 1, fun k hk => ?_⟩
    have h1' := h1 k (by omega)
    obtain ⟨k, rfl⟩ : ∃ m, k = m + 1 := ⟨k - 1, by omega⟩
    have h' := h k (by omega)
    simp only at h' h1'
    simp only [impl_Reached.f, impl_uses, hv, Option.bind_some, if_true, h1']
    by_cases e : 0 < (breadsV l lot).length
    · rw [if_pos e] at h'
      rw [if_pos (by omega), if_pos (by simp)]
      simp only [impl_Reached.j0, List.nil_append]
      exact h'
    · rw [if_neg e] at h'
      rw [if_neg (by omega)]
      simp only [impl_Reached.j0]
      exact h'
end Go.Proofs.Ythdgbngnddkkiaa.Pure
