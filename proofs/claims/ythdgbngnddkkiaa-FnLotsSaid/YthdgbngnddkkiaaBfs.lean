/- What the program's walk over the lots finds: plain law. -/
import Derived.Test.YthdgbngnddkkiaaReach
namespace Go.Proofs.Ythdgbngnddkkiaa.Pure
set_option linter.unusedVariables false
set_option linter.unusedSimpArgs false
open Go.RowKit Go.Proofs.Ythdgbngnddkkiaa.PHX Go.Proofs.Ythdgbngnddkkiaa.Base Go.Proofs.YthdgbngnddkkiaaW.PrintWords Go.Proofs.YthdgbngnddkkiaaW.PrintLast

def add1 (o : List Int) (y : Int) : List Int := if o.contains y = true then o else o ++ [y]
def addAll (o : List Int) (ys : List Int) : List Int := ys.foldl add1 o
def grow (l : List Us) (o : List Int) (bs : List Int) : List Int := bs.foldl (fun o b => addAll o (lotsV l b)) o
theorem add1_mem (o : List Int) (y x : Int) : x ∈ add1 o y ↔ x ∈ o ∨ x = y := by
  unfold add1
  split
  · rename_i h
    have hm : y ∈ o := by simpa using h
    exact ⟨.inl, fun h => h.elim id (fun e => e ▸ hm)⟩
  · simp
theorem add1_nodup (o : List Int) (y : Int) (h : o.Nodup) : (add1 o y).Nodup := by
  unfold add1
  split
  · exact h
  · rename_i hc
    have hm : y ∉ o := by simpa using hc
    rw [List.nodup_append]
    refine ⟨h, by simp, fun x hx z hz => ?_⟩
    rw [List.mem_singleton] at hz
    subst hz
    exact fun e => hm (e ▸ hx)
theorem add1_pre (o : List Int) (y : Int) : o <+: add1 o y := by
  unfold add1
  split
  · exact List.prefix_refl _
  · exact List.prefix_append _ _
theorem addAll_is : ∀ (ys o : List Int), (∀ x, x ∈ addAll o ys ↔ x ∈ o ∨ x ∈ ys) ∧ (o.Nodup → (addAll o ys).Nodup) ∧ o <+: addAll o ys
  | [], o => ⟨fun x => by simp [addAll], fun h => h, List.prefix_refl _⟩
  | y :: ys, o => by
    obtain ⟨h1, h2, h3⟩ := addAll_is ys (add1 o y)
    refine ⟨fun x => ?_, fun h => h2 (add1_nodup o y h), (add1_pre o y).trans h3⟩
    show x ∈ addAll (add1 o y) ys ↔ _
    rw [h1, add1_mem, List.mem_cons, or_assoc]
theorem grow_is (l : List Us) : ∀ (bs o : List Int), (∀ x, x ∈ grow l o bs ↔ x ∈ o ∨ ∃ b ∈ bs, x ∈ lotsV l b) ∧ (o.Nodup → (grow l o bs).Nodup) ∧ o <+: grow l o bs
  | [], o => ⟨fun x => by simp [grow], fun h => h, List.prefix_refl _⟩
  | b :: bs, o => by
    obtain ⟨h1, h2, h3⟩ := grow_is l bs (addAll o (lotsV l b))
    obtain ⟨g1, g2, g3⟩ := addAll_is (lotsV l b) o
    refine ⟨fun x => ?_, fun h => h2 (g2 h), g3.trans h3⟩
    show x ∈ grow l (addAll o (lotsV l b)) bs ↔ _
    rw [h1, g1]
    simp only [List.mem_cons, exists_eq_or_imp, or_assoc]
theorem mem_breadsV (l : List Us) (hv : usesV l = true) (x b : Int) : b ∈ breadsV l x ↔ ∃ u ∈ l, u.f0 = x ∧ u.f1 = b := by
  unfold breadsV
  rw [if_pos hv, bFrom_mem]
  have hu := ((usesV_iff l).1 hv).2
  simp only [fndB, List.any_eq_true, Bool.and_eq_true, decide_eq_true_eq]
  constructor
  · rintro ⟨_, _, u, hm, e1, e2⟩
    exact ⟨u, hm, e1, e2⟩
  · rintro ⟨u, hm, e1, e2⟩
    have := hu u hm
    exact ⟨by omega, by omega, u, hm, e1, e2⟩
theorem mem_lotsV (l : List Us) (hv : usesV l = true) (x b : Int) : x ∈ lotsV l b ↔ ∃ u ∈ l, u.f0 = x ∧ u.f1 = b := by
  unfold lotsV
  rw [if_pos hv, lFrom_mem]
  have hu := ((usesV_iff l).1 hv).2
  simp only [fndL, List.any_eq_true, Bool.and_eq_true, decide_eq_true_eq]
  constructor
  · rintro ⟨_, _, u, hm, e1, e2⟩
    exact ⟨u, hm, e1, e2⟩
  · rintro ⟨u, hm, e1, e2⟩
    have := hu u hm
    exact ⟨by omega, by omega, u, hm, e1, e2⟩
theorem okay_of (l : List Us) (hv : usesV l = true) : ∀ u ∈ l, Okay u := fun u hm => by
  have := ((usesV_iff l).1 hv).2 u hm
  exact ⟨this.1, this.2.1⟩
theorem pig50 (o : List Int) (hd : o.Nodup) (h : ∀ x ∈ o, 1 ≤ x ∧ x ≤ 50) : o.length ≤ 50 := by
  have : ∀ (n : Nat) (o : List Int), o.Nodup → (∀ x ∈ o, 1 ≤ x ∧ x ≤ (n : Int)) → o.length ≤ n := by
    intro n
    induction n with
    | zero =>
      intro o _ h
      cases o with
      | nil => simp
      | cons x o => have := h x (by simp); omega
    | succ n ih =>
      intro o hd h
      by_cases hm : ((n + 1 : Nat) : Int) ∈ o
      · have h1 := ih (o.erase ((n + 1 : Nat) : Int)) (hd.erase _) (fun x hx => by
          have h2 := (List.Nodup.mem_erase_iff hd).1 hx
          have h3 := h x h2.2
          have := h2.1
          omega)
        rw [List.length_erase_of_mem hm] at h1
        omega
      · have h1 := ih o hd (fun x hx => by
          have h3 := h x hx
          have : x ≠ ((n + 1 : Nat) : Int) := fun e => hm (e ▸ hx)
          omega)
        omega
  exact this 50 o hd (fun x hx => by have := h x hx; omega)
/-- What holds of the walk's list, its first n places being done. -/
structure Walk (l : List Us) (lot : Int) (o : List Int) (n : Nat) : Prop where
  nd : o.Nodup
  rch : ∀ x ∈ o, RL l lot x
  fst : (∃ u ∈ l, u.f0 = lot) → lot ∈ o
  le : n ≤ o.length
  dn : ∀ j (hj : j < o.length), j < n → ∀ u ∈ l, ∀ v ∈ l, u.f0 = o[j] → u.f1 = v.f1 → v.f0 ∈ o
theorem Walk.bd {l : List Us} {lot : Int} {o : List Int} {n : Nat} (hv : usesV l = true) (h : Walk l lot o n) : ∀ x ∈ o, 1 ≤ x ∧ x ≤ 50 := fun x hx => by
  obtain ⟨u, hu, rfl⟩ := (h.rch x hx).used
  exact (okay_of l hv u hu).1
theorem Walk.len {l : List Us} {lot : Int} {o : List Int} {n : Nat} (hv : usesV l = true) (h : Walk l lot o n) : o.length ≤ 50 := pig50 o h.nd (h.bd hv)
theorem Walk.step {l : List Us} {lot : Int} {o : List Int} {n : Nat} (hv : usesV l = true) (h : Walk l lot o n) (hn : n < o.length) : Walk l lot (grow l o (breadsV l o[n])) (n + 1) := by
  obtain ⟨g1, g2, g3⟩ := grow_is l (breadsV l o[n]) o
  have hle := g3.length_le
  refine ⟨g2 h.nd, fun x hx => ?_, fun hf => (g1 _).2 (.inl (h.fst hf)), by omega, fun j hj hjn u hu v hv' e1 e2 => ?_⟩
  · rcases (g1 x).1 hx with hx | ⟨b, hb, hx⟩
    · exact h.rch x hx
    · obtain ⟨u, hu, e1, e2⟩ := (mem_breadsV l hv _ _).1 hb
      obtain ⟨v, hv', e3, e4⟩ := (mem_lotsV l hv _ _).1 hx
      subst e3
      exact .step u v (e1 ▸ h.rch _ (List.getElem_mem hn)) hu hv' (e2.trans e4.symm)
  · have hjo : j < o.length := by omega
    have eo : (grow l o (breadsV l o[n]))[j] = o[j] := by
      obtain ⟨t, ht⟩ := g3
      have : (o ++ t)[j]'(by rw [List.length_append]; omega) = o[j] := List.getElem_append_left hjo
      simp only [← ht]
      exact this
    rw [eo] at e1
    by_cases q : j = n
    · subst q
      exact (g1 _).2 (.inr ⟨u.f1, (mem_breadsV l hv _ _).2 ⟨u, hu, e1, rfl⟩, (mem_lotsV l hv _ _).2 ⟨v, hv', rfl, e2.symm⟩⟩)
    · exact (g1 _).2 (.inl (h.dn j hjo (by omega) u hu v hv' e1 e2))
theorem Walk.all {l : List Us} {lot : Int} {o : List Int} (h : Walk l lot o o.length) (x : Int) : x ∈ o ↔ RL l lot x := by
  refine ⟨h.rch x, fun hr => ?_⟩
  induction hr with
  | start hf => exact h.fst hf
  | step u v _ hu hv e ih =>
    obtain ⟨j, hj, e1⟩ := List.getElem_of_mem ih
    exact h.dn j hj hj u hu v hv e1.symm e
theorem Walk.init (l : List Us) (lot : Int) (hv : usesV l = true) : Walk l lot (if 0 < (breadsV l lot).length then [lot] else []) 0 := by
  have hb : 0 < (breadsV l lot).length ↔ ∃ u ∈ l, u.f0 = lot := by
    rw [List.length_pos_iff_exists_mem]
    constructor
    · rintro ⟨b, hb⟩
      obtain ⟨u, hu, e, _⟩ := (mem_breadsV l hv _ _).1 hb
      exact ⟨u, hu, e⟩
    · rintro ⟨u, hu, e⟩
      exact ⟨u.f1, (mem_breadsV l hv _ _).2 ⟨u, hu, e, rfl⟩⟩
  by_cases h : 0 < (breadsV l lot).length
  · rw [if_pos h]
    exact { nd := by simp, rch := fun x hx => (by rw [List.mem_singleton] at hx; subst hx; exact RL.start (hb.1 h)), fst := fun _ => by simp, le := Nat.zero_le _, dn := fun j _ hj => absurd hj (Nat.not_lt_zero _) }
  · rw [if_neg h]
    exact { nd := List.nodup_nil, rch := fun x hx => (by cases hx), fst := fun hf => absurd (hb.2 hf) h, le := Nat.zero_le _, dn := fun j _ hj => absurd hj (Nat.not_lt_zero _) }
end Go.Proofs.Ythdgbngnddkkiaa.Pure
