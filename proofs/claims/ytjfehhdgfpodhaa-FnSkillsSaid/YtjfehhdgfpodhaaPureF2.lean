/- Skills: the order in which they are learned; valid skills. -/
import Derived.Test.YtjfehhdgfpodhaaPureF1
namespace Go.Proofs.Ytjfehhdgfpodhaa.Pure
set_option linter.unusedVariables false
set_option linter.unusedSimpArgs false
open Go.RowKit Go.Proofs.Ytjfehhdgfpodhaa.PFL Go.Proofs.Ytjfehhdgfpodhaa.Base Go.Proofs.YtjfehhdgfpodhaaW.PrintWords Go.Proofs.YtjfehhdgfpodhaaW.PrintLast

theorem pig : ∀ (n : Nat) (o : List Int), o.Nodup → (∀ x ∈ o, 0 ≤ x ∧ x < (n : Int)) → o.length ≤ n
  | 0, o, _, h => by
    cases o with
    | nil => simp
    | cons x o => have := h x (by simp); omega
  | n + 1, o, hd, h => by
    by_cases hm : (n : Int) ∈ o
    · have h1 := pig n (o.erase (n : Int)) (hd.erase _) (fun x hx => by
        have h2 := (List.Nodup.mem_erase_iff hd).1 hx
        have h3 := h x h2.2
        have := h2.1
        omega)
      rw [List.length_erase_of_mem hm] at h1
      omega
    · have h1 := pig n o hd (fun x hx => by
        have h3 := h x hx
        have : x ≠ (n : Int) := fun e => hm (e ▸ hx)
        omega)
      omega
theorem pig_full (n : Nat) (o : List Int) (hd : o.Nodup) (h : ∀ x ∈ o, 0 ≤ x ∧ x < (n : Int)) (hl : o.length = n) (k : Int) (h0 : 0 ≤ k) (h1 : k < n) : k ∈ o := by
  by_cases hm : k ∈ o
  · exact hm
  · have := pig n (k :: o) (List.nodup_cons.2 ⟨hm, hd⟩) (fun x hx => by
      rcases List.mem_cons.1 hx with rfl | hx
      · exact ⟨h0, h1⟩
      · exact h x hx)
    rw [List.length_cons] at this
    omega
theorem rng_get (n j : Nat) (hj : j < (rng n).length) : (rng n)[j] = (j : Int) := by simp [rng]
/-- Lists of skills learned one after another. -/
inductive Built (l : List Sk) : List Int → Prop
  | nil : Built l []
  | step (o : List Int) (j : Nat) : Built l o → j < l.length → canNext l o j = true → Built l (o ++ [(j : Int)])
theorem can_iff (l : List Sk) (o : List Int) (j : Int) : canNext l o j = true ↔ j ∉ o ∧ ∀ x ∈ (rd_T34 l j).f0, x ∈ o := by
  unfold canNext
  rw [Bool.and_eq_true, List.all_eq_true]
  simp
theorem built_is (l : List Sk) (o : List Int) (h : Built l o) : o.Nodup ∧ (∀ x ∈ o, 0 ≤ x ∧ x < (l.length : Int)) ∧ (∀ x ∈ o, x ∉ (rd_T34 l x).f0 ∧ ∀ y ∈ (rd_T34 l x).f0, y ∈ o) := by
  induction h with
  | nil => simp
  | step o j hb hj hc ih =>
    obtain ⟨h1, h2, h3⟩ := ih
    rw [can_iff] at hc
    refine ⟨?_, ?_, ?_⟩
    · rw [List.nodup_append]
      refine ⟨h1, by simp, fun x hx y hy => ?_⟩
      rw [List.mem_singleton] at hy
      subst hy
      exact fun e => hc.1 (e ▸ hx)
    · intro x hx
      rcases List.mem_append.1 hx with hx | hx
      · exact h2 x hx
      · rw [List.mem_singleton] at hx
        omega
    · intro x hx
      rcases List.mem_append.1 hx with hx | hx
      · exact ⟨(h3 x hx).1, fun y hy => List.mem_append_left _ ((h3 x hx).2 y hy)⟩
      · rw [List.mem_singleton] at hx
        subst hx
        exact ⟨fun hm => hc.1 (hc.2 _ hm), fun y hy => List.mem_append_left _ (hc.2 y hy)⟩
/-- The least that may be learned next, or none. -/
theorem next_cases (l : List Sk) (o : List Int) : (∃ j : Nat, j < l.length ∧ canNext l o j = true ∧ (∀ i : Nat, i < j → canNext l o i = false) ∧ Hand.ixf (canNext l o) (rng l.length) = j) ∨ ((∀ i : Nat, i < l.length → canNext l o i = false) ∧ Hand.ixf (canNext l o) (rng l.length) = -1) := by
  cases h : (rng l.length).findIdx? (canNext l o) with
  | none =>
    right
    rw [List.findIdx?_eq_none_iff] at h
    have h' : ∀ i : Nat, i < l.length → canNext l o i = false := fun i hi => h _ (by simp only [rng, List.mem_map, List.mem_range]; exact ⟨i, hi, rfl⟩)
    refine ⟨h', Hand.ixf_miss _ _ fun j hj => ?_⟩
    rw [rng_get]
    exact h' j (by rw [rng_length] at hj; exact hj)
  | some i =>
    left
    rw [List.findIdx?_eq_some_iff_getElem] at h
    obtain ⟨hi, hp, hb⟩ := h
    rw [rng_get] at hp
    have hi' : i < l.length := by rw [rng_length] at hi; exact hi
    have hb' : ∀ j : Nat, j < i → canNext l o j = false := fun j hj => by
      have := hb j hj
      rw [rng_get] at this
      simpa using this
    refine ⟨i, hi', hp, hb', Hand.ixf_hit _ _ i hi (by rw [rng_get]; exact hp) fun j hj hji => ?_⟩
    rw [rng_get]
    exact hb' j hji
theorem learned_built (l : List Sk) : ∀ (m : Nat) (o : List Int), Built l o → Built l (learnedL l m o)
  | 0, o, h => h
  | m + 1, o, h => by
    simp only [learnedL]
    rcases next_cases l o with ⟨j, h1, h2, _, e⟩ | ⟨_, e⟩
    · rw [e, if_neg (by omega)]
      exact learned_built l m _ (Built.step o j h h1 h2)
    · rw [e, if_pos (by omega)]
      exact h

/-! ### the reference's loops -/
def Dn (l : List Sk) (o : List Int) (dn : List Bool) : Prop := dn.length = l.length ∧ ∀ i : Nat, i < l.length → dn[i]? = some (o.contains (i : Int))
theorem dn_rd (l : List Sk) (o : List Int) (dn : List Bool) (h : Dn l o dn) (x : Int) (h0 : 0 ≤ x) (h1 : x < (l.length : Int)) : rdOf false dn x = o.contains x := by
  have := h.2 x.toNat (by omega)
  unfold rdOf
  rw [List.getD_eq_getElem?_getD, this, show ((x.toNat : Nat) : Int) = x by omega]
  rfl
theorem dn_step (l : List Sk) (o : List Int) (dn : List Bool) (h : Dn l o dn) (j : Nat) (hj : j < l.length) : Dn l (o ++ [(j : Int)]) (dn.set j true) := by
  refine ⟨by rw [List.length_set]; exact h.1, fun i hi => ?_⟩
  have hl := h.1
  by_cases e : i = j
  · subst e
    rw [List.getElem?_set_self (by omega)]
    simp
  · rw [List.getElem?_set_ne (fun q => e q.symm), h.2 i hi]
    have : ¬ ((i : Int) = (j : Int)) := by omega
    simp [this]
theorem ord_l2 (l : List Sk) (o : List Int) (dn : List Bool) (hD : Dn l o dn) (hs : l.length ≤ 1048576) (k : Nat) (hk : k < l.length) (hr : ∀ x ∈ l[k].f0, 0 ≤ x ∧ x < (l.length : Int)) (hn : l[k].f0.length ≤ 1048576) :
    ∀ (d i : Nat) (b : Bool) (K : Nat) (R : List Int), i + d = l[k].f0.length → spec_l23Order.l1 K l o dn (if (b && (l[k].f0.drop i).all (fun x => o.contains x)) = true then (k : Int) else -1) ((k + 1 : Nat) : Int) = some R →
      spec_l23Order.l2 (K + d + 1) l o dn (-1) (k : Int) b (i : Int) = some R := by
  intro d
  induction d with
  | zero =>
    intro i b K R hi h
    rw [List.drop_of_length_le (by omega)] at h
    simp only [List.all_nil, Bool.and_true] at h
    simp only [Nat.add_zero, spec_l23Order.l2, rdI l k hk]
    rw [if_pos (by omega), if_pos (by omega), if_neg (by omega), wn k (by omega)]
    cases b with
    | true => simpa using h
    | false => simpa using h
  | succ d ih =>
    intro i b K R hi h
    have hi' : i < l[k].f0.length := by omega
    have hx := hr l[k].f0[i] (List.getElem_mem hi')
    have hl := hD.1
    obtain ⟨M, hM⟩ : ∃ M, M = K + d + 1 := ⟨_, rfl⟩
    rw [show K + (d + 1) + 1 = M + 1 by omega]
    simp only [spec_l23Order.l2, rdI l k hk]
    rw [if_pos (by omega), if_pos (by omega), if_pos (by omega), wn i (by omega)]
    rw [List.drop_eq_getElem_cons hi', List.all_cons] at h
    cases b with
    | true =>
      rw [if_pos rfl, if_pos (by omega), rd_get _ i hi', if_pos hx.1, if_pos (by omega), dn_rd l o dn hD _ hx.1 hx.2]
      subst hM
      refine ih (i + 1) _ K R (by omega) ?_
      simpa using h
    | false =>
      rw [if_neg (by simp)]
      subst hM
      refine ih (i + 1) false K R (by omega) ?_
      simpa using h
theorem ord_try (l : List Sk) (o : List Int) (dn : List Bool) (hD : Dn l o dn) (hs : l.length ≤ 1048576) (k : Nat) (hk : k < l.length) (hr : ∀ x ∈ l[k].f0, 0 ≤ x ∧ x < (l.length : Int)) (hn : l[k].f0.length ≤ 1048576) (K : Nat) (R : List Int)
    (h : spec_l23Order.l1 K l o dn (if canNext l o k = true then (k : Int) else -1) ((k + 1 : Nat) : Int) = some R) : ∃ K', spec_l23Order.l1 K' l o dn (-1) (k : Int) = some R := by
  have hl := hD.1
  refine ⟨(K + l[k].f0.length + 1) + 1 + 1, ?_⟩
  simp only [spec_l23Order.l1]
  rw [if_pos (by omega)]
  simp only [spec_l23Order.j2]
  rw [if_pos (by simp), if_pos (by omega), if_pos (by omega), dn_rd l o dn hD _ (by omega) (by omega)]
  refine ord_l2 l o dn hD hs k hk hr hn l[k].f0.length 0 _ K R (by omega) ?_
  rw [List.drop_zero]
  have e : canNext l o k = (!o.contains (k : Int) && l[k].f0.all fun x => o.contains x) := by
    unfold canNext
    rw [rdI l k hk]
  rw [← e]
  exact h
theorem ord_hit (l : List Sk) (o : List Int) (dn : List Bool) (hD : Dn l o dn) (ho : o.length ≤ 1048576) (j : Nat) (hj : j < l.length) (x6 : Int) (K : Nat) (R : List Int)
    (h : spec_l23Order.l0 K l (o ++ [(j : Int)]) (dn.set j true) = some R) : spec_l23Order.l1 (K + 2) l o dn (j : Int) x6 = some R := by
  have hl := hD.1
  have e : decide ((j : Int) < 0) = false := decide_eq_false (by omega)
  have q : spec_l23Order.j2 (K + 1) l o dn (j : Int) x6 false = some R := by
    simp only [spec_l23Order.j2]
    rw [if_neg (by simp), if_neg (by omega), if_pos (by omega), if_pos (by omega), if_pos (by omega)]
    exact h
  simp only [spec_l23Order.l1, e]
  split
  · exact q
  · exact q
theorem ord_none (l : List Sk) (o : List Int) (dn : List Bool) (hD : Dn l o dn) (hs : l.length ≤ 1048576) (hr : ∀ s ∈ l, ∀ x ∈ s.f0, 0 ≤ x ∧ x < (l.length : Int)) (hn : ∀ s ∈ l, s.f0.length ≤ 1048576) (hc : ∀ i : Nat, i < l.length → canNext l o i = false) :
    ∀ (d k : Nat), k + d = l.length → ∃ K, spec_l23Order.l1 K l o dn (-1) (k : Int) = some o := by
  intro d
  induction d with
  | zero =>
    intro k hk
    refine ⟨2, ?_⟩
    simp only [spec_l23Order.l1]
    rw [if_neg (by omega)]
    simp only [spec_l23Order.j2]
    rw [if_neg (by simp), if_pos (by omega)]
  | succ d ih =>
    intro k hk
    have hk' : k < l.length := by omega
    obtain ⟨K, h⟩ := ih (k + 1) (by omega)
    refine ord_try l o dn hD hs k hk' (hr _ (List.getElem_mem hk')) (hn _ (List.getElem_mem hk')) K o ?_
    rw [hc k hk', if_neg (by simp)]
    exact h
theorem ord_some (l : List Sk) (o : List Int) (dn : List Bool) (hD : Dn l o dn) (ho : o.length ≤ 1048576) (hs : l.length ≤ 1048576) (hr : ∀ s ∈ l, ∀ x ∈ s.f0, 0 ≤ x ∧ x < (l.length : Int)) (hn : ∀ s ∈ l, s.f0.length ≤ 1048576) (j : Nat) (hj : j < l.length) (hp : canNext l o j = true) (hc : ∀ i : Nat, i < j → canNext l o i = false) (R : List Int)
    (h : ∃ K, spec_l23Order.l0 K l (o ++ [(j : Int)]) (dn.set j true) = some R) : ∀ (d k : Nat), k + d = j → ∃ K, spec_l23Order.l1 K l o dn (-1) (k : Int) = some R := by
  obtain ⟨K0, h⟩ := h
  intro d
  induction d with
  | zero =>
    intro k hk
    obtain rfl : k = j := by omega
    refine ord_try l o dn hD hs k hj (hr _ (List.getElem_mem hj)) (hn _ (List.getElem_mem hj)) (K0 + 2) R ?_
    rw [hp, if_pos rfl]
    exact ord_hit l o dn hD ho k hj _ K0 R h
  | succ d ih =>
    intro k hk
    have hk' : k < l.length := by omega
    obtain ⟨K, h'⟩ := ih (k + 1) (by omega)
    refine ord_try l o dn hD hs k hk' (hr _ (List.getElem_mem hk')) (hn _ (List.getElem_mem hk')) K R ?_
    rw [hc k (by omega), if_neg (by simp)]
    exact h'
theorem order_l (l : List Sk) (hs : l.length ≤ 1048576) (hr : ∀ s ∈ l, ∀ x ∈ s.f0, 0 ≤ x ∧ x < (l.length : Int)) (hn : ∀ s ∈ l, s.f0.length ≤ 1048576) :
    ∀ (m : Nat) (o : List Int) (dn : List Bool), Dn l o dn → Built l o → o.length + m = l.length → ∃ K, spec_l23Order.l0 K l o dn = some (learnedL l m o) := by
  intro m
  induction m with
  | zero =>
    intro o dn hD hB hm
    have hI := built_is l o hB
    obtain ⟨K, h⟩ := ord_none l o dn hD hs hr hn (fun i hi => by
      have := pig_full l.length o hI.1 hI.2.1 (by omega) (i : Int) (by omega) (by omega)
      unfold canNext
      simp [this]) l.length 0 (by omega)
    exact ⟨K + 1, by simp only [spec_l23Order.l0, learnedL]; exact h⟩
  | succ m ih =>
    intro o dn hD hB hm
    simp only [learnedL]
    rcases next_cases l o with ⟨j, h1, h2, h3, e⟩ | ⟨h1, e⟩
    · rw [e, if_neg (by omega)]
      obtain ⟨K, h⟩ := ord_some l o dn hD (by omega) hs hr hn j h1 h2 h3 _ (ih (o ++ [(j : Int)]) (dn.set j true) (dn_step l o dn hD j h1) (Built.step o j hB h1 h2) (by simp; omega)) j 0 (by omega)
      exact ⟨K + 1, by simp only [spec_l23Order.l0]; exact h⟩
    · rw [e, if_pos (by omega)]
      obtain ⟨K, h⟩ := ord_none l o dn hD hs hr hn h1 l.length 0 (by omega)
      exact ⟨K + 1, by simp only [spec_l23Order.l0]; exact h⟩
theorem order_is (l : List Sk) (hs : l.length ≤ 1048576) (hr : ∀ s ∈ l, ∀ x ∈ s.f0, 0 ≤ x ∧ x < (l.length : Int)) (hn : ∀ s ∈ l, s.f0.length ≤ 1048576) : ∃ K, spec_l23Order.f K l = some (learnedL l l.length []) := by
  obtain ⟨K, h⟩ := order_l l hs hr hn l.length [] (List.replicate l.length false) ⟨by simp, fun i hi => by simp [hi]⟩ Built.nil (by simp)
  refine ⟨K, ?_⟩
  unfold spec_l23Order.f
  rw [if_pos (by omega), if_pos (by omega)]
  simpa using h

/-! ### valid skills -/
def okSk (n : Nat) (s : Sk) : Prop := (1 ≤ s.f1 ∧ s.f1 ≤ 100) ∧ Asc n s.f0
def Good (l : List Sk) : Prop := l.length ≤ 12 ∧ (∀ s ∈ l, okSk l.length s) ∧ (learnedL l l.length []).length = l.length
theorem good_self (l : List Sk) (h : Good l) (j : Nat) (hj : j < l.length) : (j : Int) ∉ l[j].f0 := by
  have hI := built_is l _ (learned_built l l.length [] Built.nil)
  have hm := pig_full l.length _ hI.1 hI.2.1 h.2.2 (j : Int) (by omega) (by omega)
  have := (hI.2.2 _ hm).1
  rwa [rdI l j hj] at this
theorem impl_ok_l (l : List Sk) (hs : l.length ≤ 1048576) (hn : ∀ s ∈ l, s.f0.length ≤ 1048576) : ∀ (d k n : Nat), n + d = l.length → d + 1048577 < k → (∀ j (hj : j < l.length), j < n → okSk l.length l[j]) →
    ∃ r, impl_SkillsOk.l0 k l l (l.length : Int) (n : Int) = some r ∧ (r = true ↔ Good l) := by
  intro d
  induction d with
  | zero =>
    intro k n hnn hk hp
    obtain ⟨k, rfl⟩ : ∃ m, k = m + 1 := ⟨k - 1, by omega⟩
    have ha : ∀ s ∈ l, okSk l.length s := fun s hsm => by
      obtain ⟨i, hi, rfl⟩ := List.getElem_of_mem hsm
      exact hp i hi (by omega)
    simp only [impl_SkillsOk.l0, impl_learned.f]
    rw [if_neg (by omega)]
    by_cases h12 : (l.length : Int) ≤ 12
    · rw [if_pos h12, if_pos (by omega)]
      refine ⟨_, rfl, ?_⟩
      unfold Good
      rw [beq_iff_eq]
      exact ⟨fun h => ⟨by omega, ha, by omega⟩, fun h => by have := h.2.2; omega⟩
    · rw [if_neg h12]
      refine ⟨false, rfl, fun h => (by cases h), fun h => ?_⟩
      have := h.1
      omega
  | succ d ih =>
    intro k n hnn hk hp
    obtain ⟨k, rfl⟩ : ∃ m, k = m + 1 := ⟨k - 1, by omega⟩
    have hn' : n < l.length := by omega
    have hq := hn l[n] (List.getElem_mem hn')
    obtain ⟨ra, _, ga, ha⟩ := asc_both l[n].f0 l.length k hs (by omega) (by omega)
    simp only [impl_SkillsOk.l0, rdI l n hn', in_is, Option.bind_some, ga]
    rw [if_pos (by omega), if_pos (by omega), if_pos (by omega), wn n (by omega)]
    cases hi : inB 1 100 l[n].f1 with
    | false =>
      refine ⟨false, by simp, fun h => (by cases h), fun h => ?_⟩
      rw [inB_false] at hi
      exact absurd (h.2.1 _ (List.getElem_mem hn')).1 hi
    | true =>
      cases ra with
      | false =>
        refine ⟨false, by simp, fun h => (by cases h), fun h => ?_⟩
        exact absurd (ha.2 (h.2.1 _ (List.getElem_mem hn')).2) (by simp)
      | true =>
        simp only [if_true]
        refine ih k (n + 1) (by omega) (by omega) (fun j hj hjn => ?_)
        by_cases e : j = n
        · subst e; exact ⟨(inB_iff _ _ _).1 hi, ha.1 rfl⟩
        · exact hp j hj (by omega)
theorem impl_ok (l : List Sk) (hs : l.length ≤ 1048576) (hn : ∀ s ∈ l, s.f0.length ≤ 1048576) (k : Nat) (hk : l.length + 1048577 < k) : ∃ r, impl_SkillsOk.f k l = some r ∧ (r = true ↔ Good l) :=
  impl_ok_l l hs hn l.length k 0 (by omega) hk (fun j _ h => absurd h (by omega))
theorem spec_ok_l (l : List Sk) (hs : l.length ≤ 12) (hn : ∀ s ∈ l, s.f0.length ≤ 1048576) (B : Nat) (hB : 1048577 < B) (hO : (∀ s ∈ l, okSk l.length s) → ∀ k, B ≤ k → spec_l23Order.f k l = some (learnedL l l.length [])) :
    ∀ (d k n : Nat), n + d = l.length → d + B < k → (∀ j (hj : j < l.length), j < n → okSk l.length l[j]) →
    ∃ r, spec_SkillsOk.l0 k l (n : Int) = some r ∧ (r = true ↔ Good l) := by
  intro d
  induction d with
  | zero =>
    intro k n hnn hk hp
    obtain ⟨k, rfl⟩ : ∃ m, k = m + 1 := ⟨k - 1, by omega⟩
    have ha : ∀ s ∈ l, okSk l.length s := fun s hsm => by
      obtain ⟨i, hi, rfl⟩ := List.getElem_of_mem hsm
      exact hp i hi (by omega)
    simp only [spec_SkillsOk.l0]
    rw [if_neg (by omega), hO ha k (by omega)]
    refine ⟨_, rfl, ?_⟩
    unfold Good
    rw [beq_iff_eq]
    exact ⟨fun h => ⟨hs, ha, by omega⟩, fun h => by have := h.2.2; omega⟩
  | succ d ih =>
    intro k n hnn hk hp
    obtain ⟨k, rfl⟩ : ∃ m, k = m + 1 := ⟨k - 1, by omega⟩
    have hn' : n < l.length := by omega
    have hq := hn l[n] (List.getElem_mem hn')
    obtain ⟨ra, ga, _, ha⟩ := asc_both l[n].f0 l.length k (by omega) (by omega) (by omega)
    simp only [spec_SkillsOk.l0, rdI l n hn', spec_in, Option.bind_some, ga, has_is l[n].f0 (n : Int) k (by omega) (by omega)]
    rw [if_pos (by omega), if_pos (by omega), wn n (by omega)]
    cases hi : inB 1 100 l[n].f1 with
    | false =>
      refine ⟨false, by simp, fun h => (by cases h), fun h => ?_⟩
      rw [inB_false] at hi
      exact absurd (h.2.1 _ (List.getElem_mem hn')).1 hi
    | true =>
      cases ra with
      | false =>
        refine ⟨false, by simp, fun h => (by cases h), fun h => ?_⟩
        exact absurd (ha.2 (h.2.1 _ (List.getElem_mem hn')).2) (by simp)
      | true =>
        simp only [if_true]
        cases hc : l[n].f0.contains (n : Int) with
        | true =>
          refine ⟨false, by simp, fun h => (by cases h), fun h => ?_⟩
          exact absurd (List.contains_iff_mem.1 hc) (good_self l h n hn')
        | false =>
          rw [if_neg (by simp)]
          refine ih k (n + 1) (by omega) (by omega) (fun j hj hjn => ?_)
          by_cases e : j = n
          · subst e; exact ⟨(inB_iff _ _ _).1 hi, ha.1 rfl⟩
          · exact hp j hj (by omega)
theorem spec_ok (l : List Sk) (hs : l.length ≤ 1048576) (hn : ∀ s ∈ l, s.f0.length ≤ 1048576) : ∃ k r, spec_SkillsOk.f k l = some r ∧ (r = true ↔ Good l) := by
  by_cases h12 : (l.length : Int) > 12
  · refine ⟨0, false, by unfold spec_SkillsOk.f; rw [if_pos h12], fun h => (by cases h), fun h => by have := h.1; omega⟩
  · have hO : ∃ B, (∀ s ∈ l, okSk l.length s) → ∀ k, B ≤ k → spec_l23Order.f k l = some (learnedL l l.length []) := by
      by_cases ha : ∀ s ∈ l, okSk l.length s
      · obtain ⟨K, h⟩ := order_is l hs (fun s hs => (ha s hs).2.1) hn
        exact ⟨K, fun _ k hk => up_to (fun k => spec_l23Order.mono l k) h hk⟩
      · exact ⟨0, fun h => absurd h ha⟩
    obtain ⟨B, hO⟩ := hO
    obtain ⟨r, g1, g2⟩ := spec_ok_l l (by omega) hn (B + 1048578) (by omega) (fun ha k hk => hO ha k (by omega)) l.length (l.length + (B + 1048578) + 1) 0 (by omega) (by omega) (fun j _ h => absurd h (by omega))
    refine ⟨l.length + (B + 1048578) + 1, r, ?_, g2⟩
    unfold spec_SkillsOk.f
    rw [if_neg h12]
    exact g1
/-- Both say the same of skills, in k rounds and more. -/
theorem ok_both (l : List Sk) (hs : l.length ≤ 1048576) (hn : ∀ s ∈ l, s.f0.length ≤ 1048576) : ∃ K r, (∀ k, K ≤ k → spec_SkillsOk.f k l = some r ∧ impl_SkillsOk.f k l = some r) ∧ (r = true ↔ Good l) := by
  obtain ⟨k1, r, g1, g2⟩ := spec_ok l hs hn
  obtain ⟨k2, hk2⟩ : ∃ k2, l.length + 1048577 < k2 := ⟨_, Nat.lt_succ_self _⟩
  obtain ⟨r', g1', g2'⟩ := impl_ok l hs hn k2 hk2
  have e : r = r' := Bool.eq_iff_iff.2 (g2.trans g2'.symm)
  subst e
  exact ⟨k1 + k2, r, fun k hk => ⟨up_to (fun k => spec_SkillsOk.mono l k) g1 (by omega), up_to (fun k => impl_SkillsOk.mono l k) g1' (by omega)⟩, g2⟩
/-- The laws' size check passed, a body that holds in some rounds. -/
theorem frame (l : List SkL) (hl : l.length ≤ maxLen) (hw : ∀ x ∈ l, wfS54 x) (G : Nat → Option Bool) (h : l.length ≤ 1048576 → (∀ x ∈ l, x.f0.length ≤ 1048576) → ∃ k, l.length < k ∧ G k = some true) :
    ∃ k, ((laws_szSkillS.f k l 1048576).bind fun t => if t < 0 then some true else G k) = some true := by
  by_cases hA : l.length ≤ 1048576 ∧ ∀ x ∈ l, x.f0.length ≤ 1048576
  · obtain ⟨k, hk, hG⟩ := h hA.1 hA.2
    obtain ⟨r, g, _⟩ := sz_is l k hl (fun x hx => (hw x hx).1.1) hk
    refine ⟨k, ?_⟩
    rw [g, Option.bind_some]
    split
    · rfl
    · exact hG
  · obtain ⟨r, g, hr⟩ := sz_is l (l.length + 1) hl (fun x hx => (hw x hx).1.1) (by omega)
    refine ⟨l.length + 1, ?_⟩
    rw [g, Option.bind_some, if_pos]
    rcases Int.lt_or_le r 0 with h0 | h0
    · exact h0
    · exact absurd (hr h0) hA
theorem map_short (l : List SkL) (h : ∀ x ∈ l, x.f0.length ≤ 1048576) : ∀ s ∈ l.map cvSk, s.f0.length ≤ 1048576 := by
  intro s hs
  obtain ⟨x, hx, rfl⟩ := List.mem_map.1 hs
  exact h x hx
end Go.Proofs.Ytjfehhdgfpodhaa.Pure
