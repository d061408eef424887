/- The days for a skill: the law. -/
import Derived.Test.YtjfehhdgfpodhaaPureF2
namespace Go.Proofs.Ytjfehhdgfpodhaa.Pure
set_option linter.unusedVariables false
set_option linter.unusedSimpArgs false
open Go.RowKit Go.Proofs.Ytjfehhdgfpodhaa.PF Go.Proofs.Ytjfehhdgfpodhaa.Base Go.Proofs.YtjfehhdgfpodhaaW.PrintWords Go.Proofs.YtjfehhdgfpodhaaW.PrintLast

/-- What a skill needs, by any number of steps. -/
inductive Rch (l : List Sk) (a : Int) : Int → Prop
  | base : Rch l a a
  | step (x y : Int) : Rch l a x → y ∈ (rd_T34 l x).f0 → Rch l a y
def W (l : List Sk) (o : List Int) : Nat → Int
  | 0 => 0
  | i + 1 => W l o i + (if o.contains (i : Int) = true then (rd_T34 l (i : Int)).f1 else 0)
theorem W_congr (l : List Sk) (o o' : List Int) : ∀ (m : Nat), (∀ i : Nat, i < m → ((i : Int) ∈ o ↔ (i : Int) ∈ o')) → W l o m = W l o' m
  | 0, _ => rfl
  | m + 1, h => by
    have h1 := W_congr l o o' m (fun i hi => h i (by omega))
    have h2 : o.contains (m : Int) = o'.contains (m : Int) := by
      rw [Bool.eq_iff_iff, List.contains_iff_mem, List.contains_iff_mem]
      exact h m (by omega)
    simp only [W, h1, h2]
theorem W_add (l : List Sk) (o : List Int) (X : Nat) (hX : (X : Int) ∉ o) : ∀ (m : Nat), W l (o ++ [(X : Int)]) m = W l o m + (if X < m then (rd_T34 l (X : Int)).f1 else 0)
  | 0 => by simp [W]
  | m + 1 => by
    simp only [W, W_add l o X hX m]
    by_cases e : m = X
    · subst e
      have h1 : o.contains (m : Int) = false := by
        cases q : o.contains (m : Int) with
        | false => rfl
        | true => exact absurd (List.contains_iff_mem.1 q) hX
      have h2 : (o ++ [(m : Int)]).contains (m : Int) = true := by simp
      rw [h1, h2, if_neg (show ¬ m < m by omega), if_pos rfl, if_neg (by simp), if_pos (show m < m + 1 by omega)]
      try omega
    · have h2 : (o ++ [(X : Int)]).contains (m : Int) = o.contains (m : Int) := by
        rw [Bool.eq_iff_iff, List.contains_iff_mem, List.contains_iff_mem, List.mem_append, List.mem_singleton]
        exact ⟨fun h => h.elim id (fun q => by omega), Or.inl⟩
      rw [h2]
      by_cases q : X < m
      · rw [if_pos q, if_pos (show X < m + 1 by omega)]; omega
      · rw [if_neg q, if_neg (show ¬ X < m + 1 by omega)]; omega
theorem W_bd (l : List Sk) (o : List Int) (h : ∀ s ∈ l, 1 ≤ s.f1 ∧ s.f1 ≤ 100) : ∀ (m : Nat), m ≤ l.length → 0 ≤ W l o m ∧ W l o m ≤ 100 * (m : Int)
  | 0, _ => by simp [W]
  | m + 1, hm => by
    have h1 := W_bd l o h m (by omega)
    have h2 := h l[m] (List.getElem_mem (by omega))
    simp only [W]
    rw [rdI l m (by omega)]
    split <;> omega
def Fin (l : List Sk) (a : Int) (vs : List Int) : Prop := a ∈ vs ∧ (∀ x ∈ vs, Rch l a x) ∧ (∀ x ∈ vs, ∀ y ∈ (rd_T34 l x).f0, y ∈ vs)
theorem fin_iff (l : List Sk) (a : Int) (vs : List Int) (h : Fin l a vs) (y : Int) : y ∈ vs ↔ Rch l a y := by
  refine ⟨h.2.1 y, fun hy => ?_⟩
  induction hy with
  | base => exact h.1
  | step x y _ hm ih => exact h.2.2 x ih y hm
theorem fin_sum (l : List Sk) (a : Int) (n : Nat) : ∃ R, ∀ vs, Fin l a vs → W l vs n = R := by
  by_cases h : ∃ vs, Fin l a vs
  · obtain ⟨v0, h0⟩ := h
    exact ⟨W l v0 n, fun vs hv => W_congr l vs v0 n fun i _ => (fin_iff l a vs hv _).trans (fin_iff l a v0 h0 _).symm⟩
  · exact ⟨0, fun vs hv => absurd ⟨vs, hv⟩ h⟩
theorem rch_in (l : List Sk) (a : Int) (ha : 0 ≤ a ∧ a < (l.length : Int)) (hr : ∀ s ∈ l, ∀ x ∈ s.f0, 0 ≤ x ∧ x < (l.length : Int)) (y : Int) (h : Rch l a y) : 0 ≤ y ∧ y < (l.length : Int) := by
  induction h with
  | base => exact ha
  | step x y _ hm ih =>
    obtain ⟨X, rfl⟩ : ∃ X : Nat, x = (X : Int) := ⟨x.toNat, by omega⟩
    rw [rdI l X (by omega)] at hm
    exact hr _ (List.getElem_mem _) y hm
/-- What a skill needs is learned before it. -/
theorem built_pre (l : List Sk) (o : List Int) (h : Built l o) : ∀ (j : Nat) (hj : j < o.length), ∀ y ∈ (rd_T34 l o[j]).f0, y ∈ o.take j := by
  induction h with
  | nil => intro j hj; exact absurd hj (by simp)
  | step o m hb hm hc ih =>
    intro j hj y hy
    rw [can_iff] at hc
    rw [List.length_append, List.length_singleton] at hj
    by_cases e : j < o.length
    · rw [List.getElem_append_left e] at hy
      rw [List.take_append_of_le_length (by omega)]
      exact ih j e y hy
    · obtain rfl : j = o.length := by omega
      rw [List.getElem_append_right (Nat.le_refl _)] at hy
      simp only [Nat.sub_self, List.getElem_singleton] at hy
      rw [List.take_left']
      exact hc.2 y hy
      rfl
theorem days_spec_in (l : List Sk) (o : List Int) (s R : Int) (i X : Nat) (hX : X < l.length) (hi : i < 1048576) (hr : ∀ y ∈ l[X].f0, 0 ≤ y ∧ y < (l.length : Int)) (hn : l[X].f0.length ≤ 1048576) :
    ∀ (d j : Nat) (ms : List Int) (mk : List Bool), j + d = l[X].f0.length → Dn l ms mk → (∀ mk', Dn l (ms ++ l[X].f0.drop j) mk' → ∃ K, spec_DaysFor.l0 K l mk' o s ((i + 1 : Nat) : Int) = some R) →
      ∃ K, spec_DaysFor.l1 K l mk o s (i : Int) (X : Int) (j : Int) = some R := by
  intro d
  induction d with
  | zero =>
    intro j ms mk hj hD h
    rw [List.drop_of_length_le (by omega), List.append_nil] at h
    obtain ⟨K, h⟩ := h mk hD
    refine ⟨K + 1, ?_⟩
    simp only [spec_DaysFor.l1, rdI l X hX]
    rw [if_pos (by omega), if_pos (by omega), if_neg (by omega), wn i (by omega)]
    exact h
  | succ d ih =>
    intro j ms mk hj hD h
    have hj' : j < l[X].f0.length := by omega
    have hy := hr l[X].f0[j] (List.getElem_mem hj')
    have hl := hD.1
    obtain ⟨Y, hY⟩ : ∃ Y : Nat, l[X].f0[j] = (Y : Int) := ⟨l[X].f0[j].toNat, by omega⟩
    obtain ⟨K, q⟩ := ih (j + 1) (ms ++ [(Y : Int)]) (mk.set Y true) (by omega) (dn_step l ms mk hD Y (by omega)) (fun mk' hmk => by
      refine h mk' ?_
      rw [List.drop_eq_getElem_cons hj', hY]
      simpa using hmk)
    refine ⟨K + 1, ?_⟩
    simp only [spec_DaysFor.l1, rdI l X hX, rd_get l[X].f0 j hj', hY]
    rw [if_pos (by omega), if_pos (by omega), if_pos (by omega), if_pos (by omega), if_pos (by omega), if_pos (by omega), wn j (by omega), Int.toNat_natCast]
    exact q
theorem days_spec (l : List Sk) (a : Int) (o : List Int) (R : Int) (hs : l.length ≤ 12) (hB : Built l o) (hol : o.length = l.length) (hr : ∀ s ∈ l, ∀ x ∈ s.f0, 0 ≤ x ∧ x < (l.length : Int)) (hn : ∀ s ∈ l, s.f0.length ≤ 1048576) (hd : ∀ s ∈ l, 1 ≤ s.f1 ∧ s.f1 ≤ 100) (hR : ∀ vs, Fin l a vs → W l vs l.length = R) :
    ∀ (d i : Nat) (ms : List Int) (mk : List Bool) (vs : List Int), i + d = o.length → Dn l ms mk → a ∈ ms → (∀ y ∈ ms, Rch l a y) → (∀ x ∈ vs, x ∈ ms) → (∀ x ∈ vs, ∀ y ∈ (rd_T34 l x).f0, y ∈ ms) → (∀ y ∈ ms, y ∈ vs ∨ y ∈ o.take d) → (∀ x ∈ vs, x ∉ o.take d) →
      ∃ K, spec_DaysFor.l0 K l mk o (W l vs l.length) (i : Int) = some R := by
  have hI := built_is l o hB
  intro d
  induction d with
  | zero =>
    intro i ms mk vs hi hD ha hm hv1 hv2 hm2 hv3
    have hms : ∀ y ∈ ms, y ∈ vs := fun y hy => (hm2 y hy).elim id (fun h => by simp at h)
    refine ⟨1, ?_⟩
    simp only [spec_DaysFor.l0]
    rw [if_neg (by omega), hR vs ⟨hms a ha, fun x hx => hm x (hv1 x hx), fun x hx y hy => hms y (hv2 x hx y hy)⟩]
  | succ d ih =>
    intro i ms mk vs hi hD ha hm hv1 hv2 hm2 hv3
    have hd' : d < o.length := by omega
    have hx := hI.2.1 o[d] (List.getElem_mem hd')
    obtain ⟨X, hX⟩ : ∃ X : Nat, o[d] = (X : Int) := ⟨o[d].toNat, by omega⟩
    have hXl : X < l.length := by omega
    have hl := hD.1
    have hw : wrap64 (wrap64 ((o.length : Int) - 1) - (i : Int)) = (d : Int) := by rw [w64 (x := (o.length : Int) - 1) (by omega) (by omega), w64 (by omega) (by omega)]; omega
    have htk : o.take (d + 1) = o.take d ++ [(X : Int)] := by rw [List.take_succ_eq_append_getElem hd', hX]
    have hXt : (X : Int) ∉ o.take d := by
      have h1 : (o.take (d + 1)).Nodup := List.Nodup.sublist (List.take_sublist _ _) hI.1
      rw [htk, List.nodup_append] at h1
      exact fun q => h1.2.2 _ q _ (by simp) rfl
    have hg : rdOf false mk (X : Int) = ms.contains (X : Int) := dn_rd l ms mk hD X (by omega) (by omega)
    cases hc : ms.contains (X : Int) with
    | true =>
      have hXm : (X : Int) ∈ ms := List.contains_iff_mem.1 hc
      have hXv : (X : Int) ∉ vs := fun q => hv3 _ q (by rw [htk]; simp)
      have hbd := W_bd l vs hd l.length (Nat.le_refl _)
      have hbx := hd l[X] (List.getElem_mem hXl)
      have hW : wrap64 (W l vs l.length + l[X].f1) = W l (vs ++ [(X : Int)]) l.length := by
        rw [W_add l vs X hXv, if_pos hXl, rdI l X hXl, w64 (by omega) (by omega)]
      obtain ⟨K, q⟩ := days_spec_in l o (W l (vs ++ [(X : Int)]) l.length) R i X hXl (by omega) (hr _ (List.getElem_mem hXl)) (hn _ (List.getElem_mem hXl)) l[X].f0.length 0 ms mk (by omega) hD (fun mk' hmk => by
        rw [List.drop_zero] at hmk
        refine ih (i + 1) (ms ++ l[X].f0) mk' (vs ++ [(X : Int)]) (by omega) hmk (List.mem_append_left _ ha) ?_ ?_ ?_ ?_ ?_
        · intro y hy
          rcases List.mem_append.1 hy with h | h
          · exact hm y h
          · exact Rch.step _ y (hm _ hXm) (by rw [rdI l X hXl]; exact h)
        · intro x hx
          rcases List.mem_append.1 hx with h | h
          · exact List.mem_append_left _ (hv1 x h)
          · rw [List.mem_singleton] at h
            subst h
            exact List.mem_append_left _ hXm
        · intro x hx y hy
          rcases List.mem_append.1 hx with h | h
          · exact List.mem_append_left _ (hv2 x h y hy)
          · rw [List.mem_singleton] at h
            subst h
            rw [rdI l X hXl] at hy
            exact List.mem_append_right _ hy
        · intro y hy
          rcases List.mem_append.1 hy with h | h
          · rcases hm2 y h with h | h
            · exact Or.inl (List.mem_append_left _ h)
            · rw [htk] at h
              rcases List.mem_append.1 h with h | h
              · exact Or.inr h
              · exact Or.inl (List.mem_append_right _ h)
          · have := built_pre l o hB d hd' y (by rw [hX, rdI l X hXl]; exact h)
            exact Or.inr this
        · intro x hx
          rcases List.mem_append.1 hx with h | h
          · have := hv3 x h
            rw [htk] at this
            exact fun q => this (List.mem_append_left _ q)
          · rw [List.mem_singleton] at h
            subst h
            exact hXt)
      refine ⟨K + 1, ?_⟩
      simp only [spec_DaysFor.l0, hw, rd_get o d hd', hX, hg, hc, rdI l X hXl, hW]
      rw [if_pos (by omega), if_pos (by omega), if_pos (by omega), if_pos (by omega), if_pos (by omega), if_pos trivial, if_pos (by omega)]
      exact q
    | false =>
      have hXm : (X : Int) ∉ ms := fun q => by rw [List.contains_iff_mem.2 q] at hc; cases hc
      obtain ⟨K, q⟩ := ih (i + 1) ms mk vs (by omega) hD ha hm hv1 hv2 (fun y hy => by
        rcases hm2 y hy with h | h
        · exact Or.inl h
        · rw [htk] at h
          rcases List.mem_append.1 h with h | h
          · exact Or.inr h
          · rw [List.mem_singleton] at h
            subst h
            exact absurd hy hXm) (fun x hx q => hv3 x hx (by rw [htk]; exact List.mem_append_left _ q))
      refine ⟨K + 1, ?_⟩
      simp only [spec_DaysFor.l0, hw, rd_get o d hd', hX, hg, hc]
      rw [if_pos (by omega), if_pos (by omega), if_pos (by omega), if_pos (by omega), if_pos (by omega), if_neg (by simp), wn i (by omega)]
      exact q
/-- What the program's list holds while it grows. -/
structure Grow (l : List Sk) (a : Int) (all : List Int) : Prop where
  nd : all.Nodup
  rc : ∀ y ∈ all, Rch l a y
  ha : a ∈ all
theorem days_impl_in (l : List Sk) (a : Int) (R s : Int) (at_ X : Nat) (hs : l.length ≤ 12) (hX : X < l.length) (hr : ∀ s ∈ l, ∀ x ∈ s.f0, 0 ≤ x ∧ x < (l.length : Int)) (hn : ∀ s ∈ l, s.f0.length ≤ 1048576) (ha : 0 ≤ a ∧ a < (l.length : Int))
    (hout : ∀ all, Grow l a all → at_ < all.length → (∀ x ∈ all.take at_, ∀ y ∈ (rd_T34 l x).f0, y ∈ all) → all[at_]? = some (X : Int) → (∀ y ∈ l[X].f0, y ∈ all) → s = W l (all.take (at_ + 1)) l.length → ∃ K, impl_DaysFor.l0 K l all s ((at_ + 1 : Nat) : Int) = some R) :
    ∀ (d j : Nat) (all : List Int), j + d = l[X].f0.length → Grow l a all → at_ < all.length → (∀ x ∈ all.take at_, ∀ y ∈ (rd_T34 l x).f0, y ∈ all) → all[at_]? = some (X : Int) → (∀ y ∈ l[X].f0.take j, y ∈ all) → s = W l (all.take (at_ + 1)) l.length →
      ∃ K, impl_DaysFor.l1 K l all s (at_ : Int) l[X].f0 (l[X].f0.length : Int) (j : Int) = some R := by
  intro d
  induction d with
  | zero =>
    intro j all hj hG hat hcl hXa htk hsum
    have hlen := pig l.length all hG.nd (fun x hx => rch_in l a ha hr x (hG.rc x hx))
    obtain ⟨K, h⟩ := hout all hG hat hcl hXa (fun y hy => htk y (by rw [List.take_of_length_le (by omega)]; exact hy)) hsum
    refine ⟨K + 1, ?_⟩
    simp only [impl_DaysFor.l1]
    rw [if_neg (by omega), wn at_ (by omega)]
    exact h
  | succ d ih =>
    intro j all hj hG hat hcl hXa htk hsum
    have hlen := pig l.length all hG.nd (fun x hx => rch_in l a ha hr x (hG.rc x hx))
    have hj' : j < l[X].f0.length := by omega
    have hjn := hn l[X] (List.getElem_mem hX)
    have htk1 : ∀ (al : List Int), (∀ y ∈ l[X].f0.take j, y ∈ al) → l[X].f0[j] ∈ al → ∀ y ∈ l[X].f0.take (j + 1), y ∈ al := fun al h1 h2 y hy => by
      rw [List.take_succ_eq_append_getElem hj'] at hy
      rcases List.mem_append.1 hy with h | h
      · exact h1 y h
      · rw [List.mem_singleton] at h
        rw [h]; exact h2
    cases hc : all.contains l[X].f0[j] with
    | true =>
      obtain ⟨K, q⟩ := ih (j + 1) all (by omega) hG hat hcl hXa (htk1 all htk (List.contains_iff_mem.1 hc)) hsum
      refine ⟨K + 1, ?_⟩
      simp only [impl_DaysFor.l1, rd_get l[X].f0 j hj', slices_Contains_int_int.f, hc, Option.bind_some]
      rw [if_pos (by omega), if_pos (by omega), if_pos (by omega), if_pos trivial, wn j (by omega)]
      exact q
    | false =>
      have hnot : l[X].f0[j] ∉ all := fun q => by rw [List.contains_iff_mem.2 q] at hc; cases hc
      have hXm : (X : Int) ∈ all := List.mem_of_getElem? hXa
      have hG' : Grow l a (all ++ [l[X].f0[j]]) := ⟨by
          rw [List.nodup_append]
          exact ⟨hG.nd, by simp, fun x hx y hy => by rw [List.mem_singleton] at hy; rw [hy]; exact fun e => hnot (e ▸ hx)⟩, fun y hy => by
          rcases List.mem_append.1 hy with h | h
          · exact hG.rc y h
          · rw [List.mem_singleton] at h
            exact Rch.step _ y (hG.rc _ hXm) (by rw [rdI l X hX, h]; exact List.getElem_mem hj'), List.mem_append_left _ hG.ha⟩
      obtain ⟨K, q⟩ := ih (j + 1) (all ++ [l[X].f0[j]]) (by omega) hG' (by rw [List.length_append]; omega) (fun x hx y hy => by
          rw [List.take_append_of_le_length (by omega)] at hx
          exact List.mem_append_left _ (hcl x hx y hy)) (by rw [List.getElem?_append_left hat]; exact hXa) (htk1 _ (fun y hy => List.mem_append_left _ (htk y hy)) (by simp)) (by rw [List.take_append_of_le_length (by omega)]; exact hsum)
      refine ⟨K + 1, ?_⟩
      simp only [impl_DaysFor.l1, rd_get l[X].f0 j hj', slices_Contains_int_int.f, hc, Option.bind_some]
      rw [if_pos (by omega), if_pos (by omega), if_pos (by omega), if_neg (by simp), if_pos (by omega), wn j (by omega)]
      exact q
theorem days_impl (l : List Sk) (a : Int) (R : Int) (hs : l.length ≤ 12) (ha : 0 ≤ a ∧ a < (l.length : Int)) (hr : ∀ s ∈ l, ∀ x ∈ s.f0, 0 ≤ x ∧ x < (l.length : Int)) (hn : ∀ s ∈ l, s.f0.length ≤ 1048576) (hd : ∀ s ∈ l, 1 ≤ s.f1 ∧ s.f1 ≤ 100) (hR : ∀ vs, Fin l a vs → W l vs l.length = R) :
    ∀ (d at_ : Nat) (all : List Int), at_ + d = l.length → Grow l a all → at_ ≤ all.length → (∀ x ∈ all.take at_, ∀ y ∈ (rd_T34 l x).f0, y ∈ all) → ∃ K, impl_DaysFor.l0 K l all (W l (all.take at_) l.length) (at_ : Int) = some R := by
  have hend : ∀ (at_ : Nat) (all : List Int), Grow l a all → at_ = all.length → (∀ x ∈ all.take at_, ∀ y ∈ (rd_T34 l x).f0, y ∈ all) → ∃ K, impl_DaysFor.l0 K l all (W l (all.take at_) l.length) (at_ : Int) = some R := by
    intro at_ all hG hat hcl
    rw [List.take_of_length_le (by omega)] at hcl ⊢
    refine ⟨1, ?_⟩
    simp only [impl_DaysFor.l0]
    rw [if_neg (by omega), hR all ⟨hG.ha, hG.rc, hcl⟩]
  intro d
  induction d with
  | zero =>
    intro at_ all hat hG hle hcl
    have hlen := pig l.length all hG.nd (fun x hx => rch_in l a ha hr x (hG.rc x hx))
    exact hend at_ all hG (by omega) hcl
  | succ d ih =>
    intro at_ all hat hG hle hcl
    by_cases e : at_ = all.length
    · exact hend at_ all hG e hcl
    · have hat' : at_ < all.length := by omega
      have hx := rch_in l a ha hr _ (hG.rc all[at_] (List.getElem_mem hat'))
      obtain ⟨X, hX⟩ : ∃ X : Nat, all[at_] = (X : Int) := ⟨all[at_].toNat, by omega⟩
      have hXl : X < l.length := by omega
      have hbd := W_bd l (all.take at_) hd l.length (Nat.le_refl _)
      have hbx := hd l[X] (List.getElem_mem hXl)
      have htk : ∀ (al : List Int) (h : at_ < al.length), al[at_]? = some (X : Int) → al.take (at_ + 1) = al.take at_ ++ [(X : Int)] := fun al h h2 => by
        rw [List.take_succ_eq_append_getElem h]
        rw [List.getElem?_eq_getElem h] at h2
        rw [Option.some.inj h2]
      have hXs : all[at_]? = some (X : Int) := by rw [List.getElem?_eq_getElem hat', hX]
      have hXt : (X : Int) ∉ all.take at_ := by
        have h1 : (all.take (at_ + 1)).Nodup := List.Nodup.sublist (List.take_sublist _ _) hG.nd
        rw [htk all hat' hXs, List.nodup_append] at h1
        exact fun q => h1.2.2 _ q _ (by simp) rfl
      have hW : wrap64 (W l (all.take at_) l.length + l[X].f1) = W l (all.take (at_ + 1)) l.length := by
        rw [htk all hat' hXs, W_add l _ X hXt, if_pos hXl, rdI l X hXl, w64 (by omega) (by omega)]
      obtain ⟨K, q⟩ := days_impl_in l a R (W l (all.take (at_ + 1)) l.length) at_ X hs hXl hr hn ha (fun al hGa hata hcla hXa hnd hsum => by
        rw [hsum]
        refine ih (at_ + 1) al (by omega) hGa (by omega) (fun x hx y hy => ?_)
        rw [htk al hata hXa] at hx
        rcases List.mem_append.1 hx with h | h
        · exact hcla x h y hy
        · rw [List.mem_singleton] at h
          subst h
          rw [rdI l X hXl] at hy
          exact hnd y hy) l[X].f0.length 0 all (by omega) hG hat' hcl hXs (fun y hy => by simp at hy) rfl
      refine ⟨K + 1, ?_⟩
      simp only [impl_DaysFor.l0, rd_get all at_ hat', hX, rdI l X hXl, hW]
      rw [if_pos (by omega), if_pos (by omega), if_pos (by omega), if_pos (by omega)]
      exact q
theorem days_both (l : List Sk) (a : Int) (hl : l.length ≤ 1048576) (hn : ∀ s ∈ l, s.f0.length ≤ 1048576) : ∃ K r, ∀ k, K ≤ k → spec_DaysFor.f k l a = some r ∧ impl_DaysFor.f k l a = some r := by
  obtain ⟨K, r, hK, hr⟩ := ok_both l hl hn
  cases r with
  | false =>
    refine ⟨K + 1, -1, fun k hk => ?_⟩
    obtain ⟨k, rfl⟩ : ∃ m, k = m + 1 := ⟨k - 1, by omega⟩
    unfold spec_DaysFor.f impl_DaysFor.f impl_isSkill.f
    rw [(hK (k + 1) (by omega)).1, (hK (k + 1) (by omega)).2]
    simp [spec_DaysFor.j0]
  | true =>
    have hG := hr.1 rfl
    cases hi : inB 0 (wrap64 ((l.length : Int) - 1)) a with
    | false =>
      refine ⟨K + 1, -1, fun k hk => ?_⟩
      obtain ⟨k, rfl⟩ : ∃ m, k = m + 1 := ⟨k - 1, by omega⟩
      unfold spec_DaysFor.f impl_DaysFor.f impl_isSkill.f
      rw [(hK (k + 1) (by omega)).1, (hK (k + 1) (by omega)).2]
      simp [spec_DaysFor.j0, spec_in, in_is, hi]
    | true =>
      have hi' := (inB_iff _ _ _).1 hi
      rw [w64 (by omega) (by omega)] at hi'
      have ha : 0 ≤ a ∧ a < (l.length : Int) := by omega
      obtain ⟨A, rfl⟩ : ∃ A : Nat, a = (A : Int) := ⟨a.toNat, by omega⟩
      have p2 : ∀ s ∈ l, ∀ x ∈ s.f0, 0 ≤ x ∧ x < (l.length : Int) := fun s hs => (hG.2.1 s hs).2.1
      have p4 : ∀ s ∈ l, 1 ≤ s.f1 ∧ s.f1 ≤ 100 := fun s hs => (hG.2.1 s hs).1
      have hB := learned_built l l.length [] Built.nil
      obtain ⟨K0, hO⟩ := order_is l hl p2 hn
      obtain ⟨R, hR⟩ := fin_sum l (A : Int) l.length
      have hW0 : W l [] l.length = 0 := by
        have : ∀ m, W l [] m = 0 := fun m => by
          induction m with
          | zero => rfl
          | succ m ih => simp [W, ih]
        exact this _
      have hD0 : Dn l [(A : Int)] ((List.replicate l.length false).set A true) := by
        have := dn_step l [] (List.replicate l.length false) ⟨by simp, fun i hi => by simp [hi]⟩ A (by omega)
        simpa using this
      have hfull : ∀ y, 0 ≤ y ∧ y < (l.length : Int) → y ∈ learnedL l l.length [] := fun y hy => by
        have hI := built_is l _ hB
        exact pig_full l.length _ hI.1 hI.2.1 hG.2.2 y hy.1 hy.2
      obtain ⟨K1, g1⟩ := days_spec l (A : Int) (learnedL l l.length []) R hG.1 hB hG.2.2 p2 hn p4 hR (learnedL l l.length []).length 0 [(A : Int)] _ [] (Nat.zero_add _) hD0 (by simp) (fun y hy => by rw [List.mem_singleton] at hy; rw [hy]; exact Rch.base) (fun x hx => by simp at hx) (fun x hx => by simp at hx) (fun y hy => by
        rw [List.mem_singleton] at hy
        rw [hy, List.take_of_length_le (Nat.le_refl _)]
        exact Or.inr (hfull _ ha)) (fun x hx => by simp at hx)
      obtain ⟨K2, g2⟩ := days_impl l (A : Int) R hG.1 ha p2 hn p4 hR l.length 0 [(A : Int)] (Nat.zero_add _) ⟨by simp, fun y hy => by rw [List.mem_singleton] at hy; rw [hy]; exact Rch.base, by simp⟩ (Nat.zero_le _) (fun x hx => by simp at hx)
      rw [hW0] at g1
      rw [List.take_zero, hW0] at g2
      refine ⟨K + K0 + K1 + K2 + 1, R, fun k hk => ?_⟩
      obtain ⟨k, rfl⟩ : ∃ m, k = m + 1 := ⟨k - 1, by omega⟩
      have u0 := up_to (g := fun k => spec_l23Order.f k l) (fun k => spec_l23Order.mono l k) hO (show K0 ≤ k by omega)
      have u1 := up_to (g := fun k => spec_DaysFor.l0 k l ((List.replicate l.length false).set A true) (learnedL l l.length []) 0 ((0 : Nat) : Int)) (fun k => (spec_DaysFor.mono_l k).2.1 _ _ _ _ _) g1 (show K1 ≤ k by omega)
      have u2 := up_to (g := fun k => impl_DaysFor.l0 k l [(A : Int)] 0 ((0 : Nat) : Int)) (fun k => (impl_DaysFor.mono_l k).1 _ _ _ _) g2 (show K2 ≤ k + 1 by omega)
      constructor
      · unfold spec_DaysFor.f
        rw [(hK (k + 1) (by omega)).1]
        simp only [Option.bind_some, if_true, spec_in, hi, spec_DaysFor.j0, List.length_replicate]
        rw [if_neg (by simp), if_pos (by omega), if_pos (by omega), if_pos (by omega), if_pos (by omega), u0]
        exact u1
      · unfold impl_DaysFor.f impl_isSkill.f
        rw [(hK (k + 1) (by omega)).2]
        simp only [Option.bind_some, if_true, in_is, hi]
        exact u2
theorem FnExactDaysFor : laws_FnExactDaysFor.Pure := by
  intro l a hm hl hw _
  unfold laws_FnExactDaysFor.f
  refine frame l hm hw _ (fun h1 h2 => ?_)
  obtain ⟨K, r, hK⟩ := days_both (l.map cvSk) a (by simpa using h1) (map_short l h2)
  obtain ⟨k, hk1, hk2⟩ : ∃ k, K ≤ k ∧ l.length + 1048577 < k := ⟨K + (l.length + 1048578), by omega, by omega⟩
  refine ⟨k, by omega, ?_⟩
  rw [toSk_is l k h1 h2 hk2]
  simp only [Option.bind_some, (hK k hk1).1, (hK k hk1).2]
  rw [eqSk_is _ k (by simpa using h1) (map_short l h2) (by simpa using hk2)]
  simp
end Go.Proofs.Ytjfehhdgfpodhaa.Pure
