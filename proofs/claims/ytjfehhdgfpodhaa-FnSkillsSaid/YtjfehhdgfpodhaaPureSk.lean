/- Skills: the days and the depth, the program's side alone. -/
import Derived.Test.YtjfehhdgfpodhaaPureF3
import Derived.Test.YtjfehhdgfpodhaaPFLx4
namespace Go.Proofs.Ytjfehhdgfpodhaa.Pure
set_option linter.unusedVariables false
set_option linter.unusedSimpArgs false
open Go.RowKit Go.Proofs.Ytjfehhdgfpodhaa.PFL Go.Proofs.Ytjfehhdgfpodhaa.Base Go.Proofs.YtjfehhdgfpodhaaW.PrintWords Go.Proofs.YtjfehhdgfpodhaaW.PrintLast

/-- What a skill needs, by any number of steps. -/
inductive Rch (l : List Sk) (a : Int) : Int → Prop
  | base : Rch l a a
  | step (x y : Int) : Rch l a x → y ∈ (rd_T34 l x).f0 → Rch l a y
def W (l : List Sk) (o : List Int) : Nat → Int
  | 0 => 0
  | i + 1 => W l o i + (if o.contains (i : Int) = true then (rd_T34 l (i : Int)).f1 else 0)
theorem W_congr (l : List Sk) (o o' : List Int) : ∀ (m : Nat), (∀ i : Nat, i < m → ((i : Int) ∈ o ↔ (i : Int) ∈ o')) → W l o m = W l o' m
  | 0, _ => rfl
  | m + 1, h => by
    have h1 := W_congr l o o' m (fun i hi => h i (by omega))
    have h2 : o.contains (m : Int) = o'.contains (m : Int) := by
      rw [Bool.eq_iff_iff, List.contains_iff_mem, List.contains_iff_mem]
      exact h m (by omega)
    simp only [W, h1, h2]
theorem W_add (l : List Sk) (o : List Int) (X : Nat) (hX : (X : Int) ∉ o) : ∀ (m : Nat), W l (o ++ [(X : Int)]) m = W l o m + (if X < m then (rd_T34 l (X : Int)).f1 else 0)
  | 0 => by simp [W]
  | m + 1 => by
    simp only [W, W_add l o X hX m]
    by_cases e : m = X
    · subst e
      have h1 : o.contains (m : Int) = false := by
        cases q : o.contains (m : Int) with
        | false => rfl
        | true => exact absurd (List.contains_iff_mem.1 q) hX
      have h2 : (o ++ [(m : Int)]).contains (m : Int) = true := by simp
      rw [h1, h2, if_neg (show ¬ m < m by omega), if_pos rfl, if_neg (by simp), if_pos (show m < m + 1 by omega)]
      try omega
    · have h2 : (o ++ [(X : Int)]).contains (m : Int) = o.contains (m : Int) := by
        rw [Bool.eq_iff_iff, List.contains_iff_mem, List.contains_iff_mem, List.mem_append, List.mem_singleton]
        exact ⟨fun h => h.elim id (fun q => by omega), Or.inl⟩
      rw [h2]
      by_cases q : X < m
      · rw [if_pos q, if_pos (show X < m + 1 by omega)]; omega
      · rw [if_neg q, if_neg (show ¬ X < m + 1 by omega)]; omega
theorem W_bd (l : List Sk) (o : List Int) (h : ∀ s ∈ l, 1 ≤ s.f1 ∧ s.f1 ≤ 100) : ∀ (m : Nat), m ≤ l.length → 0 ≤ W l o m ∧ W l o m ≤ 100 * (m : Int)
  | 0, _ => by simp [W]
  | m + 1, hm => by
    have h1 := W_bd l o h m (by omega)
    have h2 := h l[m] (List.getElem_mem (by omega))
    simp only [W]
    rw [rdI l m (by omega)]
    split <;> omega
def Fin (l : List Sk) (a : Int) (vs : List Int) : Prop := a ∈ vs ∧ (∀ x ∈ vs, Rch l a x) ∧ (∀ x ∈ vs, ∀ y ∈ (rd_T34 l x).f0, y ∈ vs)
theorem fin_iff (l : List Sk) (a : Int) (vs : List Int) (h : Fin l a vs) (y : Int) : y ∈ vs ↔ Rch l a y := by
  refine ⟨h.2.1 y, fun hy => ?_⟩
  induction hy with
  | base => exact h.1
  | step x y _ hm ih => exact h.2.2 x ih y hm
theorem fin_sum (l : List Sk) (a : Int) (n : Nat) : ∃ R, ∀ vs, Fin l a vs → W l vs n = R := by
  by_cases h : ∃ vs, Fin l a vs
  · obtain ⟨v0, h0⟩ := h
    exact ⟨W l v0 n, fun vs hv => W_congr l vs v0 n fun i _ => (fin_iff l a vs hv _).trans (fin_iff l a v0 h0 _).symm⟩
  · exact ⟨0, fun vs hv => absurd ⟨vs, hv⟩ h⟩
theorem rch_in (l : List Sk) (a : Int) (ha : 0 ≤ a ∧ a < (l.length : Int)) (hr : ∀ s ∈ l, ∀ x ∈ s.f0, 0 ≤ x ∧ x < (l.length : Int)) (y : Int) (h : Rch l a y) : 0 ≤ y ∧ y < (l.length : Int) := by
  induction h with
  | base => exact ha
  | step x y _ hm ih =>
    obtain ⟨X, rfl⟩ : ∃ X : Nat, x = (X : Int) := ⟨x.toNat, by omega⟩
    rw [rdI l X (by omega)] at hm
    exact hr _ (List.getElem_mem _) y hm
/-- What the program's list holds while it grows. -/
structure Grow (l : List Sk) (a : Int) (all : List Int) : Prop where
  nd : all.Nodup
  rc : ∀ y ∈ all, Rch l a y
  ha : a ∈ all
theorem days_impl_in (l : List Sk) (a : Int) (R s : Int) (at_ X : Nat) (hs : l.length ≤ 12) (hX : X < l.length) (hr : ∀ s ∈ l, ∀ x ∈ s.f0, 0 ≤ x ∧ x < (l.length : Int)) (hn : ∀ s ∈ l, s.f0.length ≤ 1048576) (ha : 0 ≤ a ∧ a < (l.length : Int))
    (hout : ∀ all, Grow l a all → at_ < all.length → (∀ x ∈ all.take at_, ∀ y ∈ (rd_T34 l x).f0, y ∈ all) → all[at_]? = some (X : Int) → (∀ y ∈ l[X].f0, y ∈ all) → s = W l (all.take (at_ + 1)) l.length → ∃ K, impl_DaysFor.l0 K l all s ((at_ + 1 : Nat) : Int) = some R) :
    ∀ (d j : Nat) (all : List Int), j + d = l[X].f0.length → Grow l a all → at_ < all.length → (∀ x ∈ all.take at_, ∀ y ∈ (rd_T34 l x).f0, y ∈ all) → all[at_]? = some (X : Int) → (∀ y ∈ l[X].f0.take j, y ∈ all) → s = W l (all.take (at_ + 1)) l.length →
      ∃ K, impl_DaysFor.l1 K l all s (at_ : Int) l[X].f0 (l[X].f0.length : Int) (j : Int) = some R := by
  intro d
  induction d with
  | zero =>
    intro j all hj hG hat hcl hXa htk hsum
    have hlen := pig l.length all hG.nd (fun x hx => rch_in l a ha hr x (hG.rc x hx))
    obtain ⟨K, h⟩ := hout all hG hat hcl hXa (fun y hy => htk y (by rw [List.take_of_length_le (by omega)]; exact hy)) hsum
    refine ⟨K + 1, ?_⟩
    simp only [impl_DaysFor.l1]
    rw [if_neg (by omega), wn at_ (by omega)]
    exact h
  | succ d ih =>
    intro j all hj hG hat hcl hXa htk hsum
    have hlen := pig l.length all hG.nd (fun x hx => rch_in l a ha hr x (hG.rc x hx))
    have hj' : j < l[X].f0.length := by omega
    have hjn := hn l[X] (List.getElem_mem hX)
    have htk1 : ∀ (al : List Int), (∀ y ∈ l[X].f0.take j, y ∈ al) → l[X].f0[j] ∈ al → ∀ y ∈ l[X].f0.take (j + 1), y ∈ al := fun al h1 h2 y hy => by
      rw [List.take_succ_eq_append_getElem hj'] at hy
      rcases List.mem_append.1 hy with h | h
      · exact h1 y h
      · rw [List.mem_singleton] at h
        rw [h]; exact h2
    cases hc : all.contains l[X].f0[j] with
    | true =>
      obtain ⟨K, q⟩ := ih (j + 1) all (by omega) hG hat hcl hXa (htk1 all htk (List.contains_iff_mem.1 hc)) hsum
      refine ⟨K + 1, ?_⟩
      simp only [impl_DaysFor.l1, rd_get l[X].f0 j hj', slices_Contains_int_int.f, hc, Option.bind_some]
      rw [if_pos (by omega), if_pos (by omega), if_pos (by omega), if_pos trivial, wn j (by omega)]
      exact q
    | false =>
      have hnot : l[X].f0[j] ∉ all := fun q => by rw [List.contains_iff_mem.2 q] at hc; cases hc
      have hXm : (X : Int) ∈ all := List.mem_of_getElem? hXa
      have hG' : Grow l a (all ++ [l[X].f0[j]]) := ⟨by
          rw [List.nodup_append]
          exact ⟨hG.nd, by simp, fun x hx y hy => by rw [List.mem_singleton] at hy; rw [hy]; exact fun e => hnot (e ▸ hx)⟩, fun y hy => by
          rcases List.mem_append.1 hy with h | h
          · exact hG.rc y h
          · rw [List.mem_singleton] at h
            exact Rch.step _ y (hG.rc _ hXm) (by rw [rdI l X hX, h]; exact List.getElem_mem hj'), List.mem_append_left _ hG.ha⟩
      obtain ⟨K, q⟩ := ih (j + 1) (all ++ [l[X].f0[j]]) (by omega) hG' (by rw [List.length_append]; omega) (fun x hx y hy => by
          rw [List.take_append_of_le_length (by omega)] at hx
          exact List.mem_append_left _ (hcl x hx y hy)) (by rw [List.getElem?_append_left hat]; exact hXa) (htk1 _ (fun y hy => List.mem_append_left _ (htk y hy)) (by simp)) (by rw [List.take_append_of_le_length (by omega)]; exact hsum)
      refine ⟨K + 1, ?_⟩
      simp only [impl_DaysFor.l1, rd_get l[X].f0 j hj', slices_Contains_int_int.f, hc, Option.bind_some]
      rw [if_pos (by omega), if_pos (by omega), if_pos (by omega), if_neg (by simp), if_pos (by omega), wn j (by omega)]
      exact q
theorem days_impl (l : List Sk) (a : Int) (R : Int) (hs : l.length ≤ 12) (ha : 0 ≤ a ∧ a < (l.length : Int)) (hr : ∀ s ∈ l, ∀ x ∈ s.f0, 0 ≤ x ∧ x < (l.length : Int)) (hn : ∀ s ∈ l, s.f0.length ≤ 1048576) (hd : ∀ s ∈ l, 1 ≤ s.f1 ∧ s.f1 ≤ 100) (hR : ∀ vs, Fin l a vs → W l vs l.length = R) :
    ∀ (d at_ : Nat) (all : List Int), at_ + d = l.length → Grow l a all → at_ ≤ all.length → (∀ x ∈ all.take at_, ∀ y ∈ (rd_T34 l x).f0, y ∈ all) → ∃ K, impl_DaysFor.l0 K l all (W l (all.take at_) l.length) (at_ : Int) = some R := by
  have hend : ∀ (at_ : Nat) (all : List Int), Grow l a all → at_ = all.length → (∀ x ∈ all.take at_, ∀ y ∈ (rd_T34 l x).f0, y ∈ all) → ∃ K, impl_DaysFor.l0 K l all (W l (all.take at_) l.length) (at_ : Int) = some R := by
    intro at_ all hG hat hcl
    rw [List.take_of_length_le (by omega)] at hcl ⊢
    refine ⟨1, ?_⟩
    simp only [impl_DaysFor.l0]
    rw [if_neg (by omega), hR all ⟨hG.ha, hG.rc, hcl⟩]
  intro d
  induction d with
  | zero =>
    intro at_ all hat hG hle hcl
    have hlen := pig l.length all hG.nd (fun x hx => rch_in l a ha hr x (hG.rc x hx))
    exact hend at_ all hG (by omega) hcl
  | succ d ih =>
    intro at_ all hat hG hle hcl
    by_cases e : at_ = all.length
    · exact hend at_ all hG e hcl
    · have hat' : at_ < all.length := by omega
      have hx := rch_in l a ha hr _ (hG.rc all[at_] (List.getElem_mem hat'))
      obtain ⟨X, hX⟩ : ∃ X : Nat, all[at_] = (X : Int) := ⟨all[at_].toNat, by omega⟩
      have hXl : X < l.length := by omega
      have hbd := W_bd l (all.take at_) hd l.length (Nat.le_refl _)
      have hbx := hd l[X] (List.getElem_mem hXl)
      have htk : ∀ (al : List Int) (h : at_ < al.length), al[at_]? = some (X : Int) → al.take (at_ + 1) = al.take at_ ++ [(X : Int)] := fun al h h2 => by
        rw [List.take_succ_eq_append_getElem h]
        rw [List.getElem?_eq_getElem h] at h2
        rw [Option.some.inj h2]
      have hXs : all[at_]? = some (X : Int) := by rw [List.getElem?_eq_getElem hat', hX]
      have hXt : (X : Int) ∉ all.take at_ := by
        have h1 : (all.take (at_ + 1)).Nodup := List.Nodup.sublist (List.take_sublist _ _) hG.nd
        rw [htk all hat' hXs, List.nodup_append] at h1
        exact fun q => h1.2.2 _ q _ (by simp) rfl
      have hW : wrap64 (W l (all.take at_) l.length + l[X].f1) = W l (all.take (at_ + 1)) l.length := by
        rw [htk all hat' hXs, W_add l _ X hXt, if_pos hXl, rdI l X hXl, w64 (by omega) (by omega)]
      obtain ⟨K, q⟩ := days_impl_in l a R (W l (all.take (at_ + 1)) l.length) at_ X hs hXl hr hn ha (fun al hGa hata hcla hXa hnd hsum => by
        rw [hsum]
        refine ih (at_ + 1) al (by omega) hGa (by omega) (fun x hx y hy => ?_)
        rw [htk al hata hXa] at hx
        rcases List.mem_append.1 hx with h | h
        · exact hcla x h y hy
        · rw [List.mem_singleton] at h
          subst h
          rw [rdI l X hXl] at hy
          exact hnd y hy) l[X].f0.length 0 all (by omega) hG hat' hcl hXs (fun y hy => by simp at hy) rfl
      refine ⟨K + 1, ?_⟩
      simp only [impl_DaysFor.l0, rd_get all at_ hat', hX, rdI l X hXl, hW]
      rw [if_pos (by omega), if_pos (by omega), if_pos (by omega), if_pos (by omega)]
      exact q
def fd (dep : List Int) (ys : List Int) (dv : Int) : Int := ys.foldl (fun m y => mx m (rd dep y)) dv
theorem rd_bd (dep : List Int) (B : Int) (hB : 0 ≤ B) (h : ∀ y ∈ dep, 0 ≤ y ∧ y ≤ B) (y : Int) : 0 ≤ rd dep y ∧ rd dep y ≤ B := by
  unfold rd
  rw [List.getD_eq_getElem?_getD]
  cases e : dep[y.toNat]? with
  | none => exact ⟨Int.le_refl _, hB⟩
  | some v => exact h v (List.mem_of_getElem? e)
theorem fd_bd (dep : List Int) (B : Int) (hB : 0 ≤ B) (h : ∀ y ∈ dep, 0 ≤ y ∧ y ≤ B) : ∀ (ys : List Int) (dv : Int), 0 ≤ dv → dv ≤ B → 0 ≤ fd dep ys dv ∧ fd dep ys dv ≤ B
  | [], dv, h0, h1 => ⟨h0, h1⟩
  | y :: ys, dv, h0, h1 => by
    have hy := rd_bd dep B hB h y
    refine fd_bd dep B hB h ys (mx dv (rd dep y)) ?_ ?_ <;> (unfold mx; split <;> omega)
theorem fd_cons (dep : List Int) (y : Int) (ys : List Int) (dv : Int) : fd dep (y :: ys) dv = fd dep ys (mx dv (rd dep y)) := rfl
theorem dep_impl (l : List Sk) (a : Int) (dep o : List Int) (t X : Nat) (hX : X < l.length) (hlen : dep.length = l.length) (ht : t < o.length) (hol : o.length ≤ 1048576) (hr : ∀ y ∈ l[X].f0, 0 ≤ y ∧ y < (l.length : Int)) (hn : l[X].f0.length ≤ 1048576) (hself : (X : Int) ∉ l[X].f0) (hd : ∀ y ∈ dep, 0 ≤ y ∧ y ≤ 1048576) (K : Nat) (R : Int) :
    ∀ (e j : Nat) (dv : Int), j + e = l[X].f0.length → 0 ≤ dv → dv ≤ 1048576 → impl_DepthOf.l0 K l a (dep.set X (fd dep (l[X].f0.drop j) dv + 1)) o (o.length : Int) ((t + 1 : Nat) : Int) = some R →
      impl_DepthOf.l1 (K + e + 1) l a (dep.set X (dv + 1)) (X : Int) o (o.length : Int) (t : Int) l[X].f0 (l[X].f0.length : Int) (j : Int) = some R := by
  intro e
  induction e with
  | zero =>
    intro j dv hj h0 h1 h
    rw [List.drop_of_length_le (by omega)] at h
    simp only [Nat.add_zero, impl_DepthOf.l1]
    rw [if_neg (by omega), wn t (by omega)]
    exact h
  | succ e ih =>
    intro j dv hj h0 h1 h
    have hj' : j < l[X].f0.length := by omega
    have hy := hr l[X].f0[j] (List.getElem_mem hj')
    have hne : l[X].f0[j] ≠ (X : Int) := fun q => hself (q ▸ List.getElem_mem hj')
    obtain ⟨Y, hY⟩ : ∃ Y : Nat, l[X].f0[j] = (Y : Int) := ⟨l[X].f0[j].toNat, by omega⟩
    have hb := rd_bd dep 1048576 (by omega) hd l[X].f0[j]
    have e1 : rd (dep.set X (dv + 1)) (X : Int) = dv + 1 := by rw [rd_get _ X (by rw [List.length_set]; omega)]; simp
    have e2 : rd (dep.set X (dv + 1)) l[X].f0[j] = rd dep l[X].f0[j] := by
      rw [hY, rd_get _ Y (by rw [List.length_set]; omega), rd_get dep Y (by omega), List.getElem_set_ne (by omega)]
    obtain ⟨M, hM⟩ : ∃ M, M = K + e + 1 := ⟨_, rfl⟩
    rw [show K + (e + 1) + 1 = M + 1 by omega]
    simp only [impl_DepthOf.l1, rd_get l[X].f0 j hj', e1, e2, List.length_set]
    rw [if_pos (by omega), if_pos (by omega), if_pos (by omega), if_pos (by omega), if_pos (by omega), if_pos hy.1, if_pos (by omega), wn j (by omega), Int.toNat_natCast, List.set_set, w64 (by omega) (by omega)]
    have e3 : mx (dv + 1) (rd dep l[X].f0[j] + 1) = mx dv (rd dep l[X].f0[j]) + 1 := by
      unfold mx
      by_cases q : dv < rd dep l[X].f0[j]
      · rw [if_pos q, if_pos (by omega)]
      · rw [if_neg q, if_neg (by omega)]
    rw [e3]
    subst hM
    refine ih (j + 1) _ (by omega) (by unfold mx; split <;> omega) (by unfold mx; split <;> omega) ?_
    rw [List.drop_eq_getElem_cons hj', fd_cons] at h
    exact h
end Go.Proofs.Ytjfehhdgfpodhaa.Pure
