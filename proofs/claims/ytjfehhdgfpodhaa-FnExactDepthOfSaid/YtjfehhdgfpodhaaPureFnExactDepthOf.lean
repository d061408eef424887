/- The depth of a skill: the law. -/
import Derived.Test.YtjfehhdgfpodhaaPureF2
namespace Go.Proofs.Ytjfehhdgfpodhaa.Pure
set_option linter.unusedVariables false
set_option linter.unusedSimpArgs false
open Go.RowKit Go.Proofs.Ytjfehhdgfpodhaa.PF Go.Proofs.Ytjfehhdgfpodhaa.Base Go.Proofs.YtjfehhdgfpodhaaW.PrintWords Go.Proofs.YtjfehhdgfpodhaaW.PrintLast

def fd (dep : List Int) (ys : List Int) (dv : Int) : Int := ys.foldl (fun m y => mx m (rd dep y)) dv
theorem rd_bd (dep : List Int) (B : Int) (hB : 0 ≤ B) (h : ∀ y ∈ dep, 0 ≤ y ∧ y ≤ B) (y : Int) : 0 ≤ rd dep y ∧ rd dep y ≤ B := by
  unfold rd
  rw [List.getD_eq_getElem?_getD]
  cases e : dep[y.toNat]? with
  | none => exact ⟨Int.le_refl _, hB⟩
  | some v => exact h v (List.mem_of_getElem? e)
theorem fd_bd (dep : List Int) (B : Int) (hB : 0 ≤ B) (h : ∀ y ∈ dep, 0 ≤ y ∧ y ≤ B) : ∀ (ys : List Int) (dv : Int), 0 ≤ dv → dv ≤ B → 0 ≤ fd dep ys dv ∧ fd dep ys dv ≤ B
  | [], dv, h0, h1 => ⟨h0, h1⟩
  | y :: ys, dv, h0, h1 => by
    have hy := rd_bd dep B hB h y
    refine fd_bd dep B hB h ys (mx dv (rd dep y)) ?_ ?_ <;> (unfold mx; split <;> omega)
theorem fd_cons (dep : List Int) (y : Int) (ys : List Int) (dv : Int) : fd dep (y :: ys) dv = fd dep ys (mx dv (rd dep y)) := rfl
theorem dep_spec (l : List Sk) (a : Int) (dep o : List Int) (t X : Nat) (hX : X < l.length) (ht : t < o.length) (hoX : o[t] = (X : Int)) (hlen : dep.length = l.length) (hol : o.length ≤ 1048576) (hr : ∀ y ∈ l[X].f0, 0 ≤ y ∧ y < (l.length : Int)) (hn : l[X].f0.length ≤ 1048576) (K : Nat) (R : Int) :
    ∀ (e j : Nat) (dv : Int), j + e = l[X].f0.length → spec_DepthOf.l0 K l a (dep.set X (wrap64 (fd dep (l[X].f0.drop j) dv + 1))) o ((t + 1 : Nat) : Int) = some R →
      spec_DepthOf.l1 (K + e + 1) l a dep o (t : Int) dv (j : Int) = some R := by
  intro e
  induction e with
  | zero =>
    intro j dv hj h
    rw [List.drop_of_length_le (by omega)] at h
    simp only [Nat.add_zero, spec_DepthOf.l1, rd_get o t ht, hoX, rdI l X hX]
    rw [if_pos (by omega), if_pos (by omega), if_pos (by omega), if_pos (by omega), if_neg (by omega), if_pos (by omega), wn t (by omega)]
    exact h
  | succ e ih =>
    intro j dv hj h
    have hj' : j < l[X].f0.length := by omega
    have hy := hr l[X].f0[j] (List.getElem_mem hj')
    obtain ⟨M, hM⟩ : ∃ M, M = K + e + 1 := ⟨_, rfl⟩
    rw [show K + (e + 1) + 1 = M + 1 by omega]
    simp only [spec_DepthOf.l1, rd_get o t ht, hoX, rdI l X hX, rd_get l[X].f0 j hj']
    rw [if_pos (by omega), if_pos (by omega), if_pos (by omega), if_pos (by omega), if_pos (by omega), if_pos (by omega), if_pos (by omega), if_pos (by omega), wn j (by omega)]
    subst hM
    refine ih (j + 1) _ (by omega) ?_
    rw [List.drop_eq_getElem_cons hj', fd_cons] at h
    exact h
theorem dep_impl (l : List Sk) (a : Int) (dep o : List Int) (t X : Nat) (hX : X < l.length) (hlen : dep.length = l.length) (ht : t < o.length) (hol : o.length ≤ 1048576) (hr : ∀ y ∈ l[X].f0, 0 ≤ y ∧ y < (l.length : Int)) (hn : l[X].f0.length ≤ 1048576) (hself : (X : Int) ∉ l[X].f0) (hd : ∀ y ∈ dep, 0 ≤ y ∧ y ≤ 1048576) (K : Nat) (R : Int) :
    ∀ (e j : Nat) (dv : Int), j + e = l[X].f0.length → 0 ≤ dv → dv ≤ 1048576 → impl_DepthOf.l0 K l a (dep.set X (fd dep (l[X].f0.drop j) dv + 1)) o (o.length : Int) ((t + 1 : Nat) : Int) = some R →
      impl_DepthOf.l1 (K + e + 1) l a (dep.set X (dv + 1)) (X : Int) o (o.length : Int) (t : Int) l[X].f0 (l[X].f0.length : Int) (j : Int) = some R := by
  intro e
  induction e with
  | zero =>
    intro j dv hj h0 h1 h
    rw [List.drop_of_length_le (by omega)] at h
    simp only [Nat.add_zero, impl_DepthOf.l1]
    rw [if_neg (by omega), wn t (by omega)]
    exact h
  | succ e ih =>
    intro j dv hj h0 h1 h
    have hj' : j < l[X].f0.length := by omega
    have hy := hr l[X].f0[j] (List.getElem_mem hj')
    have hne : l[X].f0[j] ≠ (X : Int) := fun q => hself (q ▸ List.getElem_mem hj')
    obtain ⟨Y, hY⟩ : ∃ Y : Nat, l[X].f0[j] = (Y : Int) := ⟨l[X].f0[j].toNat, by omega⟩
    have hb := rd_bd dep 1048576 (by omega) hd l[X].f0[j]
    have e1 : rd (dep.set X (dv + 1)) (X : Int) = dv + 1 := by rw [rd_get _ X (by rw [List.length_set]; omega)]; simp
    have e2 : rd (dep.set X (dv + 1)) l[X].f0[j] = rd dep l[X].f0[j] := by
      rw [hY, rd_get _ Y (by rw [List.length_set]; omega), rd_get dep Y (by omega), List.getElem_set_ne (by omega)]
    obtain ⟨M, hM⟩ : ∃ M, M = K + e + 1 := ⟨_, rfl⟩
    rw [show K + (e + 1) + 1 = M + 1 by omega]
    simp only [impl_DepthOf.l1, rd_get l[X].f0 j hj', e1, e2, List.length_set]
    rw [if_pos (by omega), if_pos (by omega), if_pos (by omega), if_pos (by omega), if_pos (by omega), if_pos hy.1, if_pos (by omega), wn j (by omega), Int.toNat_natCast, List.set_set, w64 (by omega) (by omega)]
    have e3 : mx (dv + 1) (rd dep l[X].f0[j] + 1) = mx dv (rd dep l[X].f0[j]) + 1 := by
      unfold mx
      by_cases q : dv < rd dep l[X].f0[j]
      · rw [if_pos q, if_pos (by omega)]
      · rw [if_neg q, if_neg (by omega)]
    rw [e3]
    subst hM
    refine ih (j + 1) _ (by omega) (by unfold mx; split <;> omega) (by unfold mx; split <;> omega) ?_
    rw [List.drop_eq_getElem_cons hj', fd_cons] at h
    exact h
theorem depth_l (l : List Sk) (a : Int) (o : List Int) (hs : l.length ≤ 1048576) (ho : ∀ x ∈ o, 0 ≤ x ∧ x < (l.length : Int)) (hol : o.length ≤ 1048576) (hr : ∀ s ∈ l, ∀ x ∈ s.f0, 0 ≤ x ∧ x < (l.length : Int)) (hn : ∀ s ∈ l, s.f0.length ≤ 1048576) (hself : ∀ (j : Nat) (hj : j < l.length), (j : Int) ∉ l[j].f0) (h0 : 0 ≤ a) (h1 : a < (l.length : Int)) :
    ∀ (d t : Nat) (dep : List Int), t + d = o.length → dep.length = l.length → (∀ y ∈ dep, 0 ≤ y ∧ y ≤ (t : Int)) → ∃ r, (∃ K, spec_DepthOf.l0 K l a dep o (t : Int) = some r) ∧ (∃ K, impl_DepthOf.l0 K l a dep o (o.length : Int) (t : Int) = some r) := by
  intro d
  induction d with
  | zero =>
    intro t dep ht hl hd
    refine ⟨rd dep a, ⟨1, ?_⟩, ⟨1, ?_⟩⟩
    · simp only [spec_DepthOf.l0]
      rw [if_neg (by omega), if_pos h0, if_pos (by omega)]
    · simp only [impl_DepthOf.l0]
      rw [if_neg (by omega), if_pos h0, if_pos (by omega)]
  | succ d ih =>
    intro t dep ht hl hd
    have ht' : t < o.length := by omega
    have hx := ho o[t] (List.getElem_mem ht')
    obtain ⟨X, hX⟩ : ∃ X : Nat, o[t] = (X : Int) := ⟨o[t].toNat, by omega⟩
    have hXl : X < l.length := by omega
    have hb := fd_bd dep t (by omega) hd l[X].f0 0 (by omega) (by omega)
    obtain ⟨r, ⟨K1, g1⟩, ⟨K2, g2⟩⟩ := ih (t + 1) (dep.set X (fd dep l[X].f0 0 + 1)) (by omega) (by rw [List.length_set]; exact hl) (fun y hy => by
      rcases List.mem_or_eq_of_mem_set hy with h | h
      · have := hd y h; omega
      · omega)
    have q1 := dep_spec l a dep o t X hXl ht' hX hl hol (hr _ (List.getElem_mem hXl)) (hn _ (List.getElem_mem hXl)) K1 r l[X].f0.length 0 0 (by omega) (by rw [List.drop_zero, w64 (by omega) (by omega)]; exact g1)
    have q2 := dep_impl l a dep o t X hXl hl ht' hol (hr _ (List.getElem_mem hXl)) (hn _ (List.getElem_mem hXl)) (hself X hXl) (fun y hy => by have := hd y hy; omega) K2 r l[X].f0.length 0 0 (by omega) (by omega) (by omega) (by rw [List.drop_zero]; exact g2)
    refine ⟨r, ⟨(K1 + l[X].f0.length + 1) + 1, ?_⟩, ⟨(K2 + l[X].f0.length + 1) + 1, ?_⟩⟩
    · simp only [spec_DepthOf.l0]
      rw [if_pos (by omega)]
      exact q1
    · simp only [impl_DepthOf.l0, rd_get o t ht', hX]
      rw [if_pos (by omega), if_pos (by omega), if_pos (by omega), if_pos (by omega), if_pos (by omega), if_pos (by omega), Int.toNat_natCast, rdI l X hXl]
      exact q2
theorem good_parts (l : List Sk) (h : Good l) : l.length ≤ 12 ∧ (∀ s ∈ l, ∀ x ∈ s.f0, 0 ≤ x ∧ x < (l.length : Int)) ∧ (∀ x ∈ learnedL l l.length [], 0 ≤ x ∧ x < (l.length : Int)) := ⟨h.1, fun s hs => (h.2.1 s hs).2.1, (built_is l _ (learned_built l l.length [] Built.nil)).2.1⟩
theorem depth_both (l : List Sk) (a : Int) (hl : l.length ≤ 1048576) (hn : ∀ s ∈ l, s.f0.length ≤ 1048576) : ∃ K r, ∀ k, K ≤ k → spec_DepthOf.f k l a = some r ∧ impl_DepthOf.f k l a = some r := by
  obtain ⟨K, r, hK, hr⟩ := ok_both l hl hn
  cases r with
  | false =>
    refine ⟨K + 1, -1, fun k hk => ?_⟩
    obtain ⟨k, rfl⟩ : ∃ m, k = m + 1 := ⟨k - 1, by omega⟩
    unfold spec_DepthOf.f impl_DepthOf.f impl_isSkill.f
    rw [(hK (k + 1) (by omega)).1, (hK (k + 1) (by omega)).2]
    simp [spec_DepthOf.j0]
  | true =>
    have hG := hr.1 rfl
    cases hi : inB 0 (wrap64 ((l.length : Int) - 1)) a with
    | false =>
      refine ⟨K + 1, -1, fun k hk => ?_⟩
      obtain ⟨k, rfl⟩ : ∃ m, k = m + 1 := ⟨k - 1, by omega⟩
      unfold spec_DepthOf.f impl_DepthOf.f impl_isSkill.f
      rw [(hK (k + 1) (by omega)).1, (hK (k + 1) (by omega)).2]
      simp [spec_DepthOf.j0, spec_in, in_is, hi]
    | true =>
      have hi' := (inB_iff _ _ _).1 hi
      rw [w64 (by omega) (by omega)] at hi'
      obtain ⟨p1, p2, p3⟩ := good_parts l hG
      obtain ⟨K0, hO⟩ := order_is l hl p2 hn
      obtain ⟨r, ⟨K1, g1⟩, ⟨K2, g2⟩⟩ := depth_l l a (learnedL l l.length []) hl p3 (by rw [hG.2.2]; exact hl) p2 hn (good_self l hG) hi'.1 (by omega) _ 0 (List.replicate l.length 0) (Nat.zero_add _) (by simp) (fun y hy => by rw [List.eq_of_mem_replicate hy]; omega)
      refine ⟨K + K0 + K1 + K2 + 1, r, fun k hk => ?_⟩
      obtain ⟨k, rfl⟩ : ∃ m, k = m + 1 := ⟨k - 1, by omega⟩
      have u0 := up_to (g := fun k => spec_l23Order.f k l) (fun k => spec_l23Order.mono l k) hO (show K0 ≤ k by omega)
      have u1 := up_to (g := fun k => spec_DepthOf.l0 k l a (List.replicate l.length 0) (learnedL l l.length []) ((0 : Nat) : Int)) (fun k => (spec_DepthOf.mono_l k).2.1 _ _ _ _ _) g1 (show K1 ≤ k by omega)
      have u2 := up_to (g := fun k => impl_DepthOf.l0 k l a (List.replicate l.length 0) (learnedL l l.length []) ((learnedL l l.length []).length : Int) ((0 : Nat) : Int)) (fun k => (impl_DepthOf.mono_l k).1 _ _ _ _ _ _) g2 (show K2 ≤ k + 1 by omega)
      constructor
      · unfold spec_DepthOf.f
        rw [(hK (k + 1) (by omega)).1]
        simp only [Option.bind_some, if_true, spec_in, hi, spec_DepthOf.j0]
        rw [if_neg (by simp), if_pos (by omega), if_pos (by omega), u0]
        exact u1
      · unfold impl_DepthOf.f impl_isSkill.f
        rw [(hK (k + 1) (by omega)).2]
        simp only [Option.bind_some, if_true, in_is, hi]
        rw [if_pos (by omega), if_pos (by omega), impl_learned.f, if_pos (by omega)]
        exact u2
theorem FnExactDepthOf : laws_FnExactDepthOf.Pure := by
  intro l a hm hl hw _
  unfold laws_FnExactDepthOf.f
  refine frame l hm hw _ (fun h1 h2 => ?_)
  obtain ⟨K, r, hK⟩ := depth_both (l.map cvSk) a (by simpa using h1) (map_short l h2)
  obtain ⟨k, hk1, hk2⟩ : ∃ k, K ≤ k ∧ l.length + 1048577 < k := ⟨K + (l.length + 1048578), by omega, by omega⟩
  refine ⟨k, by omega, ?_⟩
  rw [toSk_is l k h1 h2 hk2]
  simp only [Option.bind_some, (hK k hk1).1, (hK k hk1).2]
  rw [eqSk_is _ k (by simpa using h1) (map_short l h2) (by simpa using hk2)]
  simp
end Go.Proofs.Ytjfehhdgfpodhaa.Pure
