/- Lots and breads that know each other: the law. -/
import Derived.Test.YthdgbngnddkkiaaPureReach
import Derived.Test.YthdgbngnddkkiaaDraw
import Derived.Test.YthdgbngnddkkiaaPHXx8
namespace Go.Proofs.Ythdgbngnddkkiaa.Pure
set_option linter.unusedVariables false
set_option linter.unusedSimpArgs false
open Go.RowKit Go.Proofs.Ythdgbngnddkkiaa.PHX Go.Proofs.Ythdgbngnddkkiaa.Base Go.Proofs.YthdgbngnddkkiaaW.PrintWords Go.Proofs.YthdgbngnddkkiaaW.PrintLast

def Gd (u : Us) : Prop := (1 ≤ u.f0 ∧ u.f0 ≤ 6) ∧ (1 ≤ u.f1 ∧ u.f1 ≤ 7) ∧ (100 ≤ u.f2 ∧ u.f2 ≤ 299)
theorem draw_l (code : List Int) (hl : code.length ≤ 1048576) (N : Nat) (hN : N ≤ 11) : ∀ (d n k : Nat) (acc : List Us) (i h : Int), n + d = N → d < k → acc.length = n → (∀ u ∈ acc, Gd u) → Cur code i →
    ∃ L i' h', spec_l17List.l0 k acc (N : Int) (n : Int) code i h = some (L, i', h') ∧ L.length ≤ 11 ∧ ∀ u ∈ L, Gd u := by
  intro d
  induction d with
  | zero =>
    intro n k acc i h hn hk ha hg hc
    obtain ⟨k, rfl⟩ : ∃ m, k = m + 1 := ⟨k - 1, by omega⟩
    simp only [spec_l17List.l0]
    rw [if_neg (by omega)]
    exact ⟨acc, i, h, rfl, by omega, hg⟩
  | succ d ih =>
    intro n k acc i h hn hk ha hg hc
    obtain ⟨k, rfl⟩ : ∃ m, k = m + 1 := ⟨k - 1, by omega⟩
    obtain ⟨v0, i0, h0, e0, b0, b1, c0⟩ := below_is code i h 6 hl hc (by omega)
    obtain ⟨v1, i1, h1, e1, b2, b3, c1⟩ := below_is code i0 h0 7 hl c0 (by omega)
    obtain ⟨v2, i2, h2, e2, b4, b5, c2⟩ := below_is code i1 h1 200 hl c1 (by omega)
    simp only [spec_l17List.l0, e0, e1, e2, Option.bind_some]
    rw [if_pos (by omega), if_pos (by omega), wn n (by omega)]
    refine ih (n + 1) k _ i2 h2 (by omega) (by omega) (by simp [ha]) (fun u hu => ?_) c2
    rcases List.mem_append.1 hu with hu | hu
    · exact hg u hu
    · rw [List.mem_singleton] at hu
      subst hu
      unfold Gd
      simp only
      rw [w64 (by omega) (by omega), w64 (by omega) (by omega), w64 (by omega) (by omega)]
      omega
theorem draw_is (code : List Int) (hl : code.length ≤ 1048576) : ∃ L, (L.length ≤ 11 ∧ ∀ u ∈ L, Gd u) ∧ Ev (fun k => spec_DrawUses.f k code) L := by
  obtain ⟨h, e⟩ := new_is code (code.length + 1) hl (by omega)
  obtain ⟨v, i1, h1, e1, b0, b1, c1⟩ := below_is code 0 h 12 hl (cur0 code) (by omega)
  obtain ⟨N, hN⟩ : ∃ N : Nat, v = (N : Int) := ⟨v.toNat, by omega⟩
  subst hN
  obtain ⟨L, i', h', g1, g2, g3⟩ := draw_l code hl N (by omega) N 0 (N + 1) [] i1 h1 (by omega) (by omega) rfl (fun u hu => by cases hu) c1
  refine ⟨L, ⟨g2, g3⟩, code.length + N + 2, fun k hk => ?_⟩
  obtain ⟨h2, e2⟩ := new_is code k hl (by omega)
  have e3 := up_to (fun k => spec_l01New.mono code k) e (show code.length + 1 ≤ k by omega)
  have g1' := up_to (g := fun k => spec_l17List.l0 k [] (N : Int) ((0 : Nat) : Int) code i1 h1) (fun k => spec_l17List.mono_l k _ _ _ _ _ _) g1 (show N + 1 ≤ k by omega)
  simp only [spec_DrawUses.f, e3, Option.bind_some, spec_l17List.f, e1]
  have g2' : spec_l17List.l0 k [] (N : Int) 0 code i1 h1 = some (L, i', h') := g1'
  rw [g2']
  rfl
theorem lhas_l (l : List Int) (a : Int) (hb : l.length ≤ 9223372036854775800) : ∀ (d k n : Nat), n + d = l.length → d < k → laws_has.l0 k l a (n : Int) = some ((l.drop n).contains a) := by
  intro d
  induction d with
  | zero =>
    intro k n hn hk
    obtain ⟨k, rfl⟩ : ∃ m, k = m + 1 := ⟨k - 1, by omega⟩
    simp only [laws_has.l0]
    rw [if_neg (by omega), List.drop_of_length_le (by omega)]
    rfl
  | succ d ih =>
    intro k n hn hk
    obtain ⟨k, rfl⟩ : ∃ m, k = m + 1 := ⟨k - 1, by omega⟩
    have hn' : n < l.length := by omega
    simp only [laws_has.l0]
    rw [if_pos (by omega), if_pos (by omega), rd_get l n hn', wn n (by omega), ih k (n + 1) (by omega) (by omega), List.drop_eq_getElem_cons hn', List.contains_cons]
    by_cases e : l[n] = a
    · rw [if_pos e, e]; simp
    · rw [if_neg e]
      have : (a == l[n]) = false := by simp; exact fun h => e h.symm
      rw [this]; simp
theorem lhas_is (l : List Int) (a : Int) (k : Nat) (hb : l.length ≤ 50) (hk : 50 < k) : laws_has.f k l a = some (l.contains a) := by
  have := lhas_l l a (by omega) l.length k 0 (by omega) (by omega)
  simpa [laws_has.f] using this
theorem same_l (a : List Int) (hb : a.length ≤ 9223372036854775800) : ∀ (d n k : Nat), n + d = a.length → d < k → laws_sameInts.l0 k a a (n : Int) = some true := by
  intro d
  induction d with
  | zero =>
    intro n k hn hk
    obtain ⟨k, rfl⟩ : ∃ m, k = m + 1 := ⟨k - 1, by omega⟩
    simp only [laws_sameInts.l0]
    rw [if_neg (by omega)]
  | succ d ih =>
    intro n k hn hk
    obtain ⟨k, rfl⟩ : ∃ m, k = m + 1 := ⟨k - 1, by omega⟩
    simp only [laws_sameInts.l0]
    rw [if_pos (by omega), if_pos (by omega), if_pos (by omega), if_pos trivial, wn n (by omega), ih (n + 1) k (by omega) (by omega)]
theorem same_is (a : List Int) (k : Nat) (hb : a.length ≤ 50) (hk : 50 < k) : laws_sameInts.f k a a = some true := by
  unfold laws_sameInts.f
  rw [if_pos rfl]
  exact same_l a (by omega) a.length 0 k (by omega) (by omega)

/-! ### what is so of such uses -/
theorem uses_gd (l : List Us) (hl : l.length ≤ 11) (hg : ∀ u ∈ l, Gd u) : usesV l = true := by
  rw [usesV_iff]
  exact ⟨by omega, fun u hu => by have := hg u hu; unfold Gd at this; omega⟩
theorem set_self (xs : List Int) (h : SA xs) : setL xs = xs := by
  obtain ⟨h1, h2⟩ := set_plain xs
  exact sa_ext _ _ h1 h h2
theorem breads_pos (l : List Us) (x : Int) (hv : usesV l = true) : 0 < (breadsV l x).length ↔ ∃ u ∈ l, u.f0 = x := by
  rw [List.length_pos_iff_exists_mem]
  constructor
  · rintro ⟨b, hb⟩
    obtain ⟨u, hu, e, _⟩ := (mem_breadsV l hv _ _).1 hb
    exact ⟨u, hu, e⟩
  · rintro ⟨u, hu, e⟩
    exact ⟨u.f1, (mem_breadsV l hv _ _).2 ⟨u, hu, e, rfl⟩⟩
theorem knows (l : List Us) (hv : usesV l = true) (x b : Int) : (breadsV l x).contains b = (lotsV l b).contains x := by
  rw [Bool.eq_iff_iff, List.contains_iff_mem, List.contains_iff_mem, mem_breadsV l hv, mem_lotsV l hv]
theorem back (l : List Us) (hv : usesV l = true) (x y : Int) : (reachedV l x).contains y = (reachedV l y).contains x := by
  rw [Bool.eq_iff_iff, List.contains_iff_mem, List.contains_iff_mem, reachedV_mem l x hv, reachedV_mem l y hv]
  exact ⟨RL.symm, RL.symm⟩
theorem reach_self (l : List Us) (hv : usesV l = true) (x : Int) : (reachedV l x).contains x = decide (((breadsV l x).length : Int) > 0) := by
  rw [Bool.eq_iff_iff, List.contains_iff_mem, reachedV_mem l x hv, decide_eq_true_eq]
  have := breads_pos l x hv
  constructor
  · intro h
    have := this.2 h.used
    omega
  · intro h
    exact .start (this.1 (by omega))
theorem susp_same (l : List Us) (x y : Int) (h : y ∈ suspV l (breadsV l x)) : breadsV l y = breadsV l x := by
  unfold suspV at h
  split at h
  · rw [sFrom_mem] at h
    rw [h.2.2, set_self _ (breadsV_sa l x)]
  · cases h
theorem susp_self (l : List Us) (hv : usesV l = true) (x : Int) (hx : 1 ≤ x ∧ x ≤ 6) : (suspV l (breadsV l x)).contains x = decide (((breadsV l x).length : Int) > 0) := by
  rw [Bool.eq_iff_iff, List.contains_iff_mem, decide_eq_true_eq]
  have hlen := breadsV_len l x
  constructor
  · intro h
    unfold suspV at h
    split at h
    · rename_i hb
      unfold suspB at hb
      rw [Bool.and_eq_true, Bool.and_eq_true, inB_iff] at hb
      omega
    · cases h
  · intro h
    unfold suspV
    have hb : suspB l (breadsV l x) = true := by
      unfold suspB
      rw [Bool.and_eq_true, Bool.and_eq_true, inB_iff, List.all_eq_true]
      refine ⟨hv, ⟨by omega, by omega⟩, fun b hb => ?_⟩
      rw [inB_iff]
      obtain ⟨u, hu, _, e⟩ := (mem_breadsV l hv _ _).1 hb
      have := (okay_of l hv u hu).2
      omega
    rw [if_pos hb, sFrom_mem, set_self _ (breadsV_sa l x)]
    exact ⟨by omega, by omega, rfl⟩
theorem lot_reach (l : List Us) (hv : usesV l = true) (x b y : Int) (hb : b ∈ breadsV l x) (hy : y ∈ lotsV l b) : (reachedV l x).contains y = true := by
  rw [List.contains_iff_mem, reachedV_mem l x hv]
  obtain ⟨u, hu, e1, e2⟩ := (mem_breadsV l hv _ _).1 hb
  obtain ⟨v, hw, e3, e4⟩ := (mem_lotsV l hv _ _).1 hy
  subst e3
  exact .step u v (by rw [e1]; exact .start ⟨u, hu, e1⟩) hu hw (e2.trans e4.symm)
theorem used_none (l : List Us) (hg : ∀ u ∈ l, Gd u) : usedSum 50 l = 0 := by
  induction l with
  | nil => rfl
  | cons u us ih =>
    have h1 := hg u (by simp)
    unfold Gd at h1
    simp only [usedSum]
    rw [if_neg (by omega), ih (fun v hv => hg v (by simp [hv]))]
    rfl
def sumFrom (l : List Us) : Nat → Nat → Int
  | 0, _ => 0
  | d + 1, n => usedSum (n : Int) l + sumFrom l d (n + 1)
def tot : List Us → Int
  | [] => 0
  | u :: us => u.f2 + tot us
theorem sum_cons (u : Us) (us : List Us) : ∀ (d n : Nat), sumFrom (u :: us) d n = (if (n : Int) ≤ u.f0 ∧ u.f0 < ((n + d : Nat) : Int) then u.f2 else 0) + sumFrom us d n
  | 0, n => by
    simp only [sumFrom]
    rw [if_neg (by omega)]
    rfl
  | d + 1, n => by
    simp only [sumFrom, sum_cons u us d (n + 1), usedSum]
    by_cases e : u.f0 = (n : Int)
    · rw [if_pos e, if_neg (by omega), if_pos (by omega)]; omega
    · rw [if_neg e]
      by_cases q : ((n + 1 : Nat) : Int) ≤ u.f0 ∧ u.f0 < ((n + 1 + d : Nat) : Int)
      · rw [if_pos q, if_pos (by omega)]; omega
      · rw [if_neg q, if_neg (by omega)]; omega
theorem sum_tot : ∀ (l : List Us), (∀ u ∈ l, Gd u) → sumFrom l 6 1 = tot l
  | [], _ => rfl
  | u :: us, hg => by
    have h1 := hg u (by simp)
    unfold Gd at h1
    rw [sum_cons, sum_tot us (fun v hv => hg v (by simp [hv])), if_pos (by omega)]
    rfl
theorem tot_bd : ∀ (l : List Us), (∀ u ∈ l, Gd u) → 0 ≤ tot l ∧ tot l ≤ 299 * (l.length : Int)
  | [], _ => by simp [tot]
  | u :: us, hg => by
    have h1 := hg u (by simp)
    unfold Gd at h1
    have h2 := tot_bd us (fun v hv => hg v (by simp [hv]))
    simp only [tot, List.length_cons]
    omega
theorem used_gd (l : List Us) (hl : l.length ≤ 11) (hg : ∀ u ∈ l, Gd u) (x : Int) : 0 ≤ usedSum x l ∧ usedSum x l ≤ 1100000 := by
  have := usedSum_bd x l (fun u hu => by have := hg u hu; unfold Gd at this; omega)
  omega

/-! ### the law's loops -/
theorem lw_l3 (l : List Us) (x S A : Int) (bi : Int) (o : List Int) (ho : o.length ≤ 50) (hr : ∀ y ∈ o, (reachedV l x).contains y = true) (K : Nat) (h : ∀ k, K ≤ k → laws_FnLots.l2 k l x (reachedV l x) (breadsV l x) S A (wrap64 (bi + 1)) = some true) :
    ∀ (d n k : Nat), n + d = o.length → K + 1000 + d ≤ k → laws_FnLots.l3 k l x (reachedV l x) (breadsV l x) S A bi o (n : Int) = some true := by
  have hrl := reachedV_len l x
  intro d
  induction d with
  | zero =>
    intro n k hn hk
    obtain ⟨k, rfl⟩ : ∃ m, k = m + 1 := ⟨k - 1, by omega⟩
    simp only [laws_FnLots.l3]
    rw [if_neg (by omega)]
    exact h k (by omega)
  | succ d ih =>
    intro n k hn hk
    obtain ⟨k, rfl⟩ : ∃ m, k = m + 1 := ⟨k - 1, by omega⟩
    have hn' : n < o.length := by omega
    simp only [laws_FnLots.l3, rd_get o n hn']
    rw [if_pos (by omega), if_pos (by omega), lhas_is _ _ k hrl (by omega), hr _ (List.getElem_mem hn'), Option.bind_some, if_pos rfl, wn n (by omega)]
    exact ih (n + 1) k (by omega) (by omega)
section
variable (l : List Us) (hl : l.length ≤ 11) (hg : ∀ u ∈ l, Gd u) (x : Int) (hx : 1 ≤ x ∧ x ≤ 6)
include hl hg hx
theorem lw_l4 (S : Int) : ∀ (d n : Nat), n + d = (suspV l (breadsV l x)).length → Ev (fun k => laws_FnLots.l4 k l x (breadsV l x) S S (suspV l (breadsV l x)) (n : Int)) true := by
  have hv := uses_gd l hl hg
  have hsl := suspV_len l (breadsV l x)
  intro d
  induction d with
  | zero =>
    intro n hn
    refine ⟨1000, fun k hk => ?_⟩
    obtain ⟨k, rfl⟩ : ∃ m, k = m + 1 := ⟨k - 1, by omega⟩
    simp only [laws_FnLots.l4]
    rw [if_neg (by omega), if_pos trivial, lhas_is _ x k hsl (by omega), susp_self l hv x hx, impl_uses, hv, (used_both l 50 k (by omega) (by omega)).2]
    simp only [Option.bind_some, if_true, usedV, hv, used_none l hg]
    simp
  | succ d ih =>
    intro n hn
    obtain ⟨K, h⟩ := ih (n + 1) (by omega)
    have hn' : n < (suspV l (breadsV l x)).length := by omega
    obtain ⟨K1, h1⟩ := breads_i l (suspV l (breadsV l x))[n] (by omega)
    refine ⟨K + K1 + 1000, fun k hk => ?_⟩
    obtain ⟨k, rfl⟩ : ∃ m, k = m + 1 := ⟨k - 1, by omega⟩
    have h' := h k (by omega)
    have h1' := h1 k (by omega)
    simp only at h' h1'
    simp only [laws_FnLots.l4, rd_get _ n hn', h1', Option.bind_some]
    rw [if_pos (by omega), if_pos (by omega), susp_same l x _ (List.getElem_mem hn'), same_is _ k (breadsV_len l x) (by omega), Option.bind_some, if_pos rfl, wn n (by omega)]
    exact h'
theorem lw_l2 (S : Int) : ∀ (d n : Nat), n + d = (breadsV l x).length → Ev (fun k => laws_FnLots.l2 k l x (reachedV l x) (breadsV l x) S S (n : Int)) true := by
  have hv := uses_gd l hl hg
  have hbl := breadsV_len l x
  intro d
  induction d with
  | zero =>
    intro n hn
    obtain ⟨K, h⟩ := lw_l4 l hl hg x hx S (suspV l (breadsV l x)).length 0 (Nat.zero_add _)
    obtain ⟨K1, h1⟩ := susp_i l (breadsV l x) (by omega)
    refine ⟨K + K1 + 1, fun k hk => ?_⟩
    obtain ⟨k, rfl⟩ : ∃ m, k = m + 1 := ⟨k - 1, by omega⟩
    have h' := h k (by omega)
    have h1' := h1 k (by omega)
    simp only at h' h1'
    simp only [laws_FnLots.l2, h1', Option.bind_some]
    rw [if_neg (by omega)]
    exact h'
  | succ d ih =>
    intro n hn
    have hn' : n < (breadsV l x).length := by omega
    obtain ⟨K, h⟩ := ih (n + 1) (by omega)
    obtain ⟨K1, h1⟩ := lots_i l (breadsV l x)[n] (by omega)
    have hol := lotsV_len l (breadsV l x)[n]
    refine ⟨K + K1 + 2000, fun k hk => ?_⟩
    obtain ⟨k, rfl⟩ : ∃ m, k = m + 1 := ⟨k - 1, by omega⟩
    have h1' := h1 k (by omega)
    simp only at h1'
    simp only [laws_FnLots.l2, rd_get _ n hn', h1', Option.bind_some]
    rw [if_pos (by omega), if_pos (by omega)]
    refine lw_l3 l x S S (n : Int) _ hol (fun y hy => lot_reach l hv x _ y (List.getElem_mem hn') hy) K (fun k hk => ?_) _ 0 k (Nat.zero_add _) (by omega)
    rw [wn n (by omega)]
    exact h k hk
theorem lw_l1 (S : Int) (hS : S = tot l) : ∀ (d n : Nat) (A : Int), n + d = l.length → 0 ≤ A → A ≤ 299 * (n : Int) → A + tot (l.drop n) = tot l → Ev (fun k => laws_FnLots.l1 k l x (reachedV l x) (breadsV l x) S A (n : Int)) true := by
  intro d
  induction d with
  | zero =>
    intro n A hn h0 h1 hA
    rw [List.drop_of_length_le (by omega)] at hA
    have e : A = S := by rw [hS, ← hA]; simp [tot]
    subst e
    obtain ⟨K, h⟩ := lw_l2 l hl hg x hx A (breadsV l x).length 0 (Nat.zero_add _)
    refine ⟨K + 1, fun k hk => ?_⟩
    obtain ⟨k, rfl⟩ : ∃ m, k = m + 1 := ⟨k - 1, by omega⟩
    simp only [laws_FnLots.l1]
    rw [if_neg (by omega)]
    exact h k (by omega)
  | succ d ih =>
    intro n A hn h0 h1 hA
    have hn' : n < l.length := by omega
    have hgn := hg _ (List.getElem_mem hn')
    unfold Gd at hgn
    rw [List.drop_eq_getElem_cons hn'] at hA
    simp only [tot] at hA
    obtain ⟨K, h⟩ := ih (n + 1) (A + l[n].f2) (by omega) (by omega) (by omega) (by omega)
    refine ⟨K + 1, fun k hk => ?_⟩
    obtain ⟨k, rfl⟩ : ∃ m, k = m + 1 := ⟨k - 1, by omega⟩
    simp only [laws_FnLots.l1, rdIUse l n hn']
    rw [if_pos (by omega), if_pos (by omega), wn n (by omega), w64 (by omega) (by omega)]
    exact h k (by omega)
theorem lw_l0 : ∀ (d n : Nat) (S : Int), n + d = 7 → 1 ≤ n → 0 ≤ S → S ≤ 1100000 * (n : Int) → S + sumFrom l d n = tot l → Ev (fun k => laws_FnLots.l0 k l x (reachedV l x) (breadsV l x) S 0 (n : Int)) true := by
  have hv := uses_gd l hl hg
  intro d
  induction d with
  | zero =>
    intro n S hn h1 h0 hS hA
    simp only [sumFrom, Int.add_zero] at hA
    obtain ⟨K, h⟩ := lw_l1 l hl hg x hx S hA l.length 0 0 (Nat.zero_add _) (by omega) (by omega) (by rw [List.drop_zero, Int.zero_add])
    refine ⟨K + 1, fun k hk => ?_⟩
    obtain ⟨k, rfl⟩ : ∃ m, k = m + 1 := ⟨k - 1, by omega⟩
    simp only [laws_FnLots.l0]
    rw [if_neg (by omega)]
    exact h k (by omega)
  | succ d ih =>
    intro n S hn h1 h0 hS hA
    have hu := used_gd l hl hg (n : Int)
    simp only [sumFrom] at hA
    obtain ⟨K, h⟩ := ih (n + 1) (S + usedSum (n : Int) l) (by omega) (by omega) (by omega) (by omega) (by omega)
    obtain ⟨K1, h2⟩ := reach_i l (n : Int) (by omega)
    refine ⟨K + K1 + 1000, fun k hk => ?_⟩
    obtain ⟨k, rfl⟩ : ∃ m, k = m + 1 := ⟨k - 1, by omega⟩
    have h' := h k (by omega)
    have h2' := h2 k (by omega)
    simp only at h' h2'
    simp only [laws_FnLots.l0, (used_both l (n : Int) k (by omega) (by omega)).2, h2', Option.bind_some, lhas_is _ _ k (reachedV_len l x) (show 50 < k by omega), lhas_is _ _ k (reachedV_len l (n : Int)) (show 50 < k by omega)]
    rw [if_pos (by omega), back l hv x (n : Int), if_neg (by simp), wn n (by omega)]
    simp only [usedV, hv, if_true]
    rw [w64 (by omega) (by omega)]
    exact h'
end
theorem FnLots : laws_FnLots.Pure := by
  intro code hm hl hw
  by_cases hb : (code.length : Int) > 1048576
  · refine ⟨0, ?_⟩
    unfold laws_FnLots.f
    rw [big_is, decide_eq_true hb]
    rfl
  · have hcl : code.length ≤ 1048576 := by omega
    obtain ⟨l, ⟨hl11, hg⟩, K0, h0⟩ := draw_is code hcl
    obtain ⟨v0, e0, a0, a1⟩ := at_is code 0 (by omega) (by omega) hcl hw
    obtain ⟨v1, e1, a2, a3⟩ := at_is code 1 (by omega) (by omega) hcl hw
    have hv := uses_gd l hl11 hg
    have ex : wrap64 (1 + Int.tmod v0 6) = 1 + v0 % 6 := by rw [tm a0, w64 (by omega) (by omega)]
    have eb : wrap64 (1 + Int.tmod v1 7) = 1 + v1 % 7 := by rw [tm a2, w64 (by omega) (by omega)]
    obtain ⟨x, hxe⟩ : ∃ x, x = 1 + v0 % 6 := ⟨_, rfl⟩
    obtain ⟨b, hbe⟩ : ∃ b, b = 1 + v1 % 7 := ⟨_, rfl⟩
    have hx : 1 ≤ x ∧ x ≤ 6 := by omega
    rw [← hxe] at ex
    rw [← hbe] at eb
    obtain ⟨K1, h1⟩ := reach_i l x (by omega)
    obtain ⟨K2, h2⟩ := breads_i l x (by omega)
    obtain ⟨K3, h3⟩ := lots_i l b (by omega)
    obtain ⟨K4, h4⟩ := lw_l0 l hl11 hg x hx 6 1 0 rfl (by omega) (by omega) (by omega) (by rw [Int.zero_add, sum_tot l hg])
    obtain ⟨k, q0, q1, q2, q3, q4, q5⟩ : ∃ k, K0 ≤ k ∧ K1 ≤ k ∧ K2 ≤ k ∧ K3 ≤ k ∧ K4 ≤ k ∧ 1000 ≤ k := ⟨K0 + K1 + K2 + K3 + K4 + 1000, by omega, by omega, by omega, by omega, by omega, by omega⟩
    have g0 := h0 (k + 1) (by omega)
    have g1 := h1 (k + 1) (by omega)
    have g2 := h2 (k + 1) (by omega)
    have g3 := h3 (k + 1) (by omega)
    have g4 := h4 k (by omega)
    simp only at g0 g1 g2 g3 g4
    refine ⟨k + 1, ?_⟩
    unfold laws_FnLots.f
    rw [big_is, decide_eq_false hb]
    simp only [Option.bind_some, Bool.false_eq_true, if_false, g0, e0, e1, ex, eb, g1, g2, g3, lhas_is _ _ (k + 1) (breadsV_len l x) (show 50 < k + 1 by omega), lhas_is _ _ (k + 1) (lotsV_len l b) (show 50 < k + 1 by omega), lhas_is _ _ (k + 1) (reachedV_len l x) (show 50 < k + 1 by omega), knows l hv x b, bne_self_eq_false, reach_self l hv x, laws_FnLots.j0]
    exact g4
end Go.Proofs.Ythdgbngnddkkiaa.Pure
