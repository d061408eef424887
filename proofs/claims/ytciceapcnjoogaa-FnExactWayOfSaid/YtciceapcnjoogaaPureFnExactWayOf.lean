/- The way of trips: the law. -/
import Derived.Test.YtciceapcnjoogaaPureFnExactTripsOk
namespace Go.Proofs.Ytciceapcnjoogaa.Pure
set_option linter.unusedVariables false
set_option linter.unusedSimpArgs false
open Go.RowKit Go.Proofs.Ytciceapcnjoogaa.PDT Go.Proofs.Ytciceapcnjoogaa.Base Go.Proofs.YtciceapcnjoogaaW.PrintWords Go.Proofs.YtciceapcnjoogaaW.PrintLast

def farT (l : List Sp) : List Int → Int → Int
  | [], f => f
  | x :: xs, f => farT l xs (mx f (rd_T35 l x).f0)
def wayT (l : List Sp) : List (List Int) → Int
  | [] => 0
  | T :: Ts => 2 * farT l T 0 + wayT l Ts
theorem farT_bd (l : List Sp) (hok : ∀ s ∈ l, okSp s) : ∀ (T : List Int) (f : Int), (∀ x ∈ T, 0 ≤ x ∧ x < (l.length : Int)) → 0 ≤ f → f ≤ 1000 → 0 ≤ farT l T f ∧ farT l T f ≤ 1000
  | [], f, _, h0, h1 => ⟨h0, h1⟩
  | x :: xs, f, hin, h0, h1 => by
    have hs := shop_at l hok x (hin x (by simp)).1 (hin x (by simp)).2
    unfold okSp at hs
    exact farT_bd l hok xs _ (fun y hy => hin y (by simp [hy])) (by unfold mx; split <;> omega) (by unfold mx; split <;> omega)
theorem way_l1 (l : List Sp) (hok : ∀ s ∈ l, okSp s) (Ts : List (List Int)) (hT : Ts.length ≤ 1048576) (t : Nat) (ht : t < Ts.length) (hTl : Ts[t].length ≤ 1048576) (hin : ∀ x ∈ Ts[t], 0 ≤ x ∧ x < (l.length : Int)) (tot : Int) (h0 : 0 ≤ tot) (h1 : tot ≤ 2000 * (t : Int)) (R : Int) (K : Nat) :
    ∀ (d j : Nat) (f : Int), j + d = Ts[t].length → 0 ≤ f → f ≤ 1000 →
      ((∀ k, K ≤ k → spec_WayOf.l0 k l Ts (tot + 2 * farT l (Ts[t].drop j) f) ((t + 1 : Nat) : Int) = some R) → ∀ k, K + d + 1 ≤ k → spec_WayOf.l1 k l Ts tot (t : Int) f (j : Int) = some R) ∧
      ((∀ k, K ≤ k → impl_WayOf.l0 k l (tot + 2 * farT l (Ts[t].drop j) f) Ts (Ts.length : Int) ((t + 1 : Nat) : Int) = some R) → ∀ k, K + d + 1 ≤ k → impl_WayOf.l1 k l tot f Ts (Ts.length : Int) (t : Int) Ts[t] (Ts[t].length : Int) (j : Int) = some R) := by
  intro d
  induction d with
  | zero =>
    intro j f hj f0 f1
    rw [List.drop_of_length_le (by omega)]
    constructor
    · intro h k hk
      obtain ⟨k, rfl⟩ : ∃ m, k = m + 1 := ⟨k - 1, by omega⟩
      have h' := h k (by omega)
      simp only [farT] at h'
      simp only [spec_WayOf.l1, rdR Ts t ht]
      rw [if_pos (by omega), if_pos (by omega), if_neg (by omega), wn t (by omega), w64 (show -9223372036854775808 ≤ 2 * f by omega) (by omega), w64 (by omega) (by omega)]
      exact h'
    · intro h k hk
      obtain ⟨k, rfl⟩ : ∃ m, k = m + 1 := ⟨k - 1, by omega⟩
      have h' := h k (by omega)
      simp only [farT] at h'
      simp only [impl_WayOf.l1]
      rw [if_neg (by omega), wn t (by omega), w64 (show -9223372036854775808 ≤ 2 * f by omega) (by omega), w64 (by omega) (by omega)]
      exact h'
  | succ d ih =>
    intro j f hj f0 f1
    have hj' : j < Ts[t].length := by omega
    have hx := hin _ (List.getElem_mem hj')
    have hs := shop_at l hok _ hx.1 hx.2
    unfold okSp at hs
    obtain ⟨g1, g2⟩ := ih (j + 1) (mx f (rd_T35 l Ts[t][j]).f0) (by omega) (by unfold mx; split <;> omega) (by unfold mx; split <;> omega)
    rw [List.drop_eq_getElem_cons hj']
    simp only [farT]
    constructor
    · intro h k hk
      obtain ⟨k, rfl⟩ : ∃ m, k = m + 1 := ⟨k - 1, by omega⟩
      simp only [spec_WayOf.l1, rdR Ts t ht, rd_get _ j hj']
      rw [if_pos (by omega), if_pos (by omega), if_pos (by omega), if_pos (by omega), if_pos hx.1, if_pos hx.2, wn j (by omega)]
      exact g1 h k (by omega)
    · intro h k hk
      obtain ⟨k, rfl⟩ : ∃ m, k = m + 1 := ⟨k - 1, by omega⟩
      simp only [impl_WayOf.l1, rd_get _ j hj']
      rw [if_pos (by omega), if_pos (by omega), if_pos (by omega), if_pos hx.1, if_pos hx.2, wn j (by omega)]
      exact g2 h k (by omega)
theorem way_l0 (l : List Sp) (hok : ∀ s ∈ l, okSp s) (Ts : List (List Int)) (hT : Ts.length ≤ 1048576) (hTl : ∀ T ∈ Ts, T.length ≤ 1048576) (hin : ∀ T ∈ Ts, ∀ x ∈ T, 0 ≤ x ∧ x < (l.length : Int)) :
    ∀ (d t : Nat) (tot : Int), t + d = Ts.length → 0 ≤ tot → tot ≤ 2000 * (t : Int) → ∃ K, ∀ k, K ≤ k → spec_WayOf.l0 k l Ts tot (t : Int) = some (tot + wayT l (Ts.drop t)) ∧ impl_WayOf.l0 k l tot Ts (Ts.length : Int) (t : Int) = some (tot + wayT l (Ts.drop t)) := by
  intro d
  induction d with
  | zero =>
    intro t tot ht h0 h1
    refine ⟨1, fun k hk => ?_⟩
    obtain ⟨k, rfl⟩ : ∃ m, k = m + 1 := ⟨k - 1, by omega⟩
    rw [List.drop_of_length_le (by omega)]
    simp only [spec_WayOf.l0, impl_WayOf.l0, wayT, Int.add_zero]
    rw [if_neg (by omega), if_neg (by omega)]
    exact ⟨rfl, rfl⟩
  | succ d ih =>
    intro t tot ht h0 h1
    have ht' : t < Ts.length := by omega
    have hb := farT_bd l hok Ts[t] 0 (hin _ (List.getElem_mem ht')) (by omega) (by omega)
    obtain ⟨K, h⟩ := ih (t + 1) (tot + 2 * farT l Ts[t] 0) (by omega) (by omega) (by omega)
    obtain ⟨g1, g2⟩ := way_l1 l hok Ts hT t ht' (hTl _ (List.getElem_mem ht')) (hin _ (List.getElem_mem ht')) tot h0 h1 (tot + wayT l (Ts.drop t)) K Ts[t].length 0 0 (Nat.zero_add _) (by omega) (by omega)
    have e : tot + wayT l (Ts.drop t) = tot + 2 * farT l Ts[t] 0 + wayT l (Ts.drop (t + 1)) := by
      rw [List.drop_eq_getElem_cons ht']
      simp only [wayT]
      omega
    rw [List.drop_zero] at g1 g2
    refine ⟨K + Ts[t].length + 2, fun k hk => ?_⟩
    obtain ⟨k, rfl⟩ : ∃ m, k = m + 1 := ⟨k - 1, by omega⟩
    constructor
    · simp only [spec_WayOf.l0]
      rw [if_pos (by omega)]
      exact g1 (fun k hk => by rw [e]; exact (h k hk).1) k (by omega)
    · simp only [impl_WayOf.l0, rdR Ts t ht']
      rw [if_pos (by omega), if_pos (by omega), if_pos (by omega)]
      exact g2 (fun k hk => by rw [e]; exact (h k hk).2) k (by omega)
theorem way_both (l : List Sp) (Ts : List (List Int)) (hs : l.length ≤ 1048576) (hT : Ts.length ≤ 1048576) (hF : Ts.flatten.length ≤ 1048576) : ∃ K r, ∀ k, K ≤ k → spec_WayOf.f k l Ts = some r ∧ impl_WayOf.f k l Ts = some r := by
  have hTl : ∀ T ∈ Ts, T.length ≤ 1048576 := fun T h => by have := row_le Ts T h; omega
  obtain ⟨K, b, hK⟩ := trips_both l Ts 100 hs hT hF
  cases q : tripsB l Ts 100 b with
  | false =>
    refine ⟨K, -1, fun k hk => ?_⟩
    have := hK k hk
    rw [q] at this
    simp [spec_WayOf.f, impl_WayOf.f, this.1, this.2.1]
  | true =>
    have hb := (hK K (Nat.le_refl _)).2.2
    unfold tripsB at q
    rw [Bool.and_eq_true, Bool.and_eq_true] at q
    obtain ⟨h10, hSp⟩ := hb.1 q.1
    have hok := sp_of l hSp
    have hin := ((tripsR_iff l 100 Ts [] (by simp)).1 q.2.2).1
    obtain ⟨K2, h⟩ := way_l0 l hok Ts hT hTl (fun T hTm x hx => hin x (List.mem_flatten.2 ⟨T, hTm, hx⟩)) Ts.length 0 0 (Nat.zero_add _) (by omega) (by omega)
    refine ⟨K + K2, 0 + wayT l (Ts.drop 0), fun k hk => ?_⟩
    have h1 := hK k (by omega)
    have h2 := h k (by omega)
    have e : tripsB l Ts 100 b = true := by unfold tripsB; rw [q.1, q.2.1, q.2.2]; rfl
    rw [e] at h1
    simp only [spec_WayOf.f, impl_WayOf.f, h1.1, h1.2.1, Option.bind_some, if_true]
    exact h2
theorem FnExactWayOf : laws_FnExactWayOf.Pure := by
  intro l Ts hm hl hw hm1 hl1 hw1
  unfold laws_FnExactWayOf.f
  refine frame2 l Ts hm hm1 (fun x hx => (hw1 x hx).1) _ (fun h1 h2 h3 => ?_)
  have hTl : ∀ T ∈ Ts, T.length ≤ 1048576 := fun T h => by have := row_le Ts T h; omega
  obtain ⟨K, r, hK⟩ := way_both (l.map cvShop) Ts (by simpa using h1) h2 h3
  obtain ⟨k, hk1, hk2, hk3⟩ : ∃ k, K ≤ k ∧ l.length < k ∧ Ts.length + 1048577 < k := ⟨K + l.length + Ts.length + 1048578, by omega, by omega, by omega⟩
  refine ⟨k, by omega, ?_⟩
  rw [toShop_is l k hl hk2, toR_is Ts k h2 hTl hk3]
  simp only [Option.bind_some, (hK k hk1).1, (hK k hk1).2, if_true]
  rw [eqShop_is _ k (by simp; omega) (by simpa using hk2), eqR_is Ts k h2 hTl hk3]
  simp
end Go.Proofs.Ytciceapcnjoogaa.Pure
