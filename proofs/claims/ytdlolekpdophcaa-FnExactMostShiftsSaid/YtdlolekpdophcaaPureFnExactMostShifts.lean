/- The most shifts: the law. -/
import Derived.Test.YtdlolekpdophcaaPureMost
namespace Go.Proofs.Ytdlolekpdophcaa.Pure
set_option linter.unusedVariables false
set_option linter.unusedSimpArgs false
open Go.RowKit Go.Proofs.Ytdlolekpdophcaa.PEM Go.Proofs.Ytdlolekpdophcaa.Base Go.Proofs.YtdlolekpdophcaaW.PrintWords Go.Proofs.YtdlolekpdophcaaW.PrintLast

theorem markSh_l : ∀ (d k n : Nat) (x : List ShM) (m : Int), n + d = x.length → d < k → x.length ≤ 1048576 → 0 ≤ m → m + 2 * (d : Int) ≤ 1152921504606846976 → ∃ y, laws_markShiftS.l0 k x m (n : Int) = some (m + 2 * (d : Int), y) := by
  intro d
  induction d with
  | zero =>
    intro k n x m hn hk hx h0 h1
    obtain ⟨k, rfl⟩ : ∃ m, k = m + 1 := ⟨k - 1, by omega⟩
    refine ⟨x, ?_⟩
    simp only [laws_markShiftS.l0]
    rw [if_neg (by omega)]
    simp
  | succ d ih =>
    intro k n x m hn hk hx h0 h1
    obtain ⟨k, rfl⟩ : ∃ m, k = m + 1 := ⟨k - 1, by omega⟩
    simp only [laws_markShiftS.l0, Option.bind_some]
    rw [if_pos (by omega), if_pos (by omega), wn n (by omega), w64 (x := m + 1) (by omega) (by omega), w64 (x := m + 1 + 1) (by omega) (by omega)]
    obtain ⟨y, h⟩ := ih k (n + 1) (((x.set (n : Int).toNat (⟨m, (rd_T39 x (n : Int)).f1⟩ : ShM))).set (n : Int).toNat (⟨(rd_T39 (x.set (n : Int).toNat (⟨m, (rd_T39 x (n : Int)).f1⟩ : ShM)) (n : Int)).f0, m + 1⟩ : ShM)) (m + 1 + 1) (by simp; omega) (by omega) (by simpa using hx) (by omega) (by omega)
    refine ⟨y, ?_⟩
    rw [h]
    simp only [Option.some.injEq, Prod.mk.injEq, and_true]
    omega
theorem markSh (x : List ShM) (k : Nat) (hx : x.length ≤ 1048576) (hk : x.length < k) : ∃ m y, laws_markShiftS.f k x 1 = some (m, y) ∧ 0 ≤ m := by
  obtain ⟨y, h⟩ := markSh_l x.length k 0 x 1 (by omega) hk hx (by omega) (by omega)
  exact ⟨_, y, h, by omega⟩
theorem FnExactMostShifts : laws_FnExactMostShifts.Pure := by
  intro l a hm hl hw _
  by_cases h : l.length > 1048576
  · refine ⟨0, ?_⟩
    unfold laws_FnExactMostShifts.f
    rw [szShift_is l hm]
    simp only [Option.bind_some]
    rw [if_pos h, if_pos (by omega)]
  · obtain ⟨K, hK⟩ := most_spec (l.map cvShift) a
    have hI : impl_MostShifts.f (l.map cvShift) a = some (mostV (l.map cvShift) a) := rfl
    have hv := mostV_len (l.map cvShift) a
    generalize mostV (l.map cvShift) a = v at hK hI hv
    obtain ⟨k, hk1, hk2⟩ : ∃ k, K ≤ k ∧ l.length + 100 < k := ⟨K + l.length + 101, by omega, by omega⟩
    obtain ⟨m, y, hr, hr0⟩ := markSh (l.map cvShift) (k + 1) (by simp; omega) (by simp; omega)
    have m1 := markInts v k 1 (by omega) (by omega) (by omega) (by omega)
    have m2 := heldInts v.length k 1 (by omega) (by omega) (by omega) (by omega)
    refine ⟨k + 1, ?_⟩
    unfold laws_FnExactMostShifts.f
    rw [szShift_is l hm]
    simp only [Option.bind_some]
    rw [if_neg h, if_neg (by omega), toShift_is l (k + 1) hl (by omega)]
    simp only [Option.bind_some, hK (k + 1) (by omega), hI]
    rw [eqInts v v (k + 1) (by omega) (by omega), eqShift_is _ (k + 1) (by simp; omega) (by simp; omega), hr]
    simp only [Option.bind_some, decide_true, if_true, Bool.not_true]
    rw [if_neg (by omega)]
    simp only [laws_FnExactMostShifts.j0, toShift_is l k hl (by omega), hI, m1, m2, eqInts v v k (by omega) (by omega), Option.bind_some, decide_true, if_true, Bool.false_eq_true, if_false]
    rw [if_neg (by omega), if_neg (by omega)]
end Go.Proofs.Ytdlolekpdophcaa.Pure
