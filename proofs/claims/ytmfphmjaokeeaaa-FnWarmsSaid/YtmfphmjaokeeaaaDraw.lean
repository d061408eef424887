/- The reader of draws: what a number drawn below n is. -/
import Derived.Test.YtmfphmjaokeeaaaBase
import Derived.Laws.BitsLemmas
import Derived.Test.YtmfphmjaokeeaaaPAx
namespace Go.Proofs.Ytmfphmjaokeeaaa.Pure
set_option linter.unusedVariables false
set_option linter.unusedSimpArgs false
open Go.RowKit Go.Proofs.Ytmfphmjaokeeaaa.PA Go.Proofs.Ytmfphmjaokeeaaa.Base Go.Proofs.YtmfphmjaokeeaaaW.PrintWords Go.Proofs.YtmfphmjaokeeaaaW.PrintLast

theorem and255 (x : Int) : 0 ≤ Go.bits .and .i64 x 255 ∧ Go.bits .and .i64 x 255 ≤ 255 := by
  have h : (BitVec.ofInt 64 x &&& BitVec.ofInt 64 255).toNat ≤ 255 := by
    rw [BitVec.toNat_and]
    have : (BitVec.ofInt 64 255).toNat = 255 := by decide
    rw [this]
    exact Nat.and_le_right
  have e : Go.bits .and .i64 x 255 = IntKind.wrap .i64 (((BitVec.ofInt 64 x &&& BitVec.ofInt 64 255).toNat : Nat) : Int) := rfl
  rw [e, IntKind.wrap_i64]
  omega

theorem big_is (l : List Int) : laws_big.f l = some (decide ((l.length : Int) > 1048576)) := rfl
theorem at_is (l : List Int) (i : Int) (hi : 0 ≤ i) (hi2 : i ≤ 1000) (hl : l.length ≤ 1048576) (hw : ∀ x ∈ l, (Lit.int .u8 x).wf = true) : ∃ v, laws_at.f l i = some v ∧ 0 ≤ v ∧ v ≤ 255 := by
  unfold laws_at.f
  by_cases h : (l.length : Int) = 0
  · exact ⟨0, by rw [if_pos h], by omega, by omega⟩
  · have e : wrap64 (wrap64 (i * 5) + 1) = i * 5 + 1 := by unfold wrap64; omega
    rw [if_neg h, e, tm (by omega)]
    have h0 : 0 ≤ (i * 5 + 1) % (l.length : Int) := Int.emod_nonneg _ h
    have h1 : (i * 5 + 1) % (l.length : Int) < l.length := Int.emod_lt_of_pos _ (by omega)
    have hm := wfu8 (hw _ (rd_mem l _ h0 h1))
    rw [if_pos h0, if_pos h1]
    exact ⟨_, rfl, by rw [w64 (by omega) (by omega)]; exact hm.1, by rw [w64 (by omega) (by omega)]; exact hm.2⟩

end Go.Proofs.Ytmfphmjaokeeaaa.Pure
