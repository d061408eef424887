/- The reader of draws: what a number drawn below n is. -/
import Derived.Test.YtdlolekpdophcaaBase
import Derived.Laws.BitsLemmas
import Derived.Test.YtdlolekpdophcaaPESx6
namespace Go.Proofs.Ytdlolekpdophcaa.Pure
set_option linter.unusedVariables false
set_option linter.unusedSimpArgs false
open Go.RowKit Go.Proofs.Ytdlolekpdophcaa.PES Go.Proofs.Ytdlolekpdophcaa.Base Go.Proofs.YtdlolekpdophcaaW.PrintWords Go.Proofs.YtdlolekpdophcaaW.PrintLast

theorem and255 (x : Int) : 0 ≤ Go.bits .and .i64 x 255 ∧ Go.bits .and .i64 x 255 ≤ 255 := by
  have h : (BitVec.ofInt 64 x &&& BitVec.ofInt 64 255).toNat ≤ 255 := by
    rw [BitVec.toNat_and]
    have : (BitVec.ofInt 64 255).toNat = 255 := by decide
    rw [this]
    exact Nat.and_le_right
  have e : Go.bits .and .i64 x 255 = IntKind.wrap .i64 (((BitVec.ofInt 64 x &&& BitVec.ofInt 64 255).toNat : Nat) : Int) := rfl
  rw [e, IntKind.wrap_i64]
  omega

theorem big_is (l : List Int) : laws_big.f l = some (decide ((l.length : Int) > 1048576)) := rfl
theorem at_is (l : List Int) (i : Int) (hi : 0 ≤ i) (hi2 : i ≤ 1000) (hl : l.length ≤ 1048576) (hw : ∀ x ∈ l, (Lit.int .u8 x).wf = true) : ∃ v, laws_at.f l i = some v ∧ 0 ≤ v ∧ v ≤ 255 := by
  unfold laws_at.f
  by_cases h : (l.length : Int) = 0
  · exact ⟨0, by rw [if_pos h], by omega, by omega⟩
  · have e : wrap64 (wrap64 (i * 5) + 1) = i * 5 + 1 := by unfold wrap64; omega
    rw [if_neg h, e, tm (by omega)]
    have h0 : 0 ≤ (i * 5 + 1) % (l.length : Int) := Int.emod_nonneg _ h
    have h1 : (i * 5 + 1) % (l.length : Int) < l.length := Int.emod_lt_of_pos _ (by omega)
    have hm := wfu8 (hw _ (rd_mem l _ h0 h1))
    rw [if_pos h0, if_pos h1]
    exact ⟨_, rfl, by rw [w64 (by omega) (by omega)]; exact hm.1, by rw [w64 (by omega) (by omega)]; exact hm.2⟩

/-- The reader's state: where it stands in the bytes. -/
def Cur (l : List Int) (i : Int) : Prop := 0 ≤ i ∧ i ≤ l.length
theorem byte_is (l : List Int) (i h : Int) (hl : l.length ≤ 1048576) (hc : Cur l i) : ∃ b i' h', spec_l01Byte.f l i h = some (b, i', h') ∧ 0 ≤ b ∧ b ≤ 255 ∧ Cur l i' := by
  unfold spec_l01Byte.f
  obtain ⟨h0, h1⟩ := hc
  by_cases hlt : i < (l.length : Int)
  · rw [if_pos hlt, if_pos h0]
    refine ⟨_, _, _, rfl, (and255 _).1, (and255 _).2, ?_⟩
    rw [w64 (by omega) (by omega)]
    exact ⟨by omega, by omega⟩
  · rw [if_neg hlt]
    exact ⟨_, _, _, rfl, (and255 _).1, (and255 _).2, h0, h1⟩
theorem below_is (l : List Int) (i h n : Int) (hl : l.length ≤ 1048576) (hc : Cur l i) (hn : 0 < n) : ∃ v i' h', spec_l01Below.f l i h n = some (v, i', h') ∧ 0 ≤ v ∧ v < n ∧ Cur l i' := by
  unfold spec_l01Below.f
  rw [if_neg (by omega)]
  by_cases hb : n ≤ 256
  · rw [if_pos hb]
    obtain ⟨b, i', h', e, b0, b1, hc'⟩ := byte_is l i h hl hc
    rw [e]
    simp only [Option.bind_some]
    rw [if_neg (by omega), tm b0]
    exact ⟨_, _, _, rfl, Int.emod_nonneg _ (by omega), Int.emod_lt_of_pos _ hn, hc'⟩
  · rw [if_neg hb]
    obtain ⟨b, i1, h1, e1, b0, b1, hc1⟩ := byte_is l i h hl hc
    obtain ⟨c, i2, h2, e2, c0, c1, hc2⟩ := byte_is l i1 h1 hl hc1
    obtain ⟨d, i3, h3, e3, d0, d1, hc3⟩ := byte_is l i2 h2 hl hc2
    obtain ⟨f, i4, h4, e4, f0, f1, hc4⟩ := byte_is l i3 h3 hl hc3
    rw [e1]
    simp only [Option.bind_some, e2, e3, e4]
    have e : wrap64 (wrap64 (wrap64 (wrap64 (b * 16777216) + wrap64 (c * 65536)) + wrap64 (d * 256)) + f) = b * 16777216 + c * 65536 + d * 256 + f := by unfold wrap64; omega
    rw [if_neg (by omega), e, tm (by omega)]
    exact ⟨_, _, _, rfl, Int.emod_nonneg _ (by omega), Int.emod_lt_of_pos _ hn, hc4⟩
theorem new_l (l : List Int) (hl : l.length ≤ 1048576) : ∀ (d : Nat) (k n : Nat) (h : Int), n + d = l.length → d < k → ∃ h', spec_l01New.l0 k l h (n : Int) = some (l, 0, h') := by
  intro d
  induction d with
  | zero =>
    intro k n h hn hk
    obtain ⟨k, rfl⟩ : ∃ m, k = m + 1 := ⟨k - 1, by omega⟩
    simp only [spec_l01New.l0]
    rw [if_neg (by omega)]
    exact ⟨_, rfl⟩
  | succ d ih =>
    intro k n h hn hk
    obtain ⟨k, rfl⟩ : ∃ m, k = m + 1 := ⟨k - 1, by omega⟩
    simp only [spec_l01New.l0]
    rw [if_pos (by omega)]
    by_cases h4 : (n : Int) < 4000
    · rw [if_pos h4, if_pos (by omega), wn n (by omega)]
      exact ih k (n + 1) _ (by omega) (by omega)
    · rw [if_neg h4]
      exact ⟨_, rfl⟩
theorem new_is (l : List Int) (k : Nat) (hl : l.length ≤ 1048576) (hk : l.length < k) : ∃ h, spec_l01New.f k l = some (l, 0, h) := by
  unfold spec_l01New.f
  exact new_l l hl l.length k 0 _ (by omega) hk
theorem cur0 (l : List Int) : Cur l 0 := ⟨by omega, by omega⟩
end Go.Proofs.Ytdlolekpdophcaa.Pure
