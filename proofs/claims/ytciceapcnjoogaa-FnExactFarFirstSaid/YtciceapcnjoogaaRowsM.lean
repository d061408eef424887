/- Rows of rows: equal, marked, held. -/
import Derived.Test.YtciceapcnjoogaaInts
import Derived.Test.YtciceapcnjoogaaPDFx6
namespace Go.Proofs.Ytciceapcnjoogaa.Pure
set_option linter.unusedVariables false
set_option linter.unusedSimpArgs false
open Go.RowKit Go.Proofs.Ytciceapcnjoogaa.PDF Go.Proofs.Ytciceapcnjoogaa.Base Go.Proofs.YtciceapcnjoogaaW.PrintWords Go.Proofs.YtciceapcnjoogaaW.PrintLast

theorem rdR (xs : List (List Int)) (i : Nat) (h : i < xs.length) : rd_L4 xs (i : Int) = xs[i] := by simp [rd_L4, h]
theorem eqR_l (a : List (List Int)) (hm : ∀ x ∈ a, x.length ≤ 1048576) (hb : a.length ≤ 9223372036854775800) : ∀ (d : Nat) (k n : Nat), n + d = a.length → d + 1048577 < k → laws_eqIntSS.l0 k a a (n : Int) = some true := by
  intro d
  induction d with
  | zero =>
    intro k n hn hk
    obtain ⟨k, rfl⟩ : ∃ m, k = m + 1 := ⟨k - 1, by omega⟩
    simp only [laws_eqIntSS.l0]
    rw [if_neg (by omega)]
  | succ d ih =>
    intro k n hn hk
    obtain ⟨k, rfl⟩ : ∃ m, k = m + 1 := ⟨k - 1, by omega⟩
    have hn' : n < a.length := by omega
    have hq := hm a[n] (List.getElem_mem hn')
    simp only [laws_eqIntSS.l0, rdR a n hn']
    rw [if_pos (by omega), if_pos (by omega), if_pos (by omega), eqInts _ _ k (by omega) (by omega), wn n (by omega)]
    simp only [decide_true, Option.bind_some, if_true]
    exact ih k (n + 1) (by omega) (by omega)
theorem eqR_is (a : List (List Int)) (k : Nat) (ha : a.length ≤ 1048576) (hm : ∀ x ∈ a, x.length ≤ 1048576) (hk : a.length + 1048577 < k) : laws_eqIntSS.f k a a = some true := by
  unfold laws_eqIntSS.f
  rw [if_pos rfl]
  exact eqR_l a hm (by omega) a.length k 0 (by omega) hk
/-- m, m + 1, .. row after row. -/
def rampR (m : Int) : List (List Int) → List (List Int)
  | [] => []
  | x :: xs => ramp m x.length :: rampR (m + x.length) xs
def lenR : List (List Int) → Nat
  | [] => 0
  | x :: xs => x.length + lenR xs
theorem lenR_le (c : Nat) : ∀ (l : List (List Int)), (∀ x ∈ l, x.length ≤ c) → lenR l ≤ c * l.length
  | [], _ => Nat.zero_le _
  | x :: xs, h => by
    have h1 := h x (by simp)
    have h2 := lenR_le c xs (fun y hy => h y (by simp [hy]))
    simp only [lenR, List.length_cons, Nat.mul_add, Nat.mul_one]
    omega
theorem rampR_len : ∀ (l : List (List Int)) (m : Int), (rampR m l).length = l.length
  | [], _ => rfl
  | x :: xs, m => by simp [rampR, rampR_len xs]
theorem markR_is (k : Nat) (hk : 1048576 < k) : ∀ (l : List (List Int)) (m : Int), (∀ x ∈ l, x.length ≤ 1048576) → 0 ≤ m → m + lenR l ≤ 1152921504606846976 → laws_markIntSS.f k l m = some (m + lenR l, rampR m l)
  | [], m, _, _, _ => by simp [laws_markIntSS.f, lenR, rampR]
  | x :: xs, m, h, h0, h1 => by
    have hx := h x (by simp)
    simp only [lenR] at h1
    simp only [laws_markIntSS.f, lenR, rampR]
    rw [markInts x k m (by omega) h0 (by omega) (by omega), Option.bind_some, markR_is k hk xs (m + x.length) (fun y hy => h y (by simp [hy])) (by omega) (by omega), Option.bind_some]
    simp only [Option.some.injEq, Prod.mk.injEq, and_true]
    omega
theorem heldR_l (X : List (List Int)) (hb : X.length ≤ 9223372036854775800) : ∀ (l : List (List Int)) (k n : Nat) (m : Int), (∀ x ∈ l, x.length ≤ 1048576) → n + l.length = X.length → l.length + 1048577 < k → 0 ≤ m → m + lenR l ≤ 1152921504606846976 → X.drop n = rampR m l →
    laws_heldIntSS.l0 k X m (n : Int) = some (m + lenR l) := by
  intro l
  induction l with
  | nil =>
    intro k n m h hn hk h0 h1 hd
    rw [List.length_nil] at hn hk
    obtain ⟨k, rfl⟩ : ∃ m, k = m + 1 := ⟨k - 1, by omega⟩
    simp only [laws_heldIntSS.l0]
    rw [if_neg (by omega)]
    simp [lenR]
  | cons x xs ih =>
    intro k n m h hn hk h0 h1 hd
    rw [List.length_cons] at hn hk
    have hx := h x (by simp)
    simp only [lenR] at h1
    obtain ⟨k, rfl⟩ : ∃ m, k = m + 1 := ⟨k - 1, by omega⟩
    have hn' : n < X.length := by omega
    simp only [rampR] at hd
    rw [List.drop_eq_getElem_cons hn'] at hd
    injection hd with hd1 hd2
    simp only [laws_heldIntSS.l0, rdR X n hn', hd1]
    rw [if_pos (by omega), if_pos (by omega), heldInts x.length k m (by omega) h0 (by omega) (by omega), Option.bind_some, if_neg (by omega), wn n (by omega)]
    rw [ih k (n + 1) (m + x.length) (fun y hy => h y (by simp [hy])) (by omega) (by omega) (by omega) (by omega) hd2]
    simp only [lenR, Option.some.injEq]
    omega
theorem heldR_is (l : List (List Int)) (k : Nat) (m : Int) (h : ∀ x ∈ l, x.length ≤ 1048576) (hl : l.length ≤ 1048576) (h0 : 0 ≤ m) (h1 : m + lenR l ≤ 1152921504606846976) (hk : l.length + 1048577 < k) : laws_heldIntSS.f k (rampR m l) m = some (m + lenR l) := by
  unfold laws_heldIntSS.f
  exact heldR_l (rampR m l) (by rw [rampR_len]; omega) l k 0 m h (by rw [rampR_len]; omega) hk h0 h1 rfl
end Go.Proofs.Ytciceapcnjoogaa.Pure
