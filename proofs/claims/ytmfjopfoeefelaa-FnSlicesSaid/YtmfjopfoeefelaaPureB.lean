/- Slices and crusts: what the program computes is what the reference computes. -/
import Derived.Test.YtmfjopfoeefelaaPBx
import Derived.Test.YtmfjopfoeefelaaInts
import Derived.Test.YtmfjopfoeefelaaDraw
namespace Go.Proofs.Ytmfjopfoeefelaa.Pure
set_option linter.unusedVariables false
set_option linter.unusedSimpArgs false
open Go.RowKit Go.Proofs.Ytmfjopfoeefelaa.PB Go.Proofs.Ytmfjopfoeefelaa.Base Go.Proofs.YtmfjopfoeefelaaW.PrintWords Go.Proofs.YtmfjopfoeefelaaW.PrintLast

def slicesV (a b : Int) : Int := if inB 1 1000 a && inB 1 100 b then a / b else -1
theorem slices_both (a b : Int) : spec_SlicesOf.f a b = some (slicesV a b) ∧ impl_SlicesOf.f a b = some (slicesV a b) := by
  simp only [spec_SlicesOf.f, impl_SlicesOf.f, spec_in, in_is, Option.bind_some, slicesV]
  cases h1 : inB 1 1000 a <;> cases h2 : inB 1 100 b <;> simp
  rw [inB_iff] at h1 h2
  have h0 : 0 ≤ a / b := Int.ediv_nonneg (by omega) (by omega)
  have h3 : a / b ≤ a := Int.ediv_le_self _ (by omega)
  exact ⟨by omega, by rw [td (by omega), w64 (by omega) (by omega)]⟩
theorem FnExactSlicesOf : laws_FnExactSlicesOf.Pure := by
  intro a b _ _
  simp [laws_FnExactSlicesOf.f, slices_both]

def lastV (a b : Int) : Int := if inB 1 1000 a && inB 1 100 b then a % b else -1
theorem slices_bd (a b : Int) (h1 : inB 1 1000 a = true) (h2 : inB 1 100 b = true) : slicesV a b = a / b ∧ 0 ≤ a / b ∧ a / b ≤ 1000 ∧ (a / b) * b = a - a % b ∧ 0 ≤ a % b ∧ a % b < b := by
  have e : slicesV a b = a / b := by simp [slicesV, h1, h2]
  rw [inB_iff] at h1 h2
  have h0 : 0 ≤ a / b := Int.ediv_nonneg (by omega) (by omega)
  have h3 : a / b ≤ a := Int.ediv_le_self _ (by omega)
  have h4 := Int.mul_ediv_add_emod a b
  have h5 : 0 ≤ a % b := Int.emod_nonneg _ (by omega)
  have h6 : a % b < b := Int.emod_lt_of_pos _ (by omega)
  rw [Int.mul_comm] at h4
  exact ⟨e, h0, by omega, by omega, h5, h6⟩
theorem slices_neg (a b : Int) : slicesV a b < 0 ↔ ¬ (inB 1 1000 a = true ∧ inB 1 100 b = true) := by
  constructor
  · intro h ⟨h1, h2⟩
    have := slices_bd a b h1 h2
    omega
  · intro h
    have : (inB 1 1000 a && inB 1 100 b) = false := by
      rw [Bool.eq_false_iff]
      intro hh
      simp only [Bool.and_eq_true] at hh
      exact h hh
    simp [slicesV, this]
theorem last_both (a b : Int) : spec_LastSlice.f a b = some (lastV a b) ∧ impl_LastSlice.f a b = some (lastV a b) := by
  simp only [spec_LastSlice.f, impl_LastSlice.f, spec_in, in_is, Option.bind_some, lastV, slices_both]
  cases h1 : inB 1 1000 a with
  | false =>
    have := (slices_neg a b).2 (by simp [h1])
    simp [this]
  | true =>
    cases h2 : inB 1 100 b with
    | false =>
      have := (slices_neg a b).2 (by simp [h2])
      simp [this]
    | true =>
      obtain ⟨e, g0, g1, g2, g3, g4⟩ := slices_bd a b h1 h2
      rw [inB_iff] at h1 h2
      rw [e, if_neg (by omega), if_neg (show ¬ b = 0 by omega), tm (by omega), g2, w64 (show -9223372036854775808 ≤ a - a % b by omega) (by omega), show a - (a - a % b) = a % b by omega, w64 (by omega) (by omega)]
      simp
theorem FnExactLastSlice : laws_FnExactLastSlice.Pure := by
  intro a b _ _
  simp [laws_FnExactLastSlice.f, last_both]

def thickV (a n : Int) : Int := if inB 1 1000 a && inB 1 1000 n then (if a < n then -1 else mn 100 (a / n)) else -1
theorem spec_thick (a n : Int) (k : Nat) : spec_ThickestFor.f (k + 1) a n = some (thickV a n) := by
  simp only [spec_ThickestFor.f, spec_in, Option.bind_some, spec_ThickestFor.j0, thickV]
  cases h1 : inB 1 1000 a <;> cases h2 : inB 1 1000 n <;> simp
  rw [inB_iff] at h1 h2
  by_cases h : a < n
  · simp [h]
  · have h0 : 0 ≤ a / n := Int.ediv_nonneg (by omega) (by omega)
    have h3 : a / n ≤ a := Int.ediv_le_self _ (by omega)
    rw [if_neg h, if_neg (by omega), td (by omega), w64 (by omega) (by omega), if_neg h]
/-- From t down. -/
theorem impl_thick_l (a n : Int) (hn : 1 ≤ n) (hn2 : n ≤ 1000) : ∀ (d : Nat) (k : Nat) (t : Int), t ≤ d → 0 ≤ t → t ≤ 100 → d < k →
    impl_ThickestFor.l0 k a n t = some (if inB 1 1000 a = true then (if mn t (a / n) ≥ 1 then mn t (a / n) else -1) else -1) := by
  intro d
  induction d with
  | zero =>
    intro k t h0 h1 h2 hk
    obtain ⟨k, rfl⟩ : ∃ m, k = m + 1 := ⟨k - 1, by omega⟩
    simp only [impl_ThickestFor.l0]
    rw [if_neg (by omega)]
    cases inB 1 1000 a
    · simp
    · have : ¬ mn t (a / n) ≥ 1 := by unfold mn; omega
      simp [this]
  | succ d ih =>
    intro k t h0 h1 h2 hk
    obtain ⟨k, rfl⟩ : ∃ m, k = m + 1 := ⟨k - 1, by omega⟩
    simp only [impl_ThickestFor.l0]
    by_cases ht : t ≥ 1
    · rw [if_pos ht, (slices_both a t).2]
      simp only [Option.bind_some]
      rw [w64 (show -9223372036854775808 ≤ t - 1 by omega) (by omega), ih k (t - 1) (by omega) (by omega) (by omega) (by omega)]
      cases ha : inB 1 1000 a with
      | false =>
        have := (slices_neg a t).2 (by simp [ha])
        rw [if_neg (by omega)]
        simp
      | true =>
        have hb : inB 1 100 t = true := by rw [inB_iff]; omega
        obtain ⟨e, _⟩ := slices_bd a t ha hb
        rw [e]
        rw [inB_iff] at ha
        have key : a / t ≥ n ↔ t ≤ a / n := by
          rw [ge_iff_le, Int.le_ediv_iff_mul_le (by omega), Int.le_ediv_iff_mul_le (by omega), Int.mul_comm]
        by_cases hh : a / t ≥ n
        · have h7 := key.1 hh
          rw [if_pos hh]
          have e1 : mn t (a / n) = t := by unfold mn; omega
          simp [e1, ht]
        · have h7 : ¬ t ≤ a / n := fun h => hh (key.2 h)
          rw [if_neg hh]
          have e1 : mn t (a / n) = a / n := by unfold mn; omega
          have e2 : mn (t - 1) (a / n) = a / n := by unfold mn; omega
          rw [e1, e2]
    · rw [if_neg ht]
      cases inB 1 1000 a
      · simp
      · have : ¬ mn t (a / n) ≥ 1 := by unfold mn; omega
        simp [this]
theorem impl_thick (a n : Int) (k : Nat) (hk : 101 < k) : impl_ThickestFor.f k a n = some (thickV a n) := by
  simp only [impl_ThickestFor.f, in_is, Option.bind_some, thickV]
  cases h2 : inB 1 1000 n with
  | false => simp
  | true =>
    rw [inB_iff] at h2
    rw [if_pos rfl, impl_thick_l a n (by omega) (by omega) 100 k 100 (by omega) (by omega) (by omega) (by omega)]
    cases h1 : inB 1 1000 a with
    | false => simp
    | true =>
      rw [inB_iff] at h1
      have key : a < n ↔ ¬ 1 ≤ a / n := by
        rw [Int.le_ediv_iff_mul_le (by omega)]; omega
      by_cases h : a < n
      · have := key.1 h
        have e : ¬ mn 100 (a / n) ≥ 1 := by unfold mn; omega
        simp [h, e]
      · have : 1 ≤ a / n := Classical.byContradiction fun hh => h (key.2 hh)
        have e : mn 100 (a / n) ≥ 1 := by unfold mn; omega
        simp [h, e]
theorem FnExactThickestFor : laws_FnExactThickestFor.Pure := by
  intro a n _ _
  refine ⟨102, ?_⟩
  simp [laws_FnExactThickestFor.f, spec_thick a n 101, impl_thick a n 102 (by omega)]

theorem mx_bd (a : Int) (h0 : 1 ≤ a) (h1 : a ≤ 100) : 0 ≤ mx 0 (a - 2) ∧ mx 0 (a - 2) ≤ 98 := by unfold mx; omega
theorem mul_bd {a b A B : Int} (h0 : 0 ≤ a) (h1 : a ≤ A) (h2 : 0 ≤ b) (h3 : b ≤ B) : 0 ≤ a * b ∧ a * b ≤ A * B :=
  ⟨Int.mul_nonneg h0 h2, Int.mul_le_mul h1 h3 h2 (by omega)⟩
def crustV (a b c : Int) : Int := if [a, b, c].all (inB 1 100) then a * b * c - mx 0 (a - 2) * mx 0 (b - 2) * mx 0 (c - 2) else -1
theorem all3_iff (a b c lo hi : Int) : [a, b, c].all (inB lo hi) = true ↔ (lo ≤ a ∧ a ≤ hi) ∧ (lo ≤ b ∧ b ≤ hi) ∧ (lo ≤ c ∧ c ≤ hi) := by
  simp [inB_iff, and_assoc]
theorem crust_both (a b c : Int) (k : Nat) : spec_CrustParts.f a b c = some (crustV a b c) ∧ impl_CrustParts.f (k + 4) a b c = some (crustV a b c) := by
  have hs : spec_CrustParts.f a b c = if [a, b, c].all (inB 1 100) then some (wrap64 (wrap64 (wrap64 (a * b) * c) - wrap64 (wrap64 (mx 0 (wrap64 (a - 2)) * mx 0 (wrap64 (b - 2))) * mx 0 (wrap64 (c - 2))))) else some (-1) := by
    have e : [a, b, c].all (inB 1 100) = (inB 1 100 a && (inB 1 100 b && inB 1 100 c)) := by simp [List.all]
    rw [e]
    simp only [spec_CrustParts.f, spec_in, Option.bind_some]
    cases h1 : inB 1 100 a <;> cases h2 : inB 1 100 b <;> cases h3 : inB 1 100 c <;> simp
  rw [hs]
  simp only [impl_CrustParts.f, impl_allIn.f, Option.bind_some, crustV]
  cases h : [a, b, c].all (inB 1 100)
  · simp
  · rw [all3_iff] at h
    obtain ⟨⟨a0, a1⟩, ⟨b0, b1⟩, c0, c1⟩ := h
    have ma := mx_bd a a0 a1
    have mb := mx_bd b b0 b1
    have mc := mx_bd c c0 c1
    have ea : wrap64 (a - 2) = a - 2 := w64 (by omega) (by omega)
    have eb : wrap64 (b - 2) = b - 2 := w64 (by omega) (by omega)
    have ec : wrap64 (c - 2) = c - 2 := w64 (by omega) (by omega)
    have ca : mx (a - 2) 0 = mx 0 (a - 2) := by unfold mx; omega
    have cb : mx (b - 2) 0 = mx 0 (b - 2) := by unfold mx; omega
    have cc : mx (c - 2) 0 = mx 0 (c - 2) := by unfold mx; omega
    have p1 := mul_bd (show 0 ≤ a by omega) a1 (show 0 ≤ b by omega) b1
    have p2 := mul_bd p1.1 p1.2 (show 0 ≤ c by omega) c1
    have q1 := mul_bd ma.1 ma.2 mb.1 mb.2
    have q2 := mul_bd q1.1 q1.2 mc.1 mc.2
    have g1 : wrap64 1 = 1 := by simp [wrap64]
    have g2 : wrap64 2 = 2 := by simp [wrap64]
    have g3 : wrap64 3 = 3 := by simp [wrap64]
    have xa : wrap64 a = a := w64 (by omega) (by omega)
    have ya : wrap64 (mx 0 (a - 2)) = mx 0 (a - 2) := w64 (by omega) (by omega)
    have r1 : wrap64 (a * b) = a * b := w64 (by omega) (by omega)
    have r2 : wrap64 (a * b * c) = a * b * c := w64 (by omega) (by omega)
    have r3 : wrap64 (mx 0 (a - 2) * mx 0 (b - 2)) = mx 0 (a - 2) * mx 0 (b - 2) := w64 (by omega) (by omega)
    have r4 : wrap64 (mx 0 (a - 2) * mx 0 (b - 2) * mx 0 (c - 2)) = mx 0 (a - 2) * mx 0 (b - 2) * mx 0 (c - 2) := w64 (by omega) (by omega)
    have r5 : wrap64 (a * b * c - mx 0 (a - 2) * mx 0 (b - 2) * mx 0 (c - 2)) = a * b * c - mx 0 (a - 2) * mx 0 (b - 2) * mx 0 (c - 2) := w64 (by omega) (by omega)
    constructor
    · simp [ea, eb, ec, r1, r2, r3, r4, r5]
    · simp [impl_CrustParts.l0, rd, g1, g2, g3, ea, eb, ec, ca, cb, cc, xa, ya, r1, r2, r3, r4, r5]
theorem FnExactCrustParts : laws_FnExactCrustParts.Pure := by
  intro a b c _ _ _
  refine ⟨4, ?_⟩
  simp [laws_FnExactCrustParts.f, (crust_both a b c 0).1, (crust_both a b c 0).2]

/-- The cuts: k * a / n, for k from i on. -/
def evens (a n : Int) (i : Nat) : Nat → List Int
  | 0 => []
  | d + 1 => ((i : Int) * a / n) :: evens a n (i + 1) d
theorem evens_length (a n : Int) : ∀ (d i : Nat), (evens a n i d).length = d
  | 0, _ => rfl
  | d + 1, i => by simp [evens, evens_length a n d (i + 1)]
theorem evens_get (a n : Int) : ∀ (d i j : Nat) (h : j < d), (evens a n i d)[j]? = some (((i + j : Nat) : Int) * a / n)
  | 0, _, _, h => absurd h (by omega)
  | d + 1, i, 0, _ => by simp [evens]
  | d + 1, i, j + 1, h => by
    simp only [evens, List.getElem?_cons_succ]
    rw [evens_get a n d (i + 1) j (by omega)]
    congr 4
    omega
theorem even_l (a n : Int) (ha : 1 ≤ a) (ha2 : a ≤ 1000) (hn : 1 ≤ n) (hn2 : n ≤ 1000) : ∀ (d : Nat) (k i : Nat) (x : List Int), (i : Int) + d = n → d < k → x.length ≤ 1000000 → x.length + d ≤ 1000000 →
    spec_EvenSlices.l0 k a n x (i : Int) = some (x ++ evens a n i d) ∧ impl_EvenSlices.l0 k a n x (i : Int) = some (x ++ evens a n i d) := by
  intro d
  induction d with
  | zero =>
    intro k i x hi hk hx hx2
    obtain ⟨k, rfl⟩ : ∃ m, k = m + 1 := ⟨k - 1, by omega⟩
    simp only [spec_EvenSlices.l0, impl_EvenSlices.l0]
    rw [if_neg (by omega), if_neg (by omega)]
    simp [evens]
  | succ d ih =>
    intro k i x hi hk hx hx2
    obtain ⟨k, rfl⟩ : ∃ m, k = m + 1 := ⟨k - 1, by omega⟩
    simp only [spec_EvenSlices.l0, impl_EvenSlices.l0]
    have m1 := mul_bd (show (0 : Int) ≤ (i : Int) by omega) (show (i : Int) ≤ 1000 by omega) (show 0 ≤ a by omega) ha2
    have d1 : (i : Int) * a / n ≤ (i : Int) * a := Int.ediv_le_self _ m1.1
    have d0 : 0 ≤ (i : Int) * a / n := Int.ediv_nonneg m1.1 (by omega)
    have e : wrap64 (Int.tdiv (wrap64 ((i : Int) * a)) n) = (i : Int) * a / n := by
      rw [w64 (show -9223372036854775808 ≤ (i : Int) * a by omega) (by omega), td m1.1, w64 (by omega) (by omega)]
    obtain ⟨h1, h2⟩ := ih k (i + 1) (x ++ [(i : Int) * a / n]) (by omega) (by omega) (by simp; omega) (by simp; omega)
    rw [if_pos (by omega), if_neg (by omega), if_pos (by omega), e, wn i (by omega)]
    rw [if_pos (show (i : Int) < n by omega), if_neg (show ¬ n = 0 by omega), if_pos (show x.length < 17592186044416 by omega)]
    simp only [evens]
    constructor
    · rw [h1]; simp
    · rw [h2]; simp
def evenV (a n : Int) : List Int := if inB 1 1000 a && inB 1 a n then evens a n 1 (n - 1).toNat else []
theorem even_both (a n : Int) (k : Nat) (hk : 1002 < k) : spec_EvenSlices.f k a n = some (evenV a n) ∧ impl_EvenSlices.f k a n = some (evenV a n) := by
  obtain ⟨k, rfl⟩ : ∃ m, k = m + 1 := ⟨k - 1, by omega⟩
  simp only [spec_EvenSlices.f, impl_EvenSlices.f, spec_in, in_is, Option.bind_some, evenV]
  cases h1 : inB 1 1000 a with
  | false => simp [spec_EvenSlices.j0, impl_EvenSlices.j0]
  | true =>
    cases h2 : inB 1 a n with
    | false => simp [spec_EvenSlices.j0, impl_EvenSlices.j0]
    | true =>
      rw [inB_iff] at h1 h2
      have := even_l a n (by omega) (by omega) (by omega) (by omega) (n - 1).toNat k 1 [] (by omega) (by omega) (by simp) (by simp; omega)
      simp only [List.nil_append] at this
      have t1 : spec_EvenSlices.l0 k a n [] 1 = _ := this.1
      have t2 : impl_EvenSlices.l0 k a n [] 1 = _ := this.2
      simp [spec_EvenSlices.j0, impl_EvenSlices.j0, t1, t2]
theorem even_len (a n : Int) : (evenV a n).length ≤ 1000 := by
  unfold evenV
  cases h1 : inB 1 1000 a with
  | false => simp
  | true =>
    cases h2 : inB 1 a n with
    | false => simp
    | true =>
      rw [inB_iff] at h1 h2
      simp [evens_length]
      omega
theorem FnExactEvenSlices : laws_FnExactEvenSlices.Pure := by
  intro a n _ _
  have hl := even_len a n
  obtain ⟨h1, h2⟩ := even_both a n 2000 (by omega)
  refine ⟨2000, ?_⟩
  simp only [laws_FnExactEvenSlices.f, h1, h2, Option.bind_some]
  rw [eqInts _ _ 2000 (by omega) (by omega), markInts _ 2000 1 (by omega) (by omega) (by omega) (by omega)]
  simp only [Option.bind_some, decide_true, if_true]
  rw [heldInts _ 2000 1 (by omega) (by omega) (by omega) (by omega)]
  simp only [Option.bind_some]
  rw [if_neg (by omega)]
  simp
  omega

theorem cuts_small (l : List Int) (t : Int) (hl : l.length ≤ 40) : ∀ (d : Nat) (k n : Nat) (s : Int), n + d = l.length → d < k →
    ∃ r, spec_CutsNeeded.l0 k l t s (n : Int) = some r ∧ impl_CutsNeeded.l0 k l t s l (l.length : Int) (n : Int) = some r := by
  intro d
  induction d with
  | zero =>
    intro k n s hn hk
    obtain ⟨k, rfl⟩ : ∃ m, k = m + 1 := ⟨k - 1, by omega⟩
    simp only [spec_CutsNeeded.l0, impl_CutsNeeded.l0]
    rw [if_neg (by omega), if_neg (by omega), if_neg (by omega)]
    exact ⟨_, rfl, rfl⟩
  | succ d ih =>
    intro k n s hn hk
    obtain ⟨k, rfl⟩ : ∃ m, k = m + 1 := ⟨k - 1, by omega⟩
    simp only [spec_CutsNeeded.l0, impl_CutsNeeded.l0]
    rw [if_pos (show (n : Int) < (l.length : Int) by omega), if_pos (show (0 : Int) ≤ (n : Int) by omega), if_pos (show (n : Int) < (l.length : Int) by omega), if_pos (show (0 : Int) ≤ (n : Int) by omega), if_pos (show (n : Int) < (l.length : Int) by omega)]
    simp only [slices_both, last_both, Option.bind_some]
    rw [wn n (by omega)]
    by_cases h1 : slicesV (rd l n) t < 0
    · exact ⟨-1, by rw [if_pos h1], by rw [if_pos h1]⟩
    · rw [if_neg h1, if_neg h1]
      by_cases h2 : slicesV (rd l n) t > 0
      · rw [if_pos h2, if_pos h2]
        by_cases h3 : lastV (rd l n) t = 0
        · rw [if_pos h3, if_pos h3]
          exact ih k (n + 1) _ (by omega) (by omega)
        · rw [if_neg h3, if_neg h3]
          exact ih k (n + 1) _ (by omega) (by omega)
      · rw [if_neg h2, if_neg h2]
        exact ih k (n + 1) _ (by omega) (by omega)
theorem cuts_big (l : List Int) (t : Int) (hl : 40 < l.length) (hl2 : l.length ≤ 9223372036854775800) : ∀ (d : Nat) (k n : Nat) (s : Int), n + d = l.length → d < k → impl_CutsNeeded.l0 k l t s l (l.length : Int) (n : Int) = some (-1) := by
  intro d
  induction d with
  | zero =>
    intro k n s hn hk
    obtain ⟨k, rfl⟩ : ∃ m, k = m + 1 := ⟨k - 1, by omega⟩
    simp only [impl_CutsNeeded.l0]
    rw [if_neg (by omega), if_pos (by omega)]
  | succ d ih =>
    intro k n s hn hk
    obtain ⟨k, rfl⟩ : ∃ m, k = m + 1 := ⟨k - 1, by omega⟩
    simp only [impl_CutsNeeded.l0]
    rw [if_pos (show (n : Int) < (l.length : Int) by omega), if_pos (show (0 : Int) ≤ (n : Int) by omega), if_pos (show (n : Int) < (l.length : Int) by omega)]
    simp only [slices_both, last_both, Option.bind_some]
    rw [wn n (by omega)]
    by_cases h1 : slicesV (rd l n) t < 0
    · rw [if_pos h1]
    · rw [if_neg h1]
      by_cases h2 : slicesV (rd l n) t > 0
      · rw [if_pos h2]
        by_cases h3 : lastV (rd l n) t = 0
        · rw [if_pos h3]
          exact ih k (n + 1) _ (by omega) (by omega)
        · rw [if_neg h3]
          exact ih k (n + 1) _ (by omega) (by omega)
      · rw [if_neg h2]
        exact ih k (n + 1) _ (by omega) (by omega)
theorem cuts_both (l : List Int) (t : Int) (k : Nat) (hk : l.length < k) (hl2 : l.length ≤ 9223372036854775800) : ∃ r, spec_CutsNeeded.f k l t = some r ∧ impl_CutsNeeded.f k l t = some r := by
  unfold spec_CutsNeeded.f impl_CutsNeeded.f
  by_cases h : (l.length : Int) > 40
  · rw [if_pos h]
    exact ⟨-1, rfl, cuts_big l t (by omega) hl2 l.length k 0 0 (by omega) hk⟩
  · rw [if_neg h]
    exact cuts_small l t (by omega) l.length k 0 0 (by omega) hk
theorem FnExactCutsNeeded : laws_FnExactCutsNeeded.Pure := by
  intro l t hm hl hw _
  refine ⟨l.length + 1, ?_⟩
  unfold laws_FnExactCutsNeeded.f
  by_cases h : (l.length : Int) > 1048576
  · rw [if_pos h]
  · obtain ⟨r, h1, h2⟩ := cuts_both l t (l.length + 1) (by omega) (by omega)
    rw [if_neg h, toInts l _ hl (by omega)]
    simp only [Option.bind_some, h1, h2, if_true]
    rw [eqInts _ _ _ (by omega) (by omega)]
    simp
end Go.Proofs.Ytmfjopfoeefelaa.Pure
