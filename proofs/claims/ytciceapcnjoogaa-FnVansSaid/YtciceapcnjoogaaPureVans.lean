/- Vans: trips from the far end, and the least way. -/
import Derived.Test.YtciceapcnjoogaaPureVn
namespace Go.Proofs.Ytciceapcnjoogaa.Pure
set_option linter.unusedVariables false
set_option linter.unusedSimpArgs false
open Go.RowKit Go.Proofs.Ytciceapcnjoogaa.PDV Go.Proofs.Ytciceapcnjoogaa.Base Go.Proofs.YtciceapcnjoogaaW.PrintWords Go.Proofs.YtciceapcnjoogaaW.PrintLast

/-! ### valid shops -/
theorem shopsV (l : List Sp) (hl : l.length ≤ 10) (hS : SpFrom l 0) : ∀ (d n k : Nat), n + d = l.length → d < k → impl_ShopsOk.l0 k l l (l.length : Int) (n : Int) = some true := by
  intro d
  induction d with
  | zero =>
    intro n k hn hk
    obtain ⟨k, rfl⟩ : ∃ m, k = m + 1 := ⟨k - 1, by omega⟩
    simp only [impl_ShopsOk.l0]
    rw [if_neg (by omega), decide_eq_true (by omega)]
  | succ d ih =>
    intro n k hn hk
    obtain ⟨k, rfl⟩ : ∃ m, k = m + 1 := ⟨k - 1, by omega⟩
    have hn' : n < l.length := by omega
    obtain ⟨⟨⟨p1, p2⟩, p3, p4⟩, hlt⟩ := hS n hn' (Nat.zero_le _)
    simp only [impl_ShopsOk.l0, rdIShop l n hn', in_is, Option.bind_some]
    rw [if_pos (by omega), if_pos (by omega), if_pos (by omega), if_pos ((inB_iff _ _ _).2 ⟨p1, p2⟩), if_pos ((inB_iff _ _ _).2 ⟨p3, p4⟩), wn n (by omega)]
    by_cases h0 : 0 < n
    · have e : wrap64 ((n : Int) - 1) = ((n - 1 : Nat) : Int) := by rw [w64 (by omega) (by omega)]; omega
      have := hlt h0
      rw [if_pos (by omega), e, if_pos (by omega), if_pos (by omega), rdIShop l (n - 1) (by omega), if_neg (by omega)]
      exact ih (n + 1) k (by omega) (by omega)
    · rw [if_neg (by omega)]
      exact ih (n + 1) k (by omega) (by omega)
theorem shopsV_is (l : List Sp) (hl : l.length ≤ 10) (hS : SpFrom l 0) (k : Nat) (hk : l.length < k) : impl_ShopsOk.f k l = some true := shopsV l hl hS l.length 0 k (Nat.zero_add _) hk
theorem carry_is (l : List Sp) (hl : l.length ≤ 10) (hS : SpFrom l 0) (a : Int) (h0 : 1 ≤ a) (h1 : a ≤ 100) (hc : ∀ s ∈ l, s.f1 ≤ a) (k : Nat) (hk : l.length < k) : impl_canCarry.f k l a = some true := by
  have : (l.any fun s => decide (a < s.f1)) = false := by
    rw [List.any_eq_false]
    intro s hs
    have := hc s hs
    simp only [decide_eq_true_eq]
    omega
  simp only [impl_canCarry.f, shopsV_is l hl hS k hk, Option.bind_some, if_true, in_is, (inB_iff 1 100 a).2 ⟨h0, h1⟩, this]
  rfl

/-! ### the least way -/
def good (l : List Sp) (a : Int) (S f s : Nat) : Prop := s &&& S = s ∧ s.testBit f = true ∧ ld l s l.length ≤ a
def cand (l : List Sp) (S f : Nat) (B : List Int) (s : Nat) : Int := rd B ((S - s : Nat) : Int) + 2 * (rd_T35 l (f : Int)).f0
def Bst (l : List Sp) (a : Int) (S : Nat) (B : List Int) : Prop := rd B 0 = 0 ∧ ∀ t : Nat, t < S → (0 ≤ rd B (t : Int) ∧ rd B (t : Int) ≤ 2000 * (t : Int)) ∧
  (0 < t → (∃ s, good l a t (far t l.length) s ∧ rd B (t : Int) = cand l t (far t l.length) B s) ∧ ∀ s, good l a t (far t l.length) s → rd B (t : Int) ≤ cand l t (far t l.length) B s)
theorem good_pos {l : List Sp} {a : Int} {S f s : Nat} (h : good l a S f s) : 0 < s := by
  rcases Nat.eq_zero_or_pos s with e | e
  · have := h.2.1
    rw [e] at this
    simp at this
  · exact e
theorem isync (l : List Sp) (a : Int) (hn : l.length ≤ 10) (hok : ∀ s ∈ l, okSp s) (hcap : ∀ s ∈ l, s.f1 ≤ a) (S f : Nat) (hff : f = far S l.length) (B : List Int) (Q : Int → Prop) (hS0 : 0 < S) (hS : S < 2 ^ l.length) (hB : B.length = 2 ^ l.length) (hbp : ∀ t : Nat, t < S → 0 ≤ rd B (t : Int) ∧ rd B (t : Int) ≤ 2000 * (t : Int))
    (IH : ∀ v : Int, 0 ≤ v → v ≤ 2000 * (S : Int) → (∃ s, good l a S f s ∧ v = cand l S f B s) → (∀ s, good l a S f s → v ≤ cand l S f B s) → ∃ r, Q r ∧ ∀ L, LP l (S + 1) L → ∃ K, impl_LeastWay.l0 K l a (l.length : Int) L (B.set S v) ((S + 1 : Nat) : Int) = some r) :
    ∀ (sub : Nat) (v : Int), sub &&& S = sub → -1 ≤ v → v ≤ 2000 * (S : Int) → (v = -1 ∨ ∃ s, good l a S f s ∧ v = cand l S f B s) → (∀ s, sub < s → good l a S f s → 0 ≤ v ∧ v ≤ cand l S f B s) →
      ∃ r, Q r ∧ ∀ L, LP l (S + 1) L → ∃ K, impl_LeastWay.l2 K l a (l.length : Int) L (B.set S v) (S : Int) (f : Int) (sub : Int) = some r := by
  have hN := pow10 l.length hn
  have hfar := far_is S l.length (some_bit S l.length hS0 hS)
  rw [← hff] at hfar
  obtain ⟨hfb, hf⟩ := hfar
  have hbp' : BP S B := fun t ht => by have := hbp t ht; omega
  have p1 := (hok l[f] (List.getElem_mem hf)).1
  intro sub
  induction sub using Nat.strongRecOn with
  | _ sub ih =>
    intro v hs hv0 hv1 hat hlow
    have hle : sub ≤ S := by rw [← hs]; exact Nat.and_le_right
    by_cases h0 : sub = 0
    · subst h0
      have hg : good l a S f (2 ^ f) := ⟨pow_sub f S hfb, by rw [Nat.testBit_two_pow]; simp, by rw [ld_pow, if_pos hf, rdIShop l f hf]; exact hcap _ (List.getElem_mem hf)⟩
      have h1 := hlow (2 ^ f) (Nat.two_pow_pos f) hg
      obtain ⟨r, hq, hL⟩ := IH v h1.1 hv1 (hat.resolve_left (by omega)) (fun s hs => (hlow s (good_pos hs) hs).2)
      refine ⟨r, hq, fun L hl => ?_⟩
      obtain ⟨K, q⟩ := hL L hl
      refine ⟨K + 1, ?_⟩
      simp only [impl_LeastWay.l2]
      rw [if_neg (by omega), wn S (by omega)]
      exact q
    · have hb := nv_bd l a hok S f sub B v hf (by omega) hle hbp' ⟨hv0, hv1⟩
      have hlt : (sub - 1) &&& S < sub := Nat.lt_of_le_of_lt Nat.and_le_left (by omega)
      have hr := (hbp (S - sub) (by omega)).1
      obtain ⟨r, hq, q⟩ := ih ((sub - 1) &&& S) hlt (nv l a S f B sub v) (by rw [Nat.and_assoc, Nat.and_self]) hb.1 hb.2.1 (by
        by_cases hg : sub.testBit f = true ∧ 0 ≤ rd B ((S - sub : Nat) : Int) ∧ ld l sub l.length ≤ a
        · unfold nv
          rw [if_pos hg]
          split
          · exact Or.inr ⟨sub, ⟨hs, hg.1, hg.2.2⟩, rfl⟩
          · split
            · exact Or.inr ⟨sub, ⟨hs, hg.1, hg.2.2⟩, rfl⟩
            · exact hat
        · unfold nv
          rw [if_neg hg]
          exact hat) (fun s hls hgs => by
        have hsub : sub ≤ s := by
          rcases Nat.lt_or_ge s sub with h | h
          · have := sub_reach sub S s hs hgs.1 h
            omega
          · exact h
        rcases Nat.lt_or_ge sub s with h | h
        · obtain ⟨a1, a2⟩ := hlow s h hgs
          unfold nv
          rw [rdIShop l f hf]
          split
          · split
            · omega
            · split
              · omega
              · exact ⟨a1, a2⟩
          · exact ⟨a1, a2⟩
        · obtain rfl : s = sub := by omega
          unfold nv cand
          rw [if_pos ⟨hgs.2.1, hr, hgs.2.2⟩, rdIShop l f hf]
          split
          · omega
          · split <;> omega)
      exact ⟨r, hq, fun L hL => impl_step l a hn hok S f sub B L v r hS hB hL hf hs (by omega) hbp' hr ⟨hv0, hv1⟩ (q L hL)⟩
theorem cand_set (l : List Sp) (t f S s : Nat) (B : List Int) (v : Int) (h : t - s ≠ S) : cand l t f (B.set S v) s = cand l t f B s := by
  unfold cand
  rw [rd_set_ne B S (t - s) v h]
theorem iouter (l : List Sp) (a : Int) (hn : l.length ≤ 10) (hok : ∀ s ∈ l, okSp s) (hcap : ∀ s ∈ l, s.f1 ≤ a) :
    ∀ (d S : Nat) (B : List Int), S + d = 2 ^ l.length → 0 < S → B.length = 2 ^ l.length → Bst l a S B →
      ∃ r, (∃ B', Bst l a (2 ^ l.length) B' ∧ r = rd B' ((2 ^ l.length - 1 : Nat) : Int)) ∧ ∀ L, LP l S L → ∃ K, impl_LeastWay.l0 K l a (l.length : Int) L B (S : Int) = some r := by
  have hN := pow10 l.length hn
  intro d
  induction d with
  | zero =>
    intro S B hS h0 hB hbp
    have hw : wrap64 (((2 ^ l.length : Nat) : Int) - 1) = ((2 ^ l.length - 1 : Nat) : Int) := by
      have hp : 0 < 2 ^ l.length := Nat.two_pow_pos _
      rw [w64 (by omega) (by omega)]; omega
    obtain rfl : S = 2 ^ l.length := by omega
    refine ⟨rd B ((2 ^ l.length - 1 : Nat) : Int), ⟨B, hbp, rfl⟩, fun L _ => ⟨1, ?_⟩⟩
    simp only [impl_LeastWay.l0, shl_nat _ hn, hw]
    rw [if_pos (by omega), if_neg (by omega), if_pos (by omega), if_pos (by omega)]
  | succ d ih =>
    intro S B hS h0 hB hbp
    obtain ⟨r, hq, q⟩ := isync l a hn hok hcap S (far S l.length) rfl B (fun r => ∃ B', Bst l a (2 ^ l.length) B' ∧ r = rd B' ((2 ^ l.length - 1 : Nat) : Int)) h0 (by omega) hB (fun t ht => (hbp.2 t ht).1) (fun v hv0 hv1 hat hlow =>
      ih (S + 1) (B.set S v) (by omega) (by omega) (by rw [List.length_set]; exact hB) ⟨by
          have := rd_set_ne B S 0 v (by omega)
          exact this.trans hbp.1, fun t ht => by
        by_cases e : t = S
        · subst e
          rw [rd_set_self B t v (by omega)]
          refine ⟨⟨hv0, hv1⟩, fun _ => ⟨?_, fun s hs => ?_⟩⟩
          · obtain ⟨s, hs, e⟩ := hat
            have := good_pos hs
            exact ⟨s, hs, by rw [cand_set _ _ _ _ _ _ _ (by omega)]; exact e⟩
          · have := good_pos hs
            rw [cand_set _ _ _ _ _ _ _ (by omega)]
            exact hlow s hs
        · rw [rd_set_ne B S t v e]
          obtain ⟨b1, b2⟩ := hbp.2 t (by omega)
          refine ⟨b1, fun h => ⟨?_, fun s hs => ?_⟩⟩
          · obtain ⟨s, hs, e⟩ := (b2 h).1
            exact ⟨s, hs, by rw [cand_set _ _ _ _ _ _ _ (by omega)]; exact e⟩
          · rw [cand_set _ _ _ _ _ _ _ (by omega)]
            exact (b2 h).2 s hs⟩) S (-1) (Nat.and_self S) (by omega) (by omega) (Or.inl rfl) (fun s hs hg => by
        have : s ≤ S := by rw [← hg.1]; exact Nat.and_le_right
        omega)
    refine ⟨r, hq, fun L hL => ?_⟩
    obtain ⟨K, q⟩ := impl_far l a hn hok S B r (by omega) hB q l.length 0 L (by omega) hL.1 hL.2.1 (hL.2.2 S (Nat.le_refl _)) (fun t ht => hL.2.2 t (by omega))
    refine ⟨K + 1, ?_⟩
    simp only [impl_LeastWay.l0, shl_nat _ hn]
    rw [if_pos (by omega), if_pos (by omega)]
    exact q
theorem least_is (l : List Sp) (a : Int) (hn : l.length ≤ 10) (hS : SpFrom l 0) (h0 : 1 ≤ a) (h1 : a ≤ 100) (hcap : ∀ s ∈ l, s.f1 ≤ a) : ∃ B, Bst l a (2 ^ l.length) B ∧ Ev (fun k => impl_LeastWay.f k l a) (rd B ((2 ^ l.length - 1 : Nat) : Int)) := by
  have hok := sp_of l hS
  have hN := pow10 l.length hn
  have hp : 0 < 2 ^ l.length := Nat.two_pow_pos _
  have hz : ∀ t : Nat, rd (List.replicate (2 ^ l.length) (0 : Int)) (t : Int) = 0 := rd_zeros _
  obtain ⟨r, ⟨B, hB, rfl⟩, q⟩ := iouter l a hn hok hcap (2 ^ l.length - 1) 1 (List.replicate (2 ^ l.length) 0) (by omega) (by omega) (by simp) ⟨hz 0, fun t ht => by
    rw [hz]
    exact ⟨by omega, fun h => by omega⟩⟩
  obtain ⟨K, q2⟩ := q (List.replicate (2 ^ l.length) 0) ⟨by simp, fun t ht => by
    obtain rfl : t = 0 := by omega
    rw [hz, ld_zero], fun t _ => hz t⟩
  refine ⟨B, hB, K + l.length + 2, fun k hk => ?_⟩
  have u2 := up_to (g := fun k => impl_LeastWay.l0 k l a (l.length : Int) (List.replicate (2 ^ l.length) 0) (List.replicate (2 ^ l.length) 0) 1) (fun k => (impl_LeastWay.mono_l k).1 _ _ _ _ _ _) q2 (show K ≤ k by omega)
  simp only [impl_LeastWay.f, carry_is l hn hS a h0 h1 hcap k (by omega), Option.bind_some, if_true, shl_nat _ hn, Int.toNat_natCast]
  rw [if_pos (by omega), if_pos (by omega)]
  exact u2

/-! ### segments -/
theorem pow_le' {j M : Nat} (h : j ≤ M) : 2 ^ j ≤ 2 ^ M := Nat.pow_le_pow_right (by omega) h
theorem seg_bit (M j i : Nat) (h : j ≤ M) : (2 ^ M - 2 ^ j).testBit i = decide (j ≤ i ∧ i < M) := by
  have e : 2 ^ M - 2 ^ j = 2 ^ j * (2 ^ (M - j) - 1) := by
    rw [Nat.mul_sub, ← Nat.pow_add, Nat.mul_one, show j + (M - j) = M by omega]
  rw [e, Nat.testBit_two_pow_mul, Nat.testBit_two_pow_sub_one]
  by_cases h1 : j ≤ i
  · by_cases h2 : i < M
    · simp [h1, h2, show i - j < M - j by omega]
    · simp [h1, h2, show ¬ (i - j < M - j) by omega]
  · simp [h1]
theorem far_top (s f : Nat) (hf : s.testBit f = true) (hg : ∀ g, f < g → s.testBit g = false) : ∀ i, f < i → far s i = f := by
  intro i
  induction i with
  | zero => intro h; omega
  | succ i ih =>
    intro h
    simp only [far]
    by_cases e : i = f
    · subst e; rw [if_pos hf]
    · rw [if_neg (by rw [hg i (by omega)]; simp)]
      exact ih (by omega)
theorem ld_add (l : List Sp) (s s' f : Nat) (h : ∀ i, s'.testBit i = (s.testBit i || decide (i = f))) (hf : s.testBit f = false) : ∀ i, ld l s' i = ld l s i + (if f < i then (rd_T35 l (f : Int)).f1 else 0) := by
  intro i
  induction i with
  | zero => simp [ld]
  | succ i ih =>
    simp only [ld, ih, h]
    by_cases e : i = f
    · subst e
      simp [hf]
    · have e2 : (f < i) ↔ (f < i + 1) := by omega
      simp only [e, e2, decide_false, Bool.or_false]
      omega
theorem ld_seg (l : List Sp) (M j i : Nat) (h : j < M) : ld l (2 ^ M - 2 ^ j) i = ld l (2 ^ M - 2 ^ (j + 1)) i + (if j < i then (rd_T35 l (j : Int)).f1 else 0) := by
  refine ld_add l _ _ j (fun i => ?_) ?_ i
  · rw [seg_bit M j i (by omega), seg_bit M (j + 1) i (by omega)]
    by_cases e : i = j
    · subst e; simp [h]
    · have : (j ≤ i ∧ i < M) ↔ (j + 1 ≤ i ∧ i < M) := by omega
      simp only [this, e, decide_false, Bool.or_false]
  · rw [seg_bit M (j + 1) j (by omega)]
    simp
    omega
theorem seg_le (l : List Sp) (a : Int) (B : List Int) (hB : Bst l a (2 ^ l.length) B) (j M : Nat) (hj : j < M) (hM : M ≤ l.length) (h : ld l (2 ^ M - 2 ^ j) l.length ≤ a) :
    rd B ((2 ^ M - 1 : Nat) : Int) ≤ rd B ((2 ^ j - 1 : Nat) : Int) + 2 * (rd_T35 l ((M - 1 : Nat) : Int)).f0 := by
  have hbt : (2 ^ M - 2 ^ j).testBit (M - 1) = true := by rw [seg_bit M j _ (by omega)]; simp; omega
  have h1 := Nat.two_pow_pos j
  have h2 : 2 ^ j < 2 ^ M := Nat.pow_lt_pow_right (by omega) hj
  have h3 := pow_le' hM
  have hfar : far (2 ^ M - 1) l.length = M - 1 := far_top _ _ (by rw [Nat.testBit_two_pow_sub_one]; simp; omega) (fun g hg => by rw [Nat.testBit_two_pow_sub_one]; simp; omega) _ (by clear hB h h1 h2 h3; omega)
  obtain ⟨_, q⟩ := hB.2 (2 ^ M - 1) (by omega)
  have q2 := (q (by omega)).2
  rw [hfar] at q2
  have q3 := q2 (2 ^ M - 2 ^ j) ⟨by rw [Nat.and_two_pow_sub_one_eq_mod, Nat.mod_eq_of_lt (by omega)], hbt, h⟩
  unfold cand at q3
  rw [show 2 ^ M - 1 - (2 ^ M - 2 ^ j) = 2 ^ j - 1 by omega] at q3
  exact q3
theorem far_le (l : List Sp) (a : Int) (B : List Int) (hB : Bst l a (2 ^ l.length) B) (hn : 0 < l.length) : 2 * (rd_T35 l ((l.length - 1 : Nat) : Int)).f0 ≤ rd B ((2 ^ l.length - 1 : Nat) : Int) := by
  have h2 : 1 < 2 ^ l.length := Nat.one_lt_two_pow (by omega)
  have hfar : far (2 ^ l.length - 1) l.length = l.length - 1 := far_top _ _ (by rw [Nat.testBit_two_pow_sub_one]; simp; omega) (fun g hg => by rw [Nat.testBit_two_pow_sub_one]; simp; omega) _ (by omega)
  obtain ⟨_, q⟩ := hB.2 (2 ^ l.length - 1) (by omega)
  obtain ⟨s, hs, e⟩ := (q (by omega)).1
  rw [hfar] at e
  have := (hB.2 (2 ^ l.length - 1 - s) (by omega)).1.1
  rw [e]
  unfold cand
  omega
theorem least_mono (l : List Sp) (a b : Int) (hab : a ≤ b) (A B : List Int) (hA : Bst l a (2 ^ l.length) A) (hB : Bst l b (2 ^ l.length) B) : ∀ t : Nat, t < 2 ^ l.length → rd B (t : Int) ≤ rd A (t : Int) := by
  intro t
  induction t using Nat.strongRecOn with
  | _ t ih =>
    intro ht
    rcases Nat.eq_zero_or_pos t with e | e
    · subst e
      have h1 : rd A ((0 : Nat) : Int) = 0 := hA.1
      have h2 : rd B ((0 : Nat) : Int) = 0 := hB.1
      omega
    · obtain ⟨s, hs, q⟩ := ((hA.2 t ht).2 e).1
      have q2 := ((hB.2 t ht).2 e).2 s ⟨hs.1, hs.2.1, by have := hs.2.2; omega⟩
      have := good_pos hs
      have := ih (t - s) (by omega) (by omega)
      unfold cand at q q2
      omega

/-! ### trips -/
theorem ldT_app (l : List Sp) (A B : List Int) : ldT l (A ++ B) = ldT l A + ldT l B := by
  induction A with
  | nil => simp [ldT]
  | cons x A ih => simp only [List.cons_append, ldT, ih]; omega
theorem wayT_app (l : List Sp) (A B : List (List Int)) : wayT l (A ++ B) = wayT l A + wayT l B := by
  induction A with
  | nil => simp [wayT]
  | cons x A ih => simp only [List.cons_append, wayT, ih]; omega
def dn : Nat → Nat → List Int
  | _, 0 => []
  | j, c + 1 => dn (j + 1) c ++ [(j : Int)]
theorem dn_len : ∀ (c j : Nat), (dn j c).length = c
  | 0, _ => rfl
  | c + 1, j => by simp [dn, dn_len c (j + 1)]
theorem dn_mem : ∀ (c j : Nat) (x : Int), x ∈ dn j c ↔ (j : Int) ≤ x ∧ x < ((j + c : Nat) : Int)
  | 0, j, x => by simp [dn]
  | c + 1, j, x => by
    simp only [dn, List.mem_append, List.mem_singleton, dn_mem c (j + 1) x]
    omega
theorem dn_desc : ∀ (c j : Nat), (dn j c).Pairwise (· > ·)
  | 0, _ => List.Pairwise.nil
  | c + 1, j => by
    simp only [dn]
    rw [List.pairwise_append]
    refine ⟨dn_desc c (j + 1), by simp, fun x hx y hy => ?_⟩
    rw [List.mem_singleton] at hy
    have := (dn_mem c (j + 1) x).1 hx
    omega
theorem dn_add : ∀ (c j d : Nat), dn (j + c) d ++ dn j c = dn j (c + d)
  | 0, j, d => by simp [dn]
  | c + 1, j, d => by
    have := dn_add c (j + 1) d
    rw [show c + 1 + d = (c + d) + 1 by omega]
    simp only [dn]
    rw [← List.append_assoc, show j + (c + 1) = j + 1 + c by omega, this]
theorem dn_ld (l : List Sp) : ∀ (c j : Nat), j + c ≤ l.length → ldT l (dn j c) = ld l (2 ^ (j + c) - 2 ^ j) l.length
  | 0, j, h => by simp [dn, ldT, ld_zero]
  | c + 1, j, h => by
    have := dn_ld l c (j + 1) (by omega)
    rw [ld_seg l (j + (c + 1)) j l.length (by omega), show j + (c + 1) = j + 1 + c by omega, ← this, if_pos (by omega)]
    simp [dn, ldT_app, ldT]
theorem asc (l : List Sp) (hS : SpFrom l 0) (i j : Nat) (hij : i ≤ j) (hj : j < l.length) : (rd_T35 l (i : Int)).f0 ≤ (rd_T35 l (j : Int)).f0 := by
  induction j with
  | zero => obtain rfl : i = 0 := by omega
            exact Int.le_refl _
  | succ j ih =>
    by_cases e : i = j + 1
    · subst e; exact Int.le_refl _
    · have h1 := ih (by omega) (by omega)
      have h2 := (hS (j + 1) hj (Nat.zero_le _)).2 (by omega)
      rw [rdIShop l j (by omega)] at h1
      rw [rdIShop l (j + 1) hj]
      simp only [Nat.add_sub_cancel] at h2
      omega
theorem farT_all (l : List Sp) (hS : SpFrom l 0) (m : Nat) (hm : m < l.length) : ∀ (T : List Int) (f : Int), (∀ x ∈ T, 0 ≤ x ∧ x ≤ (m : Int)) → f ≤ (rd_T35 l (m : Int)).f0 → farT l T f ≤ (rd_T35 l (m : Int)).f0
  | [], f, _, h => h
  | x :: xs, f, hin, h => by
    obtain ⟨h0, h1⟩ := hin x (by simp)
    obtain ⟨X, rfl⟩ : ∃ X : Nat, x = (X : Int) := ⟨x.toNat, by omega⟩
    have := asc l hS X m (by omega) hm
    exact farT_all l hS m hm xs _ (fun y hy => hin y (by simp [hy])) (by unfold mx; split <;> omega)
theorem farT_ge (l : List Sp) : ∀ (T : List Int) (f : Int), f ≤ farT l T f
  | [], f => Int.le_refl _
  | x :: xs, f => Int.le_trans (by unfold mx; split <;> omega) (farT_ge l xs (mx f (rd_T35 l x).f0))
theorem farT_mem (l : List Sp) : ∀ (T : List Int) (f : Int) (x : Int), x ∈ T → (rd_T35 l x).f0 ≤ farT l T f
  | y :: ys, f, x, h => by
    rcases List.mem_cons.1 h with rfl | h
    · exact Int.le_trans (by unfold mx; split <;> omega) (farT_ge l ys (mx f (rd_T35 l x).f0))
    · exact farT_mem l ys _ x h
theorem farT_dn (l : List Sp) (hS : SpFrom l 0) (j c : Nat) (hc : 0 < c) (h : j + c ≤ l.length) : farT l (dn j c) 0 = (rd_T35 l ((j + c - 1 : Nat) : Int)).f0 := by
  have h1 := farT_mem l (dn j c) 0 ((j + c - 1 : Nat) : Int) ((dn_mem _ _ _).2 (by omega))
  have hs := (hS (j + c - 1) (by omega) (Nat.zero_le _)).1.1.1
  have h2 := farT_all l hS (j + c - 1) (by omega) (dn j c) 0 (fun x hx => by have := (dn_mem _ _ _).1 hx; omega) (by rw [rdIShop l _ (by omega)]; omega)
  omega
def Part (l : List Sp) (a : Int) (B : List Int) (Ts : List (List Int)) (j : Nat) : Prop :=
  Ts.flatten = dn j (l.length - j) ∧ (∀ T ∈ Ts, T.Pairwise (· > ·) ∧ ldT l T ≤ a ∧ T.length ≤ l.length) ∧ rd B ((2 ^ l.length - 1 : Nat) : Int) ≤ wayT l Ts + rd B ((2 ^ j - 1 : Nat) : Int) ∧ Ts.length + j ≤ l.length
theorem part_close (l : List Sp) (a : Int) (hS : SpFrom l 0) (B : List Int) (hB : Bst l a (2 ^ l.length) B) (Ts : List (List Int)) (j c : Nat) (hc : 0 < c) (h : j + c ≤ l.length) (hP : Part l a B Ts (j + c)) (hl : ldT l (dn j c) ≤ a) : Part l a B (Ts ++ [dn j c]) j := by
  obtain ⟨p1, p2, p3, p4⟩ := hP
  refine ⟨?_, fun T hT => ?_, ?_, by simp; omega⟩
  · rw [List.flatten_append, p1, List.flatten_cons, List.flatten_nil, List.append_nil, dn_add c j (l.length - (j + c)), show c + (l.length - (j + c)) = l.length - j by omega]
  · rcases List.mem_append.1 hT with hT | hT
    · exact p2 T hT
    · rw [List.mem_singleton] at hT
      subst hT
      exact ⟨dn_desc c j, hl, by rw [dn_len]; omega⟩
  · have h1 := seg_le l a B hB j (j + c) (by omega) h (by rw [← dn_ld l c j h]; exact hl)
    rw [wayT_app]
    simp only [wayT]
    rw [farT_dn l hS j c hc h]
    omega
theorem ff_open (l : List Sp) (a : Int) (hn : l.length ≤ 10) (hS : SpFrom l 0) (h0 : 1 ≤ a) (h100 : a ≤ 100) (hcap : ∀ s ∈ l, s.f1 ≤ a) (B : List Int) (hB : Bst l a (2 ^ l.length) B) :
    ∀ (j c : Nat) (Ts : List (List Int)) (k : Nat), 0 < c → j + c ≤ l.length → Part l a B Ts (j + c) → ldT l (dn j c) ≤ a → 0 ≤ ldT l (dn j c) → j < k →
      ∃ Tf, Part l a B Tf 0 ∧ impl_FarFirst.l0 k l a (Ts ++ [dn j c]) (a - ldT l (dn j c)) ((j : Int) - 1) = some (Tf, true) := by
  intro j
  induction j with
  | zero =>
    intro c Ts k hc hjc hP hl _ hk
    obtain ⟨k, rfl⟩ : ∃ m, k = m + 1 := ⟨k - 1, by omega⟩
    refine ⟨_, part_close l a hS B hB Ts 0 c hc hjc hP hl, ?_⟩
    simp only [impl_FarFirst.l0]
    rw [if_neg (by omega)]
  | succ j ih =>
    intro c Ts k hc hjc hP hl hl0 hk
    obtain ⟨k, rfl⟩ : ∃ m, k = m + 1 := ⟨k - 1, by omega⟩
    have hj' : j < l.length := by omega
    have hld := hcap l[j] (List.getElem_mem hj')
    have hok := (hS j hj' (Nat.zero_le _)).1.2
    have e1 : ((j + 1 : Nat) : Int) - 1 = (j : Int) := by omega
    have hlen : (Ts ++ [dn (j + 1) c]).length = Ts.length + 1 := by simp
    have p4 := hP.2.2.2
    have e2 : wrap64 (((Ts.length + 1 : Nat) : Int) - 1) = (Ts.length : Int) := by rw [w64 (by omega) (by omega)]; omega
    have e3 : rd_L5 (Ts ++ [dn (j + 1) c]) (Ts.length : Int) = dn (j + 1) c := by rw [rdR _ _ (by rw [hlen]; omega)]; simp
    have e4 : (Ts ++ [dn (j + 1) c]).set Ts.length (dn (j + 1) c ++ [(j : Int)]) = Ts ++ [dn j (c + 1)] := by
      rw [List.set_append_right _ _ (Nat.le_refl _), Nat.sub_self]
      rfl
    have e5 : wrap64 ((j : Int) - 1) = (j : Int) - 1 := w64 (by omega) (by omega)
    have e6 : ldT l (dn j (c + 1)) = ldT l (dn (j + 1) c) + l[j].f1 := by simp [dn, ldT_app, ldT, rdIShop l j hj']
    have e7 : ldT l (dn j 1) = l[j].f1 := by simp [dn, ldT, rdIShop l j hj']
    simp only [impl_FarFirst.l0, e1, hlen, rdIShop l j hj', e2, e3, dn_len, Int.toNat_natCast, e4, e5]
    rw [if_pos (by omega), if_pos (by omega), if_pos (by omega), if_pos (by omega)]
    by_cases hf : l[j].f1 ≤ a - ldT l (dn (j + 1) c)
    · rw [if_pos hf, if_pos (by omega), if_pos (by omega), if_pos (by omega), w64 (by omega) (by omega)]
      obtain ⟨Tf, g1, g2⟩ := ih (c + 1) Ts k (by omega) (by omega) (by rw [show j + (c + 1) = j + 1 + c by omega]; exact hP) (by omega) (by omega) (by omega)
      refine ⟨Tf, g1, ?_⟩
      rw [show a - ldT l (dn (j + 1) c) - l[j].f1 = a - ldT l (dn j (c + 1)) by omega]
      exact g2
    · rw [if_neg hf, if_pos (by omega), w64 (by omega) (by omega)]
      obtain ⟨Tf, g1, g2⟩ := ih 1 (Ts ++ [dn (j + 1) c]) k (by omega) (by omega) (part_close l a hS B hB Ts (j + 1) c hc hjc hP hl) (by omega) (by omega) (by omega)
      refine ⟨Tf, g1, ?_⟩
      rw [e7] at g2
      exact g2
theorem ff_is (l : List Sp) (a : Int) (hn : l.length ≤ 10) (hS : SpFrom l 0) (h0 : 1 ≤ a) (h100 : a ≤ 100) (hcap : ∀ s ∈ l, s.f1 ≤ a) (B : List Int) (hB : Bst l a (2 ^ l.length) B) (k : Nat) (hk : l.length < k) :
    ∃ Tf, Part l a B Tf 0 ∧ ∀ k, l.length < k → impl_FarFirst.f k l a = some (Tf, true) := by
  have key : ∃ Tf, Part l a B Tf 0 ∧ impl_FarFirst.l0 (l.length + 1) l a [] 0 (wrap64 ((l.length : Int) - 1)) = some (Tf, true) := by
    rw [w64 (by omega) (by omega)]
    rcases Nat.eq_zero_or_pos l.length with e | e
    · refine ⟨[], ⟨by simp [e, dn], fun T hT => (by cases hT), by simp [wayT, e], by simp⟩, ?_⟩
      simp only [impl_FarFirst.l0]
      rw [if_neg (by omega)]
    · obtain ⟨j, hj⟩ : ∃ j, l.length = j + 1 := ⟨l.length - 1, by omega⟩
      have hj' : j < l.length := by omega
      have hld := hcap l[j] (List.getElem_mem hj')
      have hok := (hS j hj' (Nat.zero_le _)).1.2
      have e7 : ldT l (dn j 1) = l[j].f1 := by simp [dn, ldT, rdIShop l j hj']
      obtain ⟨Tf, g1, g2⟩ := ff_open l a hn hS h0 h100 hcap B hB j 1 [] l.length (by omega) (by omega) ⟨by simp [hj, dn], fun T hT => (by cases hT), by simp [wayT, hj], by simp; omega⟩ (by omega) (by omega) (by omega)
      refine ⟨Tf, g1, ?_⟩
      rw [e7] at g2
      have e1 : (l.length : Int) - 1 = (j : Int) := by omega
      have e5 : wrap64 ((j : Int) - 1) = (j : Int) - 1 := w64 (by omega) (by omega)
      simp only [impl_FarFirst.l0, e1, rdIShop l j hj', e5, List.length_nil]
      rw [if_pos (by omega), if_neg (by omega), if_pos (by omega), if_pos (by omega), if_pos (by omega), w64 (by omega) (by omega)]
      exact g2
  obtain ⟨Tf, g1, g2⟩ := key
  refine ⟨Tf, g1, fun k hk => ?_⟩
  have u2 := up_to (g := fun k => impl_FarFirst.l0 k l a [] 0 (wrap64 ((l.length : Int) - 1))) (fun k => (impl_FarFirst.mono_l k) _ _ _ _ _) g2 (show l.length + 1 ≤ k by omega)
  simp only [impl_FarFirst.f, carry_is l hn hS a h0 h100 hcap k hk, Option.bind_some, if_true]
  exact u2

/-! ### trips, good and bad; their way -/
theorem trips_good (l : List Sp) (hn : l.length ≤ 10) (hS : SpFrom l 0) (Ts : List (List Int)) (room : Int) (h0 : 1 ≤ room) (h1 : room ≤ 100) (hT : ∀ T ∈ Ts, T.length ≤ 1048576) (hin : ∀ x ∈ Ts.flatten, 0 ≤ x ∧ x < (l.length : Int)) (hnd : Ts.flatten.Nodup) (hlen : Ts.flatten.length = l.length) (hld : ∀ T ∈ Ts, ldT l T ≤ room) (k : Nat) (hk : 1048577 < k) : impl_TripsOk.f k l Ts room = some true := by
  have hok := sp_of l hS
  have hL : ∀ T ∈ Ts, impl_loadOf.f k l T = some (ldT l T) := fun T hTm => load_is l hok T (hT T hTm) (fun x hx => hin x (List.mem_flatten.2 ⟨T, hTm, hx⟩)) k (by have := hT T hTm; omega)
  simp only [impl_TripsOk.f, shopsV_is l hn hS k (by omega), Option.bind_some, if_true, in_is, (inB_iff 1 100 room).2 ⟨h0, h1⟩, slices_Concat_int_int.f]
  rw [if_pos (by omega), Option.bind_some, order_is l.length (by omega) Ts.flatten (by omega) k (by omega), Option.bind_some, if_pos (by
    rw [Bool.and_eq_true, okT_iff, decide_eq_true_eq, List.nil_append]
    exact ⟨⟨hin, hnd⟩, hlen⟩), if_pos (fun T hTm => by rw [hL T hTm]; rfl)]
  congr 1
  rw [Bool.not_eq_true', List.any_eq_false]
  intro T hTm
  have := hld T hTm
  unfold loadP
  rw [hL T hTm]
  simpa using this
theorem trips_bad (l : List Sp) (hn : l.length ≤ 10) (hS : SpFrom l 0) (Ts : List (List Int)) (room : Int) (h0 : 1 ≤ room) (h1 : room ≤ 100) (hlen : Ts.flatten.length = l.length + 1) (k : Nat) (hk : 1048577 < k) : impl_TripsOk.f k l Ts room = some false := by
  simp only [impl_TripsOk.f, shopsV_is l hn hS k (by omega), Option.bind_some, if_true, in_is, (inB_iff 1 100 room).2 ⟨h0, h1⟩, slices_Concat_int_int.f]
  rw [if_pos (by omega), Option.bind_some, order_is l.length (by omega) Ts.flatten (by omega) k (by omega), Option.bind_some, if_neg (by
    rw [Bool.and_eq_true, decide_eq_true_eq]
    omega)]
theorem way_i1 (l : List Sp) (hok : ∀ s ∈ l, okSp s) (Ts : List (List Int)) (hT : Ts.length ≤ 1048576) (t : Nat) (ht : t < Ts.length) (hTl : Ts[t].length ≤ 1048576) (hin : ∀ x ∈ Ts[t], 0 ≤ x ∧ x < (l.length : Int)) (tot : Int) (h0 : 0 ≤ tot) (h1 : tot ≤ 2000 * (t : Int)) (R : Int) (K : Nat) :
    ∀ (d j : Nat) (f : Int), j + d = Ts[t].length → 0 ≤ f → f ≤ 1000 →
      (∀ k, K ≤ k → impl_WayOf.l0 k l (tot + 2 * farT l (Ts[t].drop j) f) Ts (Ts.length : Int) ((t + 1 : Nat) : Int) = some R) → ∀ k, K + d + 1 ≤ k → impl_WayOf.l1 k l tot f Ts (Ts.length : Int) (t : Int) Ts[t] (Ts[t].length : Int) (j : Int) = some R := by
  intro d
  induction d with
  | zero =>
    intro j f hj f0 f1
    rw [List.drop_of_length_le (by omega)]
    intro h k hk
    obtain ⟨k, rfl⟩ : ∃ m, k = m + 1 := ⟨k - 1, by omega⟩
    have h' := h k (by omega)
    simp only [farT] at h'
    simp only [impl_WayOf.l1]
    rw [if_neg (by omega), wn t (by omega), w64 (show -9223372036854775808 ≤ 2 * f by omega) (by omega), w64 (by omega) (by omega)]
    exact h'
  | succ d ih =>
    intro j f hj f0 f1
    have hj' : j < Ts[t].length := by omega
    have hx := hin _ (List.getElem_mem hj')
    have hs := shop_at l hok _ hx.1 hx.2
    unfold okSp at hs
    have g2 := ih (j + 1) (mx f (rd_T35 l Ts[t][j]).f0) (by omega) (by unfold mx; split <;> omega) (by unfold mx; split <;> omega)
    rw [List.drop_eq_getElem_cons hj']
    simp only [farT]
    intro h k hk
    obtain ⟨k, rfl⟩ : ∃ m, k = m + 1 := ⟨k - 1, by omega⟩
    simp only [impl_WayOf.l1, rd_get _ j hj']
    rw [if_pos (by omega), if_pos (by omega), if_pos (by omega), if_pos hx.1, if_pos hx.2, wn j (by omega)]
    exact g2 h k (by omega)
theorem way_i0 (l : List Sp) (hok : ∀ s ∈ l, okSp s) (Ts : List (List Int)) (hT : Ts.length ≤ 1048576) (hTl : ∀ T ∈ Ts, T.length ≤ 1048576) (hin : ∀ T ∈ Ts, ∀ x ∈ T, 0 ≤ x ∧ x < (l.length : Int)) :
    ∀ (d t : Nat) (tot : Int), t + d = Ts.length → 0 ≤ tot → tot ≤ 2000 * (t : Int) → ∃ K, ∀ k, K ≤ k → impl_WayOf.l0 k l tot Ts (Ts.length : Int) (t : Int) = some (tot + wayT l (Ts.drop t)) := by
  intro d
  induction d with
  | zero =>
    intro t tot ht h0 h1
    refine ⟨1, fun k hk => ?_⟩
    obtain ⟨k, rfl⟩ : ∃ m, k = m + 1 := ⟨k - 1, by omega⟩
    rw [List.drop_of_length_le (by omega)]
    simp only [impl_WayOf.l0, wayT, Int.add_zero]
    rw [if_neg (by omega)]
  | succ d ih =>
    intro t tot ht h0 h1
    have ht' : t < Ts.length := by omega
    have hb := farT_bd l hok Ts[t] 0 (hin _ (List.getElem_mem ht')) (by omega) (by omega)
    obtain ⟨K, h⟩ := ih (t + 1) (tot + 2 * farT l Ts[t] 0) (by omega) (by omega) (by omega)
    have g2 := way_i1 l hok Ts hT t ht' (hTl _ (List.getElem_mem ht')) (hin _ (List.getElem_mem ht')) tot h0 h1 (tot + wayT l (Ts.drop t)) K Ts[t].length 0 0 (Nat.zero_add _) (by omega) (by omega)
    have e : tot + wayT l (Ts.drop t) = tot + 2 * farT l Ts[t] 0 + wayT l (Ts.drop (t + 1)) := by
      rw [List.drop_eq_getElem_cons ht']
      simp only [wayT]
      omega
    rw [List.drop_zero] at g2
    refine ⟨K + Ts[t].length + 2, fun k hk => ?_⟩
    obtain ⟨k, rfl⟩ : ∃ m, k = m + 1 := ⟨k - 1, by omega⟩
    simp only [impl_WayOf.l0, rdR Ts t ht']
    rw [if_pos (by omega), if_pos (by omega), if_pos (by omega)]
    exact g2 (fun k hk => by rw [e]; exact h k hk) k (by omega)
theorem way_good (l : List Sp) (hn : l.length ≤ 10) (hS : SpFrom l 0) (Ts : List (List Int)) (hTn : Ts.length ≤ 1048576) (hT : ∀ T ∈ Ts, T.length ≤ 1048576) (hin : ∀ x ∈ Ts.flatten, 0 ≤ x ∧ x < (l.length : Int)) (hnd : Ts.flatten.Nodup) (hlen : Ts.flatten.length = l.length) (hld : ∀ T ∈ Ts, ldT l T ≤ 100) : Ev (fun k => impl_WayOf.f k l Ts) (wayT l Ts) := by
  obtain ⟨K, h⟩ := way_i0 l (sp_of l hS) Ts hTn hT (fun T hTm x hx => hin x (List.mem_flatten.2 ⟨T, hTm, hx⟩)) Ts.length 0 0 (Nat.zero_add _) (by omega) (by omega)
  refine ⟨K + 1048578, fun k hk => ?_⟩
  have h' := h k (by omega)
  rw [List.drop_zero, Int.zero_add] at h'
  simp only [impl_WayOf.f, trips_good l hn hS Ts 100 (by omega) (by omega) hT hin hnd hlen hld k (by omega), Option.bind_some, if_true]
  exact h'
end Go.Proofs.Ytciceapcnjoogaa.Pure
