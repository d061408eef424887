/- Vans: the law. -/
import Derived.Test.YtciceapcnjoogaaPureVans
namespace Go.Proofs.Ytciceapcnjoogaa.Pure
set_option linter.unusedVariables false
set_option linter.unusedSimpArgs false
open Go.RowKit Go.Proofs.Ytciceapcnjoogaa.PDV Go.Proofs.Ytciceapcnjoogaa.Base Go.Proofs.YtciceapcnjoogaaW.PrintWords Go.Proofs.YtciceapcnjoogaaW.PrintLast

/-! ### what is drawn -/
def Dr (acc : List Sp) (p : Int) : Prop := ∀ (j : Nat) (s : Sp), acc[j]? = some s → okSp s ∧ s.f1 ≤ 30 ∧ s.f0 ≤ p ∧ (0 < j → ∀ q, acc[j - 1]? = some q → q.f0 < s.f0)
theorem draw_l0 (code : List Int) (hl : code.length ≤ 1048576) (N : Nat) (hN : N ≤ 6) : ∀ (d n : Nat) (acc : List Sp) (p ci h : Int), n + d = N → acc.length = n → Dr acc p → 0 ≤ p → p ≤ 40 * (n : Int) → Cur code ci →
    ∃ L ci' h', spec_l21List.l0 (d + 1) acc p (N : Int) (n : Int) code ci h = some (L, ci', h') ∧ L.length = N ∧ ∃ p', Dr L p' := by
  intro d
  induction d with
  | zero =>
    intro n acc p ci h hn ha hD h0 h1 hc
    refine ⟨acc, ci, h, ?_, by omega, p, hD⟩
    simp only [spec_l21List.l0]
    rw [if_neg (by omega)]
  | succ d ih =>
    intro n acc p ci h hn ha hD h0 h1 hc
    obtain ⟨v, ci1, hh1, e1, b0, b1, c1⟩ := below_is code ci h 40 hl hc (by omega)
    obtain ⟨u, ci2, hh2, e2, u0, u1, c2⟩ := below_is code ci1 hh1 30 hl c1 (by omega)
    have w1 : wrap64 (wrap64 (p + 1) + v) = p + 1 + v := by rw [w64 (show -9223372036854775808 ≤ p + 1 by omega) (by omega), w64 (by omega) (by omega)]
    have w2 : wrap64 (1 + u) = 1 + u := w64 (by omega) (by omega)
    obtain ⟨L, ci', h', q1, q2, q3⟩ := ih (n + 1) (acc ++ [⟨p + 1 + v, 1 + u⟩]) (p + 1 + v) ci2 hh2 (by omega) (by simp [ha]) (fun j s hj => by
      rcases Nat.lt_or_ge j acc.length with hlt | hge
      · rw [List.getElem?_append_left hlt] at hj
        obtain ⟨a1, a2, a3, a4⟩ := hD j s hj
        refine ⟨a1, a2, by omega, fun hj0 q hq => ?_⟩
        rw [List.getElem?_append_left (by omega)] at hq
        exact a4 hj0 q hq
      · have hj2 := (List.getElem?_eq_some_iff.1 hj).1
        rw [List.length_append, List.length_singleton] at hj2
        obtain rfl : j = acc.length := by omega
        rw [List.getElem?_append_right (Nat.le_refl _), Nat.sub_self] at hj
        obtain rfl : (⟨p + 1 + v, 1 + u⟩ : Sp) = s := by simpa using hj
        refine ⟨⟨⟨by show 1 ≤ p + 1 + v; omega, by show p + 1 + v ≤ 1000; omega⟩, by show 1 ≤ 1 + u; omega, by show 1 + u ≤ 100; omega⟩, by show 1 + u ≤ 30; omega, by show p + 1 + v ≤ p + 1 + v; omega, fun hj0 q hq => ?_⟩
        rw [List.getElem?_append_left (by omega)] at hq
        have := (hD _ q hq).2.2.1
        show q.f0 < p + 1 + v
        omega) (by omega) (by omega) c2
    refine ⟨L, ci', h', ?_, q2, q3⟩
    rw [show d + 1 + 1 = (d + 1) + 1 from rfl]
    simp only [spec_l21List.l0, e1, e2, Option.bind_some, w1, w2]
    rw [if_pos (by omega), if_pos (by omega), wn n (by omega)]
    exact q1
theorem draw_is (code : List Int) (hl : code.length ≤ 1048576) : ∃ l, (l.length ≤ 6 ∧ SpFrom l 0 ∧ ∀ s ∈ l, s.f1 ≤ 30) ∧ Ev (fun k => spec_DrawShops.f k code) l := by
  obtain ⟨h, e⟩ := new_is code (code.length + 1) hl (by omega)
  obtain ⟨v, i1, h1, e1, b0, b1, c1⟩ := below_is code 0 h 7 hl (cur0 code) (by omega)
  obtain ⟨N, rfl⟩ : ∃ N : Nat, v = (N : Int) := ⟨v.toNat, by omega⟩
  obtain ⟨L, i', h', g1, g2, p, g3⟩ := draw_l0 code hl N (by omega) N 0 [] 0 i1 h1 (by omega) rfl (fun j s hj => by simp at hj) (by omega) (by omega) c1
  refine ⟨L, ⟨by omega, fun j hj _ => ?_, fun s hs => ?_⟩, code.length + N + 2, fun k hk => ?_⟩
  · obtain ⟨a1, _, _, a4⟩ := g3 j L[j] (List.getElem?_eq_getElem hj)
    exact ⟨a1, fun h => a4 h _ (List.getElem?_eq_getElem (by omega))⟩
  · obtain ⟨j, hj, rfl⟩ := List.getElem_of_mem hs
    exact (g3 j L[j] (List.getElem?_eq_getElem hj)).2.1
  · have e3 := up_to (fun k => spec_l01New.mono code k) e (show code.length + 1 ≤ k by omega)
    have g1' := up_to (g := fun k => spec_l21List.l0 k [] 0 (N : Int) ((0 : Nat) : Int) code i1 h1) (fun k => (spec_l21List.mono_l k) _ _ _ _ _ _ _) g1 (show N + 1 ≤ k by omega)
    have g2' : spec_l21List.l0 k [] 0 (N : Int) 0 code i1 h1 = some (L, i', h') := g1'
    simp only [spec_DrawShops.f, e3, Option.bind_some, spec_l21List.f, e1]
    rw [g2']
    rfl

/-! ### each shop alone -/
def al : Nat → List (List Int)
  | 0 => []
  | i + 1 => al i ++ [[(i : Int)]]
theorem al_len : ∀ i, (al i).length = i
  | 0 => rfl
  | i + 1 => by simp [al, al_len i]
theorem al_row : ∀ (i : Nat) (T : List Int), T ∈ al i → ∃ x : Nat, x < i ∧ T = [(x : Int)]
  | i + 1, T, h => by
    simp only [al, List.mem_append, List.mem_singleton] at h
    rcases h with h | h
    · obtain ⟨x, h1, h2⟩ := al_row i T h
      exact ⟨x, by omega, h2⟩
    · exact ⟨i, by omega, h⟩
theorem al_flat (i : Nat) : (al (i + 1)).flatten = (al i).flatten ++ [(i : Int)] := by simp [al]
theorem al_mem : ∀ (i : Nat) (x : Int), x ∈ (al i).flatten → 0 ≤ x ∧ x < (i : Int)
  | i + 1, x, h => by
    rw [al_flat, List.mem_append, List.mem_singleton] at h
    rcases h with h | h
    · have := al_mem i x h
      omega
    · omega
theorem al_nd : ∀ i : Nat, (al i).flatten.Nodup
  | 0 => List.Pairwise.nil
  | i + 1 => by
    rw [al_flat, List.nodup_append]
    refine ⟨al_nd i, by simp, fun a ha b hb => ?_⟩
    rw [List.mem_singleton] at hb
    have := al_mem i a ha
    omega
theorem al_fl : ∀ i : Nat, (al i).flatten.length = i
  | 0 => rfl
  | i + 1 => by rw [al_flat, List.length_append, al_fl i]; rfl
def fm (l : List Sp) : Nat → Int
  | 0 => 0
  | i + 1 => (rd_T35 l (i : Int)).f0
theorem fm_step (l : List Sp) (hS : SpFrom l 0) : ∀ (i : Nat) (hi : i < l.length), mx (fm l i) l[i].f0 = l[i].f0
  | 0, hi => by
    have := (hS 0 hi (Nat.zero_le _)).1.1.1
    simp only [fm]
    unfold mx
    split <;> omega
  | i + 1, hi => by
    have h2 := (hS (i + 1) hi (Nat.zero_le _)).2 (by omega)
    simp only [Nat.add_sub_cancel] at h2
    simp only [fm, rdIShop l i (by omega)]
    unfold mx
    split <;> omega
theorem way_al (l : List Sp) (hS : SpFrom l 0) (i : Nat) (hi : i < l.length) : wayT l (al (i + 1)) = wayT l (al i) + 2 * l[i].f0 := by
  have h1 := (hS i hi (Nat.zero_le _)).1.1.1
  simp only [al, wayT_app, wayT, farT, rdIShop l i hi]
  have : mx 0 l[i].f0 = l[i].f0 := by unfold mx; split <;> omega
  rw [this]
  omega
theorem way_al_bd (l : List Sp) (hS : SpFrom l 0) : ∀ i : Nat, i ≤ l.length → 0 ≤ wayT l (al i) ∧ wayT l (al i) ≤ 2000 * (i : Int)
  | 0, _ => by simp [al, wayT]
  | i + 1, hi => by
    have h1 := (hS i (by omega) (Nat.zero_le _)).1.1
    have h2 := way_al_bd l hS i (by omega)
    rw [way_al l hS i (by omega)]
    omega
theorem al_le (l : List Sp) (a : Int) (hS : SpFrom l 0) (hcap : ∀ s ∈ l, s.f1 ≤ a) (B : List Int) (hB : Bst l a (2 ^ l.length) B) : ∀ i : Nat, i ≤ l.length → rd B ((2 ^ i - 1 : Nat) : Int) ≤ wayT l (al i)
  | 0, _ => by
    have := hB.1
    simp only [al, wayT]
    exact Int.le_of_eq this
  | i + 1, hi => by
    have hi' : i < l.length := by omega
    have h1 := al_le l a hS hcap B hB i (by omega)
    have h2 := dn_ld l 1 i (by omega)
    have e7 : ldT l (dn i 1) = l[i].f1 := by simp [dn, ldT, rdIShop l i hi']
    have h3 := hcap l[i] (List.getElem_mem hi')
    have h4 := seg_le l a B hB i (i + 1) (by omega) hi (by omega)
    rw [Nat.add_sub_cancel, rdIShop l i hi'] at h4
    rw [way_al l hS i hi']
    omega
theorem one_van (l : List Sp) (a : Int) (B : List Int) (hB : Bst l a (2 ^ l.length) B) (hl : ld l (2 ^ l.length - 1) l.length ≤ a) : rd B ((2 ^ l.length - 1 : Nat) : Int) ≤ 2 * fm l l.length := by
  have h0 := hB.1
  rcases Nat.eq_zero_or_pos l.length with e | e
  · rw [e]
    simp only [fm]
    exact Int.le_of_eq (by simpa using h0)
  · obtain ⟨j, hj⟩ : ∃ j, l.length = j + 1 := ⟨l.length - 1, by omega⟩
    have h1 := seg_le l a B hB 0 l.length e (Nat.le_refl _) (by simpa using hl)
    have h2 : rd B ((2 ^ 0 - 1 : Nat) : Int) = 0 := h0
    rw [h2] at h1
    have h3 : fm l l.length = (rd_T35 l ((l.length - 1 : Nat) : Int)).f0 := by
      rw [show l.length - 1 = j by omega, hj]
      rfl
    omega
theorem fm_le (l : List Sp) (a : Int) (B : List Int) (hB : Bst l a (2 ^ l.length) B) : 2 * fm l l.length ≤ rd B ((2 ^ l.length - 1 : Nat) : Int) := by
  have h0 := (hB.2 (2 ^ l.length - 1) (by have := Nat.two_pow_pos l.length; omega)).1.1
  rcases Nat.eq_zero_or_pos l.length with e | e
  · rw [show fm l l.length = 0 by rw [e]; rfl]
    omega
  · obtain ⟨j, hj⟩ : ∃ j, l.length = j + 1 := ⟨l.length - 1, by omega⟩
    have h1 := far_le l a B hB e
    have h3 : fm l l.length = (rd_T35 l ((l.length - 1 : Nat) : Int)).f0 := by
      rw [show l.length - 1 = j by omega, hj]
      rfl
    rw [h3]
    exact h1
theorem fm_bd (l : List Sp) (hS : SpFrom l 0) : ∀ i : Nat, i ≤ l.length → 0 ≤ fm l i ∧ fm l i ≤ 1000
  | 0, _ => by simp [fm]
  | i + 1, hi => by
    have h1 := (hS i (by omega) (Nat.zero_le _)).1.1
    simp only [fm, rdIShop l i (by omega)]
    omega

/-! ### the law's loops -/
theorem odd_shop (k : Nat) (hk : 2 < k) : impl_LeastWay.f k ([(⟨3, 5⟩ : Sp)] : List Sp) 4 = some (-1) := by
  have h : impl_canCarry.f k ([(⟨3, 5⟩ : Sp)] : List Sp) 4 = some false := by
    simp only [impl_canCarry.f, shopsV_is [(⟨3, 5⟩ : Sp)] (by simp) (fun j hj _ => by
      obtain rfl : j = 0 := by simp at hj; omega
      exact ⟨by unfold okSp; simp, fun h => absurd h (by omega)⟩) k (by simp; omega), Option.bind_some, if_true, in_is, (inB_iff 1 100 4).2 ⟨by omega, by omega⟩]
    rfl
  simp only [impl_LeastWay.f, h, Option.bind_some]
  rfl
theorem FnVans : laws_FnVans.Pure := by
  intro code hm hl hw
  by_cases hb : (code.length : Int) > 1048576
  · refine ⟨0, ?_⟩
    unfold laws_FnVans.f
    rw [big_is, decide_eq_true hb]
    rfl
  · have hcl : code.length ≤ 1048576 := by omega
    obtain ⟨l, ⟨h6, hS, h30⟩, Kd, hd⟩ := draw_is code hcl
    obtain ⟨v, hv, v0, v1⟩ := at_is code 0 (by omega) (by omega) hcl hw
    have t0 := Int.tmod_nonneg 70 v0
    have t1 := Int.tmod_lt_of_pos v (show (0 : Int) < 70 by omega)
    have hn : l.length ≤ 10 := by omega
    have hok := sp_of l hS
    obtain ⟨r, hr⟩ : ∃ r, r = 30 + Int.tmod v 70 := ⟨_, rfl⟩
    have ew : wrap64 (30 + Int.tmod v 70) = r := by rw [hr]; exact w64 (by omega) (by omega)
    have r0 : 30 ≤ r := by omega
    have r1 : r ≤ 99 := by omega
    have hcap : ∀ s ∈ l, s.f1 ≤ r := fun s hs => by have := h30 s hs; omega
    obtain ⟨B, hB, K1, g1⟩ := least_is l r hn hS (by omega) (by omega) hcap
    obtain ⟨B2, hB2, K2, g2⟩ := least_is l 100 hn hS (by omega) (by omega) (fun s hs => by have := h30 s hs; omega)
    obtain ⟨Tf, hP, gf⟩ := ff_is l r hn hS (by omega) (by omega) hcap B hB (l.length + 1) (by omega)
    obtain ⟨p1, p2, p3, p4⟩ := hP
    rw [Nat.sub_zero] at p1
    have hin : ∀ x ∈ Tf.flatten, 0 ≤ x ∧ x < (l.length : Int) := fun x hx => by
      rw [p1] at hx
      have := (dn_mem _ _ _).1 hx
      omega
    have hnd : Tf.flatten.Nodup := by
      rw [p1]
      exact (dn_desc l.length 0).imp (fun h => by omega)
    have hlen : Tf.flatten.length = l.length := by rw [p1, dn_len]
    have hTl : ∀ T ∈ Tf, T.length ≤ 1048576 := fun T hT => by have := (p2 T hT).2.2; omega
    obtain ⟨K3, g3⟩ := way_good l hn hS Tf (by omega) hTl hin hnd hlen (fun T hT => by have := (p2 T hT).2.1; omega)
    have hz : rd B ((2 ^ 0 - 1 : Nat) : Int) = 0 := hB.1
    rw [hz] at p3
    obtain ⟨V, hV⟩ : ∃ V, V = rd B ((2 ^ l.length - 1 : Nat) : Int) := ⟨_, rfl⟩
    have hpow := Nat.two_pow_pos l.length
    have hVb := (hB.2 (2 ^ l.length - 1) (by omega)).1.1
    have hmono := least_mono l r 100 (by omega) B B2 hB hB2 (2 ^ l.length - 1) (by omega)
    have hal := al_le l r hS hcap B hB l.length (Nat.le_refl _)
    have hfl := fm_le l r B hB
    have hov := one_van l r B hB
    have hbd := way_al_bd l hS l.length (Nat.le_refl _)
    have hfb := fm_bd l hS l.length (Nat.le_refl _)
    rw [← hV] at p3 hVb hmono hal hfl hov g1
    -- the trips go down
    have L1 : ∀ (d t : Nat), t + d = Tf.length → Ev (fun k => laws_FnVans.l1 k l r Tf V (t : Int)) true := by
      intro d
      induction d with
      | zero =>
        intro t ht
        refine ⟨K2 + 1048580, fun k hk => ?_⟩
        obtain ⟨k, rfl⟩ : ∃ m, k = m + 1 := ⟨k - 1, by omega⟩
        have u2 := g2 k (by omega)
        simp only at u2
        have hbad := trips_bad l hn hS (Tf ++ [[0]]) r (by omega) (by omega) (by rw [List.flatten_append, List.length_append, hlen]; rfl) k (by omega)
        simp only [laws_FnVans.l1, u2, Option.bind_some, List.length_nil, List.nil_append, shopsV_is l hn hS k (by omega), if_true, hbad, Bool.false_eq_true, if_false, odd_shop k (by omega)]
        rw [if_neg (by omega), if_pos (by omega), if_pos (by omega), if_pos (by omega)]
        rfl
      | succ d ih =>
        intro t ht
        have ht' : t < Tf.length := by omega
        obtain ⟨K, q⟩ := ih (t + 1) (by omega)
        have hdesc := (p2 _ (List.getElem_mem ht')).1
        have hTb := (p2 _ (List.getElem_mem ht')).2.2
        have L2 : ∀ (e i : Nat), Tf[t].length ≤ i + e → 1 ≤ i → i ≤ Tf[t].length + 1 → Ev (fun k => laws_FnVans.l2 k l r Tf V (t : Int) (i : Int)) true := by
          intro e
          induction e with
          | zero =>
            intro i h1 h2 h3
            refine ⟨K + 1, fun k hk => ?_⟩
            obtain ⟨k, rfl⟩ : ∃ m, k = m + 1 := ⟨k - 1, by omega⟩
            simp only [laws_FnVans.l2, rdR Tf t ht']
            rw [if_pos (by omega), if_pos (by omega), if_neg (by omega), wn t (by omega)]
            exact q k (by omega)
          | succ e ie =>
            intro i h1 h2 h3
            by_cases hi : i < Tf[t].length
            · obtain ⟨K', q'⟩ := ie (i + 1) (by omega) (by omega) (by omega)
              refine ⟨K' + 1, fun k hk => ?_⟩
              obtain ⟨k, rfl⟩ : ∃ m, k = m + 1 := ⟨k - 1, by omega⟩
              have e1 : wrap64 ((i : Int) - 1) = ((i - 1 : Nat) : Int) := by rw [w64 (by omega) (by omega)]; omega
              have hlt := List.pairwise_iff_getElem.1 hdesc (i - 1) i (by omega) hi (by omega)
              simp only [laws_FnVans.l2, rdR Tf t ht', e1, rd_get _ i hi, rd_get _ (i - 1) (show i - 1 < Tf[t].length by omega)]
              rw [if_pos (by omega), if_pos (by omega), if_pos (by omega), if_pos (by omega), if_pos (by omega), if_pos (by omega), if_neg (by omega), wn i (by omega)]
              exact q' k (by omega)
            · refine ⟨K + 1, fun k hk => ?_⟩
              obtain ⟨k, rfl⟩ : ∃ m, k = m + 1 := ⟨k - 1, by omega⟩
              simp only [laws_FnVans.l2, rdR Tf t ht']
              rw [if_pos (by omega), if_pos (by omega), if_neg (by omega), wn t (by omega)]
              exact q k (by omega)
        obtain ⟨K', q'⟩ := L2 Tf[t].length 1 (by omega) (by omega) (by omega)
        refine ⟨K' + 1, fun k hk => ?_⟩
        obtain ⟨k, rfl⟩ : ∃ m, k = m + 1 := ⟨k - 1, by omega⟩
        simp only [laws_FnVans.l1]
        rw [if_pos (by omega)]
        exact q' k (by omega)
    obtain ⟨K4, q4⟩ := L1 Tf.length 0 (by omega)
    have J2 : ∀ k, K4 + 1 ≤ k → laws_FnVans.j2 k l r Tf V false = some true := fun k hk => by
      obtain ⟨k, rfl⟩ : ∃ m, k = m + 1 := ⟨k - 1, by omega⟩
      simp only [laws_FnVans.j2]
      rw [if_neg (by simp)]
      exact q4 k (by omega)
    obtain ⟨K5, g5⟩ := way_good l hn hS (al l.length) (by rw [al_len]; omega) (fun T hT => by
      obtain ⟨x, _, rfl⟩ := al_row _ _ hT
      simp) (fun x hx => al_mem _ _ hx) (al_nd _) (al_fl _) (fun T hT => by
      obtain ⟨x, hx, rfl⟩ := al_row _ _ hT
      have := h30 l[x] (List.getElem_mem hx)
      simp only [ldT, rdIShop l x hx]
      omega)
    have L0 : ∀ (d i : Nat), i + d = l.length → Ev (fun k => laws_FnVans.l0 k l r Tf V (al i) (ld l (2 ^ l.length - 1) i) (fm l i) (wayT l (al i)) (i : Int)) true := by
      intro d
      induction d with
      | zero =>
        intro i hi
        obtain rfl : i = l.length := by omega
        refine ⟨K4 + K5 + 2, fun k hk => ?_⟩
        obtain ⟨k, rfl⟩ : ∃ m, k = m + 1 := ⟨k - 1, by omega⟩
        have u5 := g5 k (by omega)
        simp only at u5
        have ef : wrap64 (2 * fm l l.length) = 2 * fm l l.length := w64 (by omega) (by omega)
        simp only [laws_FnVans.l0, u5, Option.bind_some, if_true, ef]
        rw [if_neg (by omega), if_neg (by omega), if_neg (by omega)]
        by_cases hx : ld l (2 ^ l.length - 1) l.length ≤ r
        · have hv2 := hov hx
          rw [if_pos hx, show (V != 2 * fm l l.length) = false by rw [show V = 2 * fm l l.length by omega]; simp]
          exact J2 k (by omega)
        · rw [if_neg hx]
          exact J2 k (by omega)
      | succ d ih =>
        intro i hi
        have hi' : i < l.length := by omega
        obtain ⟨K, q⟩ := ih (i + 1) (by omega)
        refine ⟨K + 1, fun k hk => ?_⟩
        obtain ⟨k, rfl⟩ : ∃ m, k = m + 1 := ⟨k - 1, by omega⟩
        have b1 := ld_bd l hok (2 ^ l.length - 1) i (by omega)
        have b2 := way_al_bd l hS i (by omega)
        have hoi := (hS i hi' (Nat.zero_le _)).1
        unfold okSp at hoi
        have e1 : wrap64 (ld l (2 ^ l.length - 1) i + l[i].f1) = ld l (2 ^ l.length - 1) (i + 1) := by
          rw [w64 (by omega) (by omega)]
          simp only [ld, rdIShop l i hi']
          rw [if_pos (by rw [Nat.testBit_two_pow_sub_one]; simp; omega)]
        have e2 : wrap64 (wayT l (al i) + wrap64 (2 * l[i].f0)) = wayT l (al (i + 1)) := by
          rw [way_al l hS i hi', w64 (show -9223372036854775808 ≤ 2 * l[i].f0 by omega) (by omega), w64 (by omega) (by omega)]
        have e3 : fm l (i + 1) = l[i].f0 := by simp only [fm]; rw [rdIShop l i hi']
        have u := q k (by omega)
        simp only [e3] at u
        simp only [laws_FnVans.l0, rdIShop l i hi', al_len, fm_step l hS i hi', e1, e2]
        rw [if_pos (by omega), if_pos (by omega), if_pos (by omega), wn i (by omega)]
        exact u
    obtain ⟨K6, g6⟩ := L0 l.length 0 (by omega)
    obtain ⟨k, hk⟩ : ∃ k, k = Kd + K1 + K3 + K6 + 1048600 := ⟨_, rfl⟩
    have d1 := hd k (by omega)
    have d2 := g1 k (by omega)
    have d3 := g3 k (by omega)
    have d4 := gf k (by omega)
    have d5 := trips_good l hn hS Tf r (by omega) (by omega) hTl hin hnd hlen (fun T hT => (p2 T hT).2.1) k (by omega)
    simp only at d1 d2 d3
    have J0 : laws_FnVans.j0 k l r Tf V false = some true := by
      obtain ⟨m, hm⟩ : ∃ m, k = m + 1 := ⟨k - 1, by omega⟩
      have u := g6 m (by omega)
      rw [hm]
      simp only [laws_FnVans.j0]
      rw [if_neg (by simp)]
      exact u
    refine ⟨k, ?_⟩
    unfold laws_FnVans.f
    rw [big_is, decide_eq_false hb]
    simp only [Option.bind_some, Bool.false_eq_true, if_false, d1, hv, ew, d2, d3, d4, d5, if_true]
    rw [if_neg (by omega), if_neg (by omega), decide_eq_false (by omega)]
    exact J0
end Go.Proofs.Ytciceapcnjoogaa.Pure
