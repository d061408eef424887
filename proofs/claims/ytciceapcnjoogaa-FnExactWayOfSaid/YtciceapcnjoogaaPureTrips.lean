/- Trips: both say the same of them. -/
import Derived.Test.YtciceapcnjoogaaPureSh
namespace Go.Proofs.Ytciceapcnjoogaa.Pure
set_option linter.unusedVariables false
set_option linter.unusedSimpArgs false
open Go.RowKit Go.Proofs.Ytciceapcnjoogaa.PDT Go.Proofs.Ytciceapcnjoogaa.Base Go.Proofs.YtciceapcnjoogaaW.PrintWords Go.Proofs.YtciceapcnjoogaaW.PrintLast

/-! ### rows of rows: the laws' own functions -/
theorem rdR (xs : List (List Int)) (i : Nat) (h : i < xs.length) : rd_L3 xs (i : Int) = xs[i] := by simp [rd_L3, h]
theorem szR_l (l : List (List Int)) (hm : ∀ x ∈ l, x.length ≤ maxLen) (hb : l.length ≤ 9223372036854775800) : ∀ (d k n : Nat) (a : Int), n + d = l.length → d < k → 0 ≤ a → a ≤ 1048576 →
    ∃ r, laws_szIntSS.l0 k l a (n : Int) = some r ∧ (0 ≤ r → ((l.drop n).flatten.length : Int) ≤ a) := by
  intro d
  induction d with
  | zero =>
    intro k n a hn hk h0 h1
    obtain ⟨k, rfl⟩ : ∃ m, k = m + 1 := ⟨k - 1, by omega⟩
    simp only [laws_szIntSS.l0]
    rw [if_neg (by omega), List.drop_of_length_le (by omega)]
    exact ⟨_, rfl, fun _ => by simpa using h0⟩
  | succ d ih =>
    intro k n a hn hk h0 h1
    obtain ⟨k, rfl⟩ : ∃ m, k = m + 1 := ⟨k - 1, by omega⟩
    have hn' : n < l.length := by omega
    have hx := hm l[n] (List.getElem_mem hn')
    simp only [maxLen] at hx
    simp only [laws_szIntSS.l0, laws_szIntS.f, rdR l n hn']
    rw [if_pos (by omega), if_pos (by omega), w64 (by omega) (by omega), wn n (by omega)]
    by_cases hneg : a - (l[n].length : Int) < 0
    · exact ⟨-1, by simp [hneg], fun h => absurd h (by omega)⟩
    · obtain ⟨r, g1, g2⟩ := ih k (n + 1) (a - (l[n].length : Int)) (by omega) (by omega) (by omega) (by omega)
      refine ⟨r, by rw [if_neg hneg]; simp only [Option.bind_some]; rw [if_neg hneg]; exact g1, fun h => ?_⟩
      have := g2 h
      rw [List.drop_eq_getElem_cons hn', List.flatten_cons, List.length_append]
      omega
theorem szR_is (l : List (List Int)) (k : Nat) (a : Int) (h0 : 0 ≤ a) (h1 : a ≤ 1048576) (hl : l.length ≤ maxLen) (hm : ∀ x ∈ l, x.length ≤ maxLen) (hk : l.length < k) : ∃ r, laws_szIntSS.f k l a = some r ∧ (0 ≤ r → l.length ≤ 1048576 ∧ l.flatten.length ≤ 1048576) := by
  simp only [maxLen] at hl
  unfold laws_szIntSS.f
  rw [w64 (by omega) (by omega)]
  by_cases h : a - (l.length : Int) < 0
  · rw [if_pos h]
    exact ⟨-1, rfl, fun h => absurd h (by omega)⟩
  · rw [if_neg h]
    obtain ⟨r, g1, g2⟩ := szR_l l hm (by omega) l.length k 0 _ (by omega) hk (by omega) (show a - (l.length : Int) ≤ 1048576 by omega)
    refine ⟨r, g1, fun h0 => ?_⟩
    have := g2 h0
    rw [List.drop_zero] at this
    omega
theorem row_le (l : List (List Int)) (x : List Int) (hx : x ∈ l) : x.length ≤ l.flatten.length := by
  induction l with
  | nil => cases hx
  | cons y l ih =>
    rw [List.flatten_cons, List.length_append]
    rcases List.mem_cons.1 hx with rfl | hx
    · omega
    · have := ih hx; omega
theorem toR_l (a : List (List Int)) (hm : ∀ x ∈ a, x.length ≤ 1048576) (hb : a.length ≤ 9223372036854775800) : ∀ (d : Nat) (k n : Nat) (x : List (List Int)), n + d = a.length → d + 1048577 < k → x.length = a.length → (∀ j, j < n → x[j]? = a[j]?) → laws_toIntSS.l0 k a x (n : Int) = some a := by
  intro d
  induction d with
  | zero =>
    intro k n x hn hk hx hj
    obtain ⟨k, rfl⟩ : ∃ m, k = m + 1 := ⟨k - 1, by omega⟩
    simp only [laws_toIntSS.l0]
    rw [if_neg (by omega)]
    congr 1
    apply List.ext_getElem?
    intro j
    by_cases h : j < n
    · exact hj j h
    · rw [List.getElem?_eq_none (by omega), List.getElem?_eq_none (by omega)]
  | succ d ih =>
    intro k n x hn hk hx hj
    obtain ⟨k, rfl⟩ : ∃ m, k = m + 1 := ⟨k - 1, by omega⟩
    have hn' : n < a.length := by omega
    have hq := hm a[n] (List.getElem_mem hn')
    simp only [laws_toIntSS.l0, rdR a n hn']
    rw [if_pos (by omega), if_pos (by omega), toInts _ k (by omega) (by omega)]
    simp only [Option.bind_some]
    rw [if_pos (by omega), wn n (by omega)]
    refine ih k (n + 1) _ (by omega) (by omega) (by simp [hx]) (fun j hjn => ?_)
    by_cases e : j = n
    · subst e
      simp [hx, hn']
    · rw [show ((n : Int)).toNat = n by omega, List.getElem?_set_ne (by omega)]
      exact hj j (by omega)
theorem toR_is (a : List (List Int)) (k : Nat) (ha : a.length ≤ 1048576) (hm : ∀ x ∈ a, x.length ≤ 1048576) (hk : a.length + 1048577 < k) : laws_toIntSS.f k a = some a := by
  unfold laws_toIntSS.f
  rw [if_pos (by omega), if_pos (by omega)]
  have := toR_l a hm (by omega) a.length k 0 (List.replicate a.length []) (by omega) hk (by simp) (fun j h => absurd h (by omega))
  simpa using this
theorem eqR_l (a : List (List Int)) (hm : ∀ x ∈ a, x.length ≤ 1048576) (hb : a.length ≤ 9223372036854775800) : ∀ (d : Nat) (k n : Nat), n + d = a.length → d + 1048577 < k → laws_eqIntSS.l0 k a a (n : Int) = some true := by
  intro d
  induction d with
  | zero =>
    intro k n hn hk
    obtain ⟨k, rfl⟩ : ∃ m, k = m + 1 := ⟨k - 1, by omega⟩
    simp only [laws_eqIntSS.l0]
    rw [if_neg (by omega)]
  | succ d ih =>
    intro k n hn hk
    obtain ⟨k, rfl⟩ : ∃ m, k = m + 1 := ⟨k - 1, by omega⟩
    have hn' : n < a.length := by omega
    have hq := hm a[n] (List.getElem_mem hn')
    simp only [laws_eqIntSS.l0, rdR a n hn']
    rw [if_pos (by omega), if_pos (by omega), if_pos (by omega), eqInts _ _ k (by omega) (by omega), wn n (by omega)]
    simp only [decide_true, Option.bind_some, if_true]
    exact ih k (n + 1) (by omega) (by omega)
theorem eqR_is (a : List (List Int)) (k : Nat) (ha : a.length ≤ 1048576) (hm : ∀ x ∈ a, x.length ≤ 1048576) (hk : a.length + 1048577 < k) : laws_eqIntSS.f k a a = some true := by
  unfold laws_eqIntSS.f
  rw [if_pos rfl]
  exact eqR_l a hm (by omega) a.length k 0 (by omega) hk

/-! ### what is a good list of trips -/
def inN (n : Nat) (x : Int) : Bool := inB 0 ((n : Int) - 1) x
theorem inN_iff (n : Nat) (x : Int) : inN n x = true ↔ 0 ≤ x ∧ x < (n : Int) := by
  unfold inN
  rw [inB_iff]
  omega
def ldT (l : List Sp) : List Int → Int
  | [] => 0
  | x :: xs => (rd_T35 l x).f1 + ldT l xs
def okT (n : Nat) (ms T : List Int) : Bool := T.all (inN n) && decide ((ms ++ T).Nodup)
def tripsR (l : List Sp) (room : Int) : List (List Int) → List Int → Bool
  | [], ms => decide (ms.length = l.length)
  | T :: Ts, ms => if okT l.length ms T = true then (if ldT l T ≤ room then tripsR l room Ts (ms ++ T) else false) else false
theorem okT_iff (n : Nat) (ms T : List Int) : okT n ms T = true ↔ (∀ x ∈ T, 0 ≤ x ∧ x < (n : Int)) ∧ (ms ++ T).Nodup := by
  unfold okT
  rw [Bool.and_eq_true, List.all_eq_true, decide_eq_true_eq]
  simp only [inN_iff]
theorem nodup_left {a b : List Int} (h : (a ++ b).Nodup) : a.Nodup := by
  rw [List.nodup_append] at h
  exact h.1
theorem tripsR_iff (l : List Sp) (room : Int) : ∀ (Ts : List (List Int)) (ms : List Int), ms.Nodup → (tripsR l room Ts ms = true ↔ (∀ x ∈ Ts.flatten, 0 ≤ x ∧ x < (l.length : Int)) ∧ (ms ++ Ts.flatten).Nodup ∧ ms.length + Ts.flatten.length = l.length ∧ ∀ T ∈ Ts, ldT l T ≤ room)
  | [], ms, h => by
    simp only [tripsR, List.flatten_nil, List.append_nil, decide_eq_true_eq]
    simp [h]
  | T :: Ts, ms, h => by
    simp only [tripsR]
    by_cases h1 : okT l.length ms T = true
    · rw [if_pos h1]
      have h2 := (okT_iff _ _ _).1 h1
      by_cases h3 : ldT l T ≤ room
      · rw [if_pos h3, tripsR_iff l room Ts (ms ++ T) h2.2, List.flatten_cons, List.append_assoc, List.length_append, List.length_append]
        constructor
        · rintro ⟨a, b, c, d⟩
          refine ⟨fun x hx => ?_, b, by omega, fun T' hT' => ?_⟩
          · rcases List.mem_append.1 hx with hx | hx
            · exact h2.1 x hx
            · exact a x hx
          · rcases List.mem_cons.1 hT' with rfl | hT'
            · exact h3
            · exact d T' hT'
        · rintro ⟨a, b, c, d⟩
          exact ⟨fun x hx => a x (List.mem_append_right _ hx), b, by omega, fun T' hT' => d T' (List.mem_cons_of_mem _ hT')⟩
      · rw [if_neg h3]
        exact ⟨fun h => (by cases h), fun h => absurd (h.2.2.2 T (by simp)) h3⟩
    · rw [if_neg h1]
      refine ⟨fun h => (by cases h), fun h => absurd ((okT_iff _ _ _).2 ⟨fun x hx => h.1 x (by rw [List.flatten_cons]; exact List.mem_append_left _ hx), ?_⟩) h1⟩
      have := h.2.1
      rw [List.flatten_cons, ← List.append_assoc] at this
      exact nodup_left this
theorem pig : ∀ (n : Nat) (o : List Int), o.Nodup → (∀ x ∈ o, 0 ≤ x ∧ x < (n : Int)) → o.length ≤ n
  | 0, o, _, h => by
    cases o with
    | nil => simp
    | cons x o => have := h x (by simp); omega
  | n + 1, o, hd, h => by
    by_cases hm : (n : Int) ∈ o
    · have h1 := pig n (o.erase (n : Int)) (hd.erase _) (fun x hx => by
        have h2 := (List.Nodup.mem_erase_iff hd).1 hx
        have h3 := h x h2.2
        have := h2.1
        omega)
      rw [List.length_erase_of_mem hm] at h1
      omega
    · have h1 := pig n o hd (fun x hx => by
        have h3 := h x hx
        have : x ≠ (n : Int) := fun e => hm (e ▸ hx)
        omega)
      omega
/-! ### the reference's loops -/
def Mk (n : Nat) (ms : List Int) (mk : List Bool) : Prop := mk.length = n ∧ ∀ i : Nat, i < n → mk[i]? = some (ms.contains (i : Int))
theorem mk_rd (n : Nat) (ms : List Int) (mk : List Bool) (h : Mk n ms mk) (x : Int) (h0 : 0 ≤ x) (h1 : x < (n : Int)) : rdOf false mk x = ms.contains x := by
  have := h.2 x.toNat (by omega)
  unfold rdOf
  rw [List.getD_eq_getElem?_getD, this, show ((x.toNat : Nat) : Int) = x by omega]
  rfl
theorem mk_step (n : Nat) (ms : List Int) (mk : List Bool) (h : Mk n ms mk) (x : Int) (h0 : 0 ≤ x) (h1 : x < (n : Int)) : Mk n (ms ++ [x]) (mk.set x.toNat true) := by
  refine ⟨by rw [List.length_set]; exact h.1, fun i hi => ?_⟩
  have hl := h.1
  by_cases e : i = x.toNat
  · subst e
    rw [List.getElem?_set_self (by omega)]
    simp; omega
  · rw [List.getElem?_set_ne (fun q => e q.symm), h.2 i hi]
    have : ¬ ((i : Int) = x) := by omega
    simp [this]
section
variable (l : List Sp) (hl : l.length ≤ 10) (hok : ∀ s ∈ l, okSp s) (Ts : List (List Int)) (hT : Ts.length ≤ 1048576) (hTl : ∀ T ∈ Ts, T.length ≤ 1048576) (room : Int)
theorem shop_at (l : List Sp) (hok : ∀ s ∈ l, okSp s) (x : Int) (h0 : 0 ≤ x) (h1 : x < (l.length : Int)) : okSp (rd_T35 l x) := by
  obtain ⟨X, rfl⟩ : ∃ X : Nat, x = (X : Int) := ⟨x.toNat, by omega⟩
  rw [rdIShop l X (by omega)]
  exact hok _ (List.getElem_mem _)
end
theorem trip_l1 (l : List Sp) (hl : l.length ≤ 10) (hok : ∀ s ∈ l, okSp s) (Ts : List (List Int)) (hT : Ts.length ≤ 1048576) (room : Int) (t : Nat) (ht : t < Ts.length) (hTl : Ts[t].length ≤ 1048576) (R : Bool) :
    ∀ (d j : Nat) (ms : List Int) (mk : List Bool) (ld : Int), j + d = Ts[t].length → Mk l.length ms mk → ms.Nodup → (∀ x ∈ ms, 0 ≤ x ∧ x < (l.length : Int)) → 0 ≤ ld → ld ≤ 100 * (ms.length : Int) →
      (okT l.length ms (Ts[t].drop j) = true → ∀ mk', Mk l.length (ms ++ Ts[t].drop j) mk' → Ev (fun k => if ld + ldT l (Ts[t].drop j) > room then some false else spec_TripsOk.l0 k l Ts room mk' ((ms ++ Ts[t].drop j).length : Int) ((t + 1 : Nat) : Int)) R) →
      (okT l.length ms (Ts[t].drop j) = false → R = false) → Ev (fun k => spec_TripsOk.l1 k l Ts room mk (ms.length : Int) (t : Int) ld (j : Int)) R := by
  intro d
  induction d with
  | zero =>
    intro j ms mk ld hj hM hd hr h0 h1 hc hf
    have hp := pig l.length ms hd hr
    rw [List.drop_of_length_le (by omega)] at hc hf
    obtain ⟨K, h⟩ := hc ((okT_iff _ _ _).2 ⟨fun x hx => (by cases hx), by simpa using hd⟩) mk (by simpa using hM)
    refine ⟨K + 1, fun k hk => ?_⟩
    obtain ⟨k, rfl⟩ : ∃ m, k = m + 1 := ⟨k - 1, by omega⟩
    have h' := h k (by omega)
    simp only [ldT, Int.add_zero, List.append_nil] at h'
    simp only [spec_TripsOk.l1, rdR Ts t ht]
    rw [if_pos (by omega), if_pos (by omega), if_neg (by omega), wn t (by omega)]
    exact h'
  | succ d ih =>
    intro j ms mk ld hj hM hd hr h0 h1 hc hf
    have hp := pig l.length ms hd hr
    have hj' : j < Ts[t].length := by omega
    rw [List.drop_eq_getElem_cons hj'] at hc hf
    generalize hx : Ts[t][j] = x at hc hf
    have hw : wrap64 ((l.length : Int) - 1) = (l.length : Int) - 1 := w64 (by omega) (by omega)
    cases hi : inB 0 ((l.length : Int) - 1) x with
    | false =>
      have hR : R = false := hf (by unfold okT; simp [inN, hi])
      refine ⟨1, fun k hk => ?_⟩
      obtain ⟨k, rfl⟩ : ∃ m, k = m + 1 := ⟨k - 1, by omega⟩
      simp only [spec_TripsOk.l1, rdR Ts t ht, rd_get _ j hj', hx, hw, spec_in, Option.bind_some, hi]
      rw [if_pos (by omega), if_pos (by omega), if_pos (by omega), if_pos (by omega), if_neg (by simp), hR]
    | true =>
      have hxi := (inB_iff _ _ _).1 hi
      have hx1 : x < (l.length : Int) := by omega
      have hml := hM.1
      have hrd := mk_rd l.length ms mk hM x hxi.1 hx1
      by_cases hin : x ∈ ms
      · have hR : R = false := hf (by
          cases q : okT l.length ms (x :: Ts[t].drop (j + 1)) with
          | false => rfl
          | true =>
            have := ((okT_iff _ _ _).1 q).2
            rw [List.nodup_append] at this
            exact absurd rfl (this.2.2 x hin x (by simp)))
        refine ⟨1, fun k hk => ?_⟩
        obtain ⟨k, rfl⟩ : ∃ m, k = m + 1 := ⟨k - 1, by omega⟩
        simp only [spec_TripsOk.l1, rdR Ts t ht, rd_get _ j hj', hx, hw, spec_in, Option.bind_some, hi, hrd]
        rw [if_pos (by omega), if_pos (by omega), if_pos (by omega), if_pos (by omega), if_pos trivial, if_pos hxi.1, if_pos (by omega), if_pos (List.contains_iff_mem.2 hin), hR]
      · have hs := shop_at l hok x hxi.1 hx1
        unfold okSp at hs
        have hd2 : (ms ++ [x]).Nodup := by
          rw [List.nodup_append]
          refine ⟨hd, by simp, fun y hy z hz => ?_⟩
          rw [List.mem_singleton] at hz
          subst hz
          exact fun e => hin (e ▸ hy)
        have hr2 : ∀ y ∈ ms ++ [x], 0 ≤ y ∧ y < (l.length : Int) := fun y hy => by
          rcases List.mem_append.1 hy with hy | hy
          · exact hr y hy
          · rw [List.mem_singleton] at hy; subst hy; exact ⟨hxi.1, hx1⟩
        have hp2 := pig l.length _ hd2 hr2
        rw [List.length_append, List.length_singleton] at hp2
        have eok : okT l.length (ms ++ [x]) (Ts[t].drop (j + 1)) = okT l.length ms (x :: Ts[t].drop (j + 1)) := by
          unfold okT
          rw [List.all_cons, show inN l.length x = true from hi, Bool.true_and, List.append_assoc]
          rfl
        obtain ⟨K, h⟩ := ih (j + 1) (ms ++ [x]) (mk.set x.toNat true) (ld + (rd_T35 l x).f1) (by omega) (mk_step l.length ms mk hM x hxi.1 hx1) hd2 hr2 (by omega) (by rw [List.length_append, List.length_singleton]; omega) (fun ho mk' hm' => by
          have := hc (by rw [← eok]; exact ho) mk' (by rw [List.append_assoc] at hm'; exact hm')
          simp only [ldT, ← Int.add_assoc] at this
          rw [List.append_assoc]
          exact this) (fun ho => hf (by rw [← eok]; exact ho))
        refine ⟨K + 1, fun k hk => ?_⟩
        obtain ⟨k, rfl⟩ : ∃ m, k = m + 1 := ⟨k - 1, by omega⟩
        have h' := h k (by omega)
        simp only [List.length_append, List.length_singleton] at h'
        simp only [spec_TripsOk.l1, rdR Ts t ht, rd_get _ j hj', hx, hw, spec_in, Option.bind_some, hi, hrd]
        rw [if_pos (by omega), if_pos (by omega), if_pos (by omega), if_pos (by omega), if_pos trivial, if_pos hxi.1, if_pos (by omega), if_neg (fun q => hin (List.contains_iff_mem.1 q)), if_pos hx1, w64 (by omega) (by omega), w64 (by omega) (by omega), wn j (by omega)]
        exact h'
theorem trip_l0 (l : List Sp) (hl : l.length ≤ 10) (hok : ∀ s ∈ l, okSp s) (Ts : List (List Int)) (hT : Ts.length ≤ 1048576) (hTl : ∀ T ∈ Ts, T.length ≤ 1048576) (room : Int) :
    ∀ (d t : Nat) (ms : List Int) (mk : List Bool), t + d = Ts.length → Mk l.length ms mk → ms.Nodup → (∀ x ∈ ms, 0 ≤ x ∧ x < (l.length : Int)) → Ev (fun k => spec_TripsOk.l0 k l Ts room mk (ms.length : Int) (t : Int)) (tripsR l room (Ts.drop t) ms) := by
  intro d
  induction d with
  | zero =>
    intro t ms mk ht hM hd hr
    refine ⟨1, fun k hk => ?_⟩
    obtain ⟨k, rfl⟩ : ∃ m, k = m + 1 := ⟨k - 1, by omega⟩
    rw [List.drop_of_length_le (by omega)]
    simp only [spec_TripsOk.l0, tripsR]
    rw [if_neg (by omega)]
    congr 1
    rw [Bool.eq_iff_iff, beq_iff_eq, decide_eq_true_eq]
    omega
  | succ d ih =>
    intro t ms mk ht hM hd hr
    have ht' : t < Ts.length := by omega
    obtain ⟨K, h⟩ := trip_l1 l hl hok Ts hT room t ht' (hTl _ (List.getElem_mem ht')) (tripsR l room (Ts.drop t) ms) Ts[t].length 0 ms mk 0 (Nat.zero_add _) hM hd hr (by omega) (by omega) (fun ho mk' hm' => by
      rw [List.drop_zero] at ho hm' ⊢
      have h2 := (okT_iff _ _ _).1 ho
      rw [List.drop_eq_getElem_cons ht', Int.zero_add]
      simp only [tripsR]
      rw [if_pos ho]
      by_cases q : ldT l Ts[t] ≤ room
      · obtain ⟨K, h⟩ := ih (t + 1) (ms ++ Ts[t]) mk' (by omega) hm' h2.2 (fun x hx => by
          rcases List.mem_append.1 hx with hx | hx
          · exact hr x hx
          · exact h2.1 x hx)
        refine ⟨K, fun k hk => ?_⟩
        show (if ldT l Ts[t] > room then some false else _) = _
        rw [if_neg (fun e => absurd q (by omega)), if_pos q]
        exact h k hk
      · refine ⟨0, fun k hk => ?_⟩
        show (if ldT l Ts[t] > room then some false else _) = _
        rw [if_pos (show ldT l Ts[t] > room by omega), if_neg q]) (fun ho => by
      rw [List.drop_zero] at ho
      rw [List.drop_eq_getElem_cons ht']
      simp only [tripsR]
      rw [if_neg (by simp [ho])])
    refine ⟨K + 1, fun k hk => ?_⟩
    obtain ⟨k, rfl⟩ : ∃ m, k = m + 1 := ⟨k - 1, by omega⟩
    simp only [spec_TripsOk.l0]
    rw [if_pos (by omega)]
    exact h k (by omega)

/-! ### the program's loops -/
theorem order_l (n : Nat) (hn : n ≤ 1048576) (o : List Int) (ho : o.length ≤ 1048576) : ∀ (d i k : Nat), i + d = o.length → d < k → (o.take i).Nodup → impl_isOrder.l0 k o (n : Int) o (o.length : Int) (i : Int) = some (okT n (o.take i) (o.drop i) && decide (o.length = n)) := by
  intro d
  induction d with
  | zero =>
    intro i k hi hk hd
    obtain ⟨k, rfl⟩ : ∃ m, k = m + 1 := ⟨k - 1, by omega⟩
    simp only [impl_isOrder.l0]
    rw [if_neg (by omega), List.drop_of_length_le (by omega)]
    have : okT n (o.take i) [] = true := (okT_iff _ _ _).2 ⟨fun x hx => (by cases hx), by simpa using hd⟩
    rw [this, Bool.true_and]
    congr 1
    rw [Bool.eq_iff_iff, beq_iff_eq, decide_eq_true_eq]
    omega
  | succ d ih =>
    intro i k hi hk hd
    obtain ⟨k, rfl⟩ : ∃ m, k = m + 1 := ⟨k - 1, by omega⟩
    have hi' : i < o.length := by omega
    simp only [impl_isOrder.l0, rd_get o i hi', in_is, Option.bind_some, slices_Contains_int_int.f, w64 (show -9223372036854775808 ≤ (n : Int) - 1 by omega) (by omega), Int.toNat_natCast]
    rw [if_pos (by omega), if_pos (by omega), if_pos (by omega), wn i (by omega), List.drop_eq_getElem_cons hi']
    have etk : o.take (i + 1) = o.take i ++ [o[i]] := List.take_succ_eq_append_getElem hi'
    cases hin : inB 0 ((n : Int) - 1) o[i] with
    | false =>
      rw [if_neg (by simp)]
      unfold okT
      rw [List.all_cons, show inN n o[i] = false from hin]
      simp
    | true =>
      rw [if_pos rfl, if_pos (by omega)]
      by_cases hc : o[i] ∈ o.take i
      · rw [if_pos (List.contains_iff_mem.2 hc)]
        have : okT n (o.take i) (o[i] :: o.drop (i + 1)) = false := by
          cases q : okT n (o.take i) (o[i] :: o.drop (i + 1)) with
          | false => rfl
          | true =>
            have := ((okT_iff _ _ _).1 q).2
            rw [List.nodup_append] at this
            exact absurd rfl (this.2.2 o[i] hc o[i] List.mem_cons_self)
        rw [this]
        rfl
      · rw [if_neg (fun q => hc (List.contains_iff_mem.1 q)), ih (i + 1) k (by omega) (by omega) (by
          rw [etk, List.nodup_append]
          refine ⟨hd, by simp, fun y hy z hz => ?_⟩
          rw [List.mem_singleton] at hz
          subst hz
          exact fun e => hc (e ▸ hy))]
        congr 2
        unfold okT
        rw [List.all_cons, show inN n o[i] = true from hin, Bool.true_and, etk, List.append_assoc]
        rfl
theorem order_is (n : Nat) (hn : n ≤ 1048576) (o : List Int) (ho : o.length ≤ 1048576) (k : Nat) (hk : o.length < k) : impl_isOrder.f k o (n : Int) = some (okT n [] o && decide (o.length = n)) := by
  have := order_l n hn o ho o.length 0 k (Nat.zero_add _) hk (by simp)
  rw [List.take_zero, List.drop_zero] at this
  exact this
theorem load_l (l : List Sp) (hok : ∀ s ∈ l, okSp s) (T : List Int) (hT : T.length ≤ 1048576) (hin : ∀ x ∈ T, 0 ≤ x ∧ x < (l.length : Int)) : ∀ (d i k : Nat) (a : Int), i + d = T.length → d < k → 0 ≤ a → a ≤ 100 * (i : Int) → impl_loadOf.l0 k l a T (T.length : Int) (i : Int) = some (a + ldT l (T.drop i)) := by
  intro d
  induction d with
  | zero =>
    intro i k a hi hk h0 h1
    obtain ⟨k, rfl⟩ : ∃ m, k = m + 1 := ⟨k - 1, by omega⟩
    simp only [impl_loadOf.l0]
    rw [if_neg (by omega), List.drop_of_length_le (by omega)]
    simp [ldT]
  | succ d ih =>
    intro i k a hi hk h0 h1
    obtain ⟨k, rfl⟩ : ∃ m, k = m + 1 := ⟨k - 1, by omega⟩
    have hi' : i < T.length := by omega
    have hx := hin _ (List.getElem_mem hi')
    have hs := shop_at l hok T[i] hx.1 hx.2
    unfold okSp at hs
    simp only [impl_loadOf.l0, rd_get T i hi']
    rw [if_pos (by omega), if_pos (by omega), if_pos (by omega), if_pos hx.1, if_pos hx.2, wn i (by omega), w64 (by omega) (by omega), ih (i + 1) k _ (by omega) (by omega) (by omega) (by omega), List.drop_eq_getElem_cons hi']
    simp only [ldT]
    congr 1
    omega
theorem load_is (l : List Sp) (hok : ∀ s ∈ l, okSp s) (T : List Int) (hT : T.length ≤ 1048576) (hin : ∀ x ∈ T, 0 ≤ x ∧ x < (l.length : Int)) (k : Nat) (hk : T.length < k) : impl_loadOf.f k l T = some (ldT l T) := by
  have := load_l l hok T hT hin T.length 0 k 0 (Nat.zero_add _) hk (by omega) (by omega)
  rw [List.drop_zero, Int.zero_add] at this
  exact this
theorem sp_of (l : List Sp) (h : SpFrom l 0) : ∀ s ∈ l, okSp s := fun s hs => by
  obtain ⟨i, hi, rfl⟩ := List.getElem_of_mem hs
  exact (h i hi (Nat.zero_le _)).1
/-- Are the trips good: as both say it. -/
def tripsB (l : List Sp) (Ts : List (List Int)) (room : Int) (b : Bool) : Bool := b && (inB 1 100 room && tripsR l room Ts [])
theorem trips_both (l : List Sp) (Ts : List (List Int)) (room : Int) (hs : l.length ≤ 1048576) (hT : Ts.length ≤ 1048576) (hF : Ts.flatten.length ≤ 1048576) : ∃ K b, ∀ k, K ≤ k → spec_TripsOk.f k l Ts room = some (tripsB l Ts room b) ∧ impl_TripsOk.f k l Ts room = some (tripsB l Ts room b) ∧ (b = true ↔ (l.length ≤ 10 ∧ SpFrom l 0)) := by
  have hTl : ∀ T ∈ Ts, T.length ≤ 1048576 := fun T h => by have := row_le Ts T h; omega
  obtain ⟨b, hb⟩ : ∃ b : Bool, b = true ↔ (l.length ≤ 10 ∧ SpFrom l 0) := by
    obtain ⟨r, _, _, h⟩ := shops_both l (l.length + 1) (by omega) (by omega)
    exact ⟨r, h⟩
  have hA : ∀ k, l.length < k → spec_ShopsOk.f k l = some b ∧ impl_ShopsOk.f k l = some b := fun k hk => by
    obtain ⟨r, g1, g2, h⟩ := shops_both l k (by omega) hk
    have e : r = b := Bool.eq_iff_iff.2 (h.trans hb.symm)
    rw [g1, g2, e]
    exact ⟨rfl, rfl⟩
  unfold tripsB
  cases b with
  | false =>
    refine ⟨l.length + 2, false, fun k hk => ?_⟩
    have h1 := hA k (by omega)
    obtain ⟨k, rfl⟩ : ∃ m, k = m + 1 := ⟨k - 1, by omega⟩
    refine ⟨?_, ?_, hb⟩
    · simp [spec_TripsOk.f, h1.1, spec_TripsOk.j0]
    · simp [impl_TripsOk.f, h1.2]
  | true =>
    obtain ⟨h10, hSp⟩ := hb.1 rfl
    have hok := sp_of l hSp
    cases hi : inB 1 100 room with
    | false =>
      refine ⟨l.length + 2, true, fun k hk => ?_⟩
      have h1 := hA k (by omega)
      obtain ⟨k, rfl⟩ : ∃ m, k = m + 1 := ⟨k - 1, by omega⟩
      refine ⟨?_, ?_, hb⟩
      · simp [spec_TripsOk.f, h1.1, spec_TripsOk.j0, spec_in, hi]
      · simp [impl_TripsOk.f, h1.2, in_is, hi]
    | true =>
      obtain ⟨K, h⟩ := trip_l0 l h10 hok Ts hT hTl room Ts.length 0 [] (List.replicate l.length false) (Nat.zero_add _) ⟨by simp, fun i hi => by simp [hi]⟩ (by simp) (fun x hx => by cases hx)
      rw [List.drop_zero] at h
      refine ⟨K + l.length + Ts.flatten.length + 1048580, true, fun k hk => ?_⟩
      have h1 := hA k (by omega)
      refine ⟨?_, ?_, hb⟩
      · obtain ⟨k, rfl⟩ : ∃ m, k = m + 1 := ⟨k - 1, by omega⟩
        have h' := h k (by omega)
        simp only [spec_TripsOk.f, h1.1, Option.bind_some, if_true, spec_in, hi, Bool.not_true, spec_TripsOk.j0, Int.toNat_natCast, Bool.true_and]
        rw [if_neg (by simp), if_pos (by omega), if_pos (by omega)]
        exact h'
      · simp only [impl_TripsOk.f, h1.2, Option.bind_some, if_true, in_is, hi, slices_Concat_int_int.f, Bool.true_and]
        rw [if_pos (by omega), Option.bind_some, order_is l.length (by omega) Ts.flatten hF k (by omega), Option.bind_some]
        have key := tripsR_iff l room Ts [] (by simp)
        rw [List.nil_append, List.length_nil, Nat.zero_add] at key
        by_cases ho : (okT l.length [] Ts.flatten && decide (Ts.flatten.length = l.length)) = true
        · rw [if_pos ho]
          rw [Bool.and_eq_true, okT_iff, decide_eq_true_eq, List.nil_append] at ho
          have hld : ∀ T ∈ Ts, impl_loadOf.f k l T = some (ldT l T) := fun T hTm => load_is l hok T (hTl T hTm) (fun x hx => ho.1.1 x (List.mem_flatten.2 ⟨T, hTm, hx⟩)) k (by have := row_le Ts T hTm; omega)
          rw [if_pos (fun T hTm => by rw [hld T hTm]; rfl)]
          congr 1
          rw [Bool.eq_iff_iff, key, Bool.not_eq_true', List.any_eq_false]
          constructor
          · intro q
            refine ⟨ho.1.1, ho.1.2, ho.2, fun T hTm => ?_⟩
            have := q T hTm
            unfold loadP at this
            rw [hld T hTm] at this
            simpa using this
          · rintro ⟨_, _, _, q⟩ T hTm
            have := q T hTm
            unfold loadP
            rw [hld T hTm]
            simpa using this
        · rw [if_neg ho]
          congr 1
          cases q : tripsR l room Ts [] with
          | false => rfl
          | true =>
            have := key.1 q
            exact absurd (by rw [Bool.and_eq_true, okT_iff, decide_eq_true_eq, List.nil_append]; exact ⟨⟨this.1, this.2.1⟩, this.2.2.1⟩) ho
end Go.Proofs.Ytciceapcnjoogaa.Pure
