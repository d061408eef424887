-- Written by a program of this session (wip/hprint.py, over the kit's print).
import Derived.Test.YtdlolekpdophcaaPESx0
import Derived.Test.YtdlolekpdophcaaPESx1
import Derived.Test.YtdlolekpdophcaaPESx4
namespace Go.Proofs.Ytdlolekpdophcaa.PES
open Go.RowKit Go.Proofs.YtdlolekpdophcaaW.PrintWords Go.Proofs.YtdlolekpdophcaaW.PrintLast Go.Proofs.YtdlolekpdophcaaW.PrintMore
attribute [local go_sem] max2_int min2_int max_two min_two max_three min_three max_four min_four   -- for this text's walks alone
set_option linter.unusedVariables false
set_option linter.unusedSimpArgs false

/-! ### impl_MostShifts: function 26 -/
theorem most_grow {B : Nat} {w0 w : World} {os : Array Obj} (h : Below B w0 w) (hB : B ≤ w.heap.size) : Below B w0 (Go.Sort.grow w os) :=
  ⟨h.os, h.tape, h.output, by have := h.size; simp [Go.Sort.grow]; omega, fun k hk => by rw [Go.Sort.heap_grow_old _ _ (by omega)]; exact h.block k hk⟩
theorem most_then {B C : Nat} {w0 w1 w2 : World} (h : Below B w0 w1) (k : Below C w1 w2) (hBC : B ≤ C) : Below B w0 w2 :=
  h.trans ⟨k.os, k.tape, k.output, k.size, fun i hi => k.block i (Nat.lt_of_lt_of_le hi hBC)⟩
set_option maxHeartbeats 4000000 in
theorem most_lit (l : List S39) (A : Option Addr) (c B : Nat) (w1 : World) (h1 : w1.cell? ⟨B, 0, none⟩ = some (.slice A l.length c)) (hr : Kd.C k39 w1 A l.length l) (W : World) (hb : Below w1.heap.size w1 W) (i j : Nat) (hi : i < l.length) (hj : j < l.length) :
    Calls Try.prog 44 #[.int .i64 (i : Int), .int .i64 (j : Int), .pointer (some ⟨B, 0, none⟩)] W fun e w' => e = .returned (.int .i64 (wrap64 ((rd_T39 l (i : Int)).f1 - (rd_T39 l (j : Int)).f1))) ∧ ∃ q, w' = W.drewN q := by
  have hc1 : W.cell? ⟨B, 0, none⟩ = some (.slice A l.length c) := pw_cell_below hb h1
  have hm := hr.2.1
  have p1 : 0 ≤ (i : Int) := by omega
  have q1 : (i : Int) < (l.length : Int) := by omega
  have p2 : 0 ≤ (j : Int) := by omega
  have q2 : (j : Int) < (l.length : Int) := by omega
  obtain ⟨ad, e, hx0, hx1⟩ := at_T39 (Kd.C_below hr hb) (i : Int) p1 q1
  cases e
  obtain ⟨ad2, e, hy0, hy1⟩ := at_T39 (Kd.C_below hr hb) (j : Int) p2 q2
  cases e
  clear h1 hb hr hi hj
  generalize (rd_T39 l (i : Int)).f1 = u at hx1 ⊢
  generalize (rd_T39 l (j : Int)).f1 = v at hy1 ⊢
  generalize (i : Int) = x at *
  generalize (j : Int) = y at *
  replace p1 := eq_true p1
  replace q1 := eq_true q1
  replace p2 := eq_true p2
  replace q2 := eq_true q2
  go_enter Try.func44, Try.ntmps44
  go_wp2
  repeat (go_quiet (fail); try go_wp2)
  go_ret
  exact ⟨by first | rfl | simp [IntKind.wrap_i64, wrap64], _, rfl⟩
theorem most_cmp (m : Nat) (l : List S39) (hl : l.length = m + 1) (A : Option Addr) (c B : Nat) (w1 : World) (h1 : w1.cell? ⟨B, 0, none⟩ = some (.slice A l.length c)) (hr : Kd.C k39 w1 A l.length l) (g size : Nat) (w3 : World) (hb : Below w1.heap.size w1 w3) (hg : w1.heap.size ≤ g) :
    CmpReads Try.prog 44 #[.pointer (some ⟨B, 0, none⟩)] (fun x : Fin (m + 1) => Value.int .i64 (x.val : Int)) (fun x y => wrap64 ((rd_T39 l (x.val : Int)).f1 - (rd_T39 l (y.val : Int)).f1)) g 0 size w3 := fun n os dk _ x y =>
  most_lit l A c B w1 h1 hr _ (most_grow (Go.Lib.below_putRow hb hg) (by have := hb.size; simp [Go.Sort.putRow, Go.Sort.mapBlock, Go.Sort.ahead]; omega)) x.val y.val (by omega) (by omega)
set_option maxHeartbeats 4000000 in
set_option maxRecDepth 100000 in
theorem most_none (A : Option Addr) (n c a : Nat) (cb : Array Value) (g : Nat) (w : World) (ha : a < 100) : Calls Try.prog 50 #[.slice A n c, .int .i64 (a : Int), .int .i64 (a : Int), .func (.func g) #[] cb] w fun e w' => e = .returned (.tuple #[]) ∧ ∃ q, w' = w.drewN q := by
  go_enter Try.func50, Try.ntmps50
  go_wp2
  refine wp_loop_rounds 1 ?_
  rw [rounds_succ]
  go_wp2
  go_end0
  exact ⟨rfl, 0, rfl⟩
set_option maxHeartbeats 4000000 in
set_option maxRecDepth 100000 in
theorem most_under {α : Type} [Inhabited α] (enc : α → Value) (hO : OneCell enc) (cf : α → α → Int) (g : Nat) (cb : Array Value) (blk cap : Nat) (d : Array α) (w : World) (eg : ∀ args w, (callFunc g args).run Try.prog w = .ok (.enter g args) w) (hcmp : CmpReads Try.prog g cb enc cf blk 0 d.size w) (hH : Go.Sort.Holds enc w blk 0 d) (h20 : d.size < 20) :
    Calls Try.prog 48 #[.slice (some ⟨blk, 0, none⟩) d.size cap, .int .i64 (d.size : Int), .func (.func g) #[] cb] w fun e w' => e = .returned (.tuple #[]) ∧ ∃ n, w' = (Go.Sort.putRow enc w blk 0 (Go.Sort.insertionSort (ltOf cf) d 0 d.size)).drewN n := by
  have hc : Calls Try.prog 50 #[.slice (some ⟨blk, 0, none⟩) d.size cap, .int .i64 0, .int .i64 (d.size : Int), .func (.func g) #[] cb] w fun e w' => e = .returned (.tuple #[]) ∧ ∃ n, w' = (Go.Sort.putRow enc w blk 0 (Go.Sort.insertionSort (ltOf cf) d 0 d.size)).drewN n :=
    Any.insertionSortCmpFunc_one Try.laysF20 enc hO cf g cb blk 0 cap 0 d.size d w eg hcmp hH (Nat.zero_le _) (Nat.le_refl _) (by omega)
  clear hcmp hH
  generalize Go.Sort.putRow enc w blk 0 (Go.Sort.insertionSort (ltOf cf) d 0 d.size) = W at hc ⊢
  have hz : (d.size : Int) < 20 := by omega
  generalize d.size = n at hc hz h20 ⊢
  go_enter Try.func48, Try.ntmps48
  go_wp2
  refine wp_loop_rounds 1 ?_
  rw [rounds_succ]
  go_wp2_with (go_at_call 50; refine hc.mono ?_; rintro e w1 ⟨rfl, n1, rfl⟩)
  refine wp_loop_rounds 1 ?_
  rw [rounds_succ]
  go_wp2
  all_goals first | (exfalso; omega) | (go_end0; exact ⟨rfl, n1, rfl⟩)
set_option maxHeartbeats 4000000 in
set_option maxRecDepth 100000 in
theorem most_at {α : Type} [Inhabited α] (enc : α → Value) (hO : OneCell enc) (cf : α → α → Int) (g : Nat) (cb : Array Value) (blk cap : Nat) (d : Array α) (w : World) (eg : ∀ args w, (callFunc g args).run Try.prog w = .ok (.enter g args) w) (hcmp : CmpReads Try.prog g cb enc cf blk 0 d.size w) (hH : Go.Sort.Holds enc w blk 0 d) (h20 : d.size = 20) :
    Calls Try.prog 48 #[.slice (some ⟨blk, 0, none⟩) d.size cap, .int .i64 (d.size : Int), .func (.func g) #[] cb] w fun e w' => e = .returned (.tuple #[]) ∧ ∃ n, w' = (Go.Sort.putRow enc w blk 0 (Go.Sort.insertionSort (ltOf cf) d 0 d.size)).drewN n := by
  have hc : Calls Try.prog 50 #[.slice (some ⟨blk, 0, none⟩) d.size cap, .int .i64 0, .int .i64 (d.size : Int), .func (.func g) #[] cb] w fun e w' => e = .returned (.tuple #[]) ∧ ∃ n, w' = (Go.Sort.putRow enc w blk 0 (Go.Sort.insertionSort (ltOf cf) d 0 d.size)).drewN n :=
    Any.insertionSortCmpFunc_one Try.laysF20 enc hO cf g cb blk 0 cap 0 d.size d w eg hcmp hH (Nat.zero_le _) (Nat.le_refl _) (by omega)
  have hn : ∀ w, Calls Try.prog 50 #[.slice (some ⟨blk, 0, none⟩) 20 cap, .int .i64 20, .int .i64 20, .func (.func g) #[] cb] w fun e w' => e = .returned (.tuple #[]) ∧ ∃ q, w' = w.drewN q := fun w => most_none (some ⟨blk, 0, none⟩) 20 cap 20 cb g w (by omega)
  clear hcmp hH
  generalize Go.Sort.putRow enc w blk 0 (Go.Sort.insertionSort (ltOf cf) d 0 d.size) = W at hc ⊢
  rw [h20] at hc ⊢
  replace hc : Calls Try.prog 50 #[.slice (some ⟨blk, 0, none⟩) 20 cap, .int .i64 0, .int .i64 20, .func (.func g) #[] cb] w fun e w' => e = .returned (.tuple #[]) ∧ ∃ n, w' = W.drewN n := hc
  show Calls Try.prog 48 #[.slice (some ⟨blk, 0, none⟩) 20 cap, .int .i64 20, .func (.func g) #[] cb] w _
  go_enter Try.func48, Try.ntmps48
  go_wp2
  refine wp_loop_rounds 2 ?_
  rw [rounds_succ]
  go_wp2_with (go_at_call 50; refine hc.mono ?_; rintro e w1 ⟨rfl, n1, rfl⟩)
  rw [rounds_succ]
  go_wp2_with (go_at_call 50; refine (hn _).mono ?_; rintro e w2 ⟨rfl, n2, rfl⟩)
  refine wp_loop_rounds 1 ?_
  rw [rounds_succ]
  go_wp2
  go_end0
  exact ⟨rfl, n1 + n2, by first | rfl | rw [World.drewN_drewN]⟩
theorem most_stable {α : Type} [Inhabited α] (enc : α → Value) (hO : OneCell enc) (cf : α → α → Int) (g : Nat) (cb : Array Value) (blk cap : Nat) (d : Array α) (w : World) (eg : ∀ args w, (callFunc g args).run Try.prog w = .ok (.enter g args) w) (hcmp : CmpReads Try.prog g cb enc cf blk 0 d.size w) (hH : Go.Sort.Holds enc w blk 0 d) (h20 : d.size ≤ 20) :
    Calls Try.prog 48 #[.slice (some ⟨blk, 0, none⟩) d.size cap, .int .i64 (d.size : Int), .func (.func g) #[] cb] w fun e w' => e = .returned (.tuple #[]) ∧ ∃ n, w' = (Go.Sort.putRow enc w blk 0 (Go.Sort.insertionSort (ltOf cf) d 0 d.size)).drewN n := by
  rcases Nat.lt_or_ge d.size 20 with h | h
  · exact most_under enc hO cf g cb blk cap d w eg hcmp hH h
  · exact most_at enc hO cf g cb blk cap d w eg hcmp hH (by omega)
set_option maxHeartbeats 4000000 in
theorem most_sort (A : Option Addr) (n cap g : Nat) (cb : Array Value) (w : World) (Q : World → Prop) (hc : Calls Try.prog 48 #[.slice A n cap, .int .i64 (n : Int), .func (.func g) #[] cb] w fun e w' => e = .returned (.tuple #[]) ∧ Q w') :
    Calls Try.prog 43 #[.slice A n cap, .func (.func g) #[] cb] w fun e w' => e = .returned (.tuple #[]) ∧ Q w' := by
  go_enter Try.func43, Try.ntmps43
  go_wp2_with (go_at_call 48; refine hc.mono ?_; rintro e w1 ⟨rfl, hq⟩)
  go_end0
  exact ⟨rfl, hq⟩
set_option maxHeartbeats 4000000 in
theorem most_sort0 (A : Option Addr) (cap g : Nat) (cb : Array Value) (w : World) :
    Calls Try.prog 48 #[.slice A 0 cap, .int .i64 ((0 : Nat) : Int), .func (.func g) #[] cb] w fun e w' => e = .returned (.tuple #[]) ∧ ∃ n, w' = w.drewN n := by
  have hc : Calls Try.prog 50 #[.slice A 0 cap, .int .i64 0, .int .i64 0, .func (.func g) #[] cb] w fun e w' => e = .returned (.tuple #[]) ∧ ∃ n, w' = w.drewN n := most_none A 0 cap 0 cb g w (by omega)
  show Calls Try.prog 48 #[.slice A 0 cap, .int .i64 0, .func (.func g) #[] cb] w _
  go_enter Try.func48, Try.ntmps48
  go_wp2
  refine wp_loop_rounds 1 ?_
  rw [rounds_succ]
  go_wp2_with (go_at_call 50; refine hc.mono ?_; rintro e w1 ⟨rfl, n1, rfl⟩)
  refine wp_loop_rounds 1 ?_
  rw [rounds_succ]
  go_wp2
  go_end0
  exact ⟨rfl, n1, rfl⟩
/-! ### what it computes -/
def most_b (s : S39) : Bool := inB 0 167 s.f0 && inB (wrap64 (s.f0 + 1)) (wrap64 (s.f0 + 12)) s.f1
def most_cf (l : List S39) (m : Nat) (x y : Fin (m + 1)) : Int := wrap64 ((rd_T39 l (x.val : Int)).f1 - (rd_T39 l (y.val : Int)).f1)
def most_ar (l : List S39) (m : Nat) : Array (Fin (m + 1)) := Go.Sort.insertionSort (ltOf (most_cf l m)) (Array.ofFn (fun i : Fin (m + 1) => i)) 0 (m + 1)
/-- The indices, by the shifts' ends; of equal ends the lesser index first. -/
def most_ix (l : List S39) : List Int := match l.length with
  | 0 => []
  | m + 1 => ((most_ar l m).map (fun x => (x.val : Int))).toList
def most_go (l : List S39) (rest : Int) : List Int → List Int → List Int
  | [], out => out
  | i :: is, out => if out.length = 0 ∨ (rd_T39 l i).f0 ≥ wrap64 ((rd_T39 l (rd out (wrap64 ((out.length : Int) - 1)))).f1 + rest) then most_go l rest is (out ++ [i]) else most_go l rest is out
def impl_MostShifts.f (l0 : List S39) (a1 : Int) : Option (List Int) := some (if 20 < l0.length then [] else if (l0.any fun s => !most_b s) = true then [] else if inB 0 24 a1 = true then most_go l0 a1 (most_ix l0) [] else [])
def most_id (n : Nat) : List Int := (List.range n).map fun (i : Nat) => (i : Int)
theorem most_len (n : Nat) : (most_id n).length = n := by simp [most_id]
theorem most_ind (n : Nat) (h : n ≤ 20) : impl_indices.f 30 (n : Int) = some (most_id n) := by
  have : ∀ m : Fin 21, impl_indices.f 30 (m.val : Int) = some (most_id m.val) := by decide +kernel
  exact this ⟨n, by omega⟩
theorem most_in1 {α : Type} [Inhabited α] (lt : α → α → Bool) (a : Nat) : ∀ (j : Nat) (d : Array α), (Go.Sort.insInner lt a j d).size = d.size
  | 0, d => rfl
  | j + 1, d => by
    unfold Go.Sort.insInner
    split
    · rw [most_in1 lt a j]; simp [Go.Sort.swp]
    · rfl
theorem most_in2 {α : Type} [Inhabited α] (lt : α → α → Bool) (a b : Nat) : ∀ (n i : Nat) (d : Array α), b - i = n → (Go.Sort.insOuter lt a b i d).size = d.size := by
  intro n
  induction n with
  | zero =>
    intro i d h
    unfold Go.Sort.insOuter
    rw [if_neg (by omega)]
  | succ n ih =>
    intro i d h
    unfold Go.Sort.insOuter
    rw [if_pos (by omega), ih (i + 1) _ (by omega), most_in1]
theorem most_sz (l : List S39) (m : Nat) : (most_ar l m).size = m + 1 := by
  unfold most_ar Go.Sort.insertionSort
  rw [most_in2 _ _ _ _ _ _ rfl, Array.size_ofFn]
theorem most_ixl (l : List S39) : (most_ix l).length = l.length := by
  unfold most_ix
  split
  · rename_i h; rw [h]; rfl
  · rename_i m h; rw [h]; simp [most_sz]
theorem most_ixi (l : List S39) : ∀ x ∈ most_ix l, 0 ≤ x ∧ x < (l.length : Int) := by
  intro x hx
  unfold most_ix at hx
  split at hx
  · cases hx
  · rename_i m h
    rw [h]
    simp only [Array.toList_map, List.mem_map] at hx
    obtain ⟨y, _, rfl⟩ := hx
    have := y.2
    omega
/-! ### the row is sorted -/
theorem most_put (m : Nat) (w : World) (g : Nat) (D : Array (Fin (m + 1))) : Go.Sort.putRow (fun x : Fin (m + 1) => Value.int .i64 (x.val : Int)) w g 0 D = Go.Sort.putRow (Value.int .i64) w g 0 (D.map (fun x => (x.val : Int))) := by
  unfold Go.Sort.putRow
  congr 1
  funext c
  unfold Go.Sort.putCells
  simp only [Array.size_map]
  congr 1
  funext k x
  split
  · rename_i h
    have hk : k - 0 < D.size := by omega
    rw [getElem!_pos D (k - 0) hk, getElem!_pos (D.map _) (k - 0) (by simpa using hk), Array.getElem_map]
  · rfl
theorem most_call (l : List S39) (h20 : l.length ≤ 20) (A : Option Addr) (c B : Nat) (w1 : World) (h1 : w1.cell? ⟨B, 0, none⟩ = some (.slice A l.length c)) (hr : Kd.C k39 w1 A l.length l) (w : World) (hb : Below w1.heap.size w1 w) (base : Nat) (hbase : w1.heap.size ≤ base) (ok : Nat → Prop) (v : Value) (ho : Kd.R (Kd.int .i64) 3 w base ok v (most_id l.length))
    (eg : ∀ args w, (callFunc 44 args).run Try.prog w = .ok (.enter 44 args) w) :
    ∃ Ao co, v = .slice Ao l.length co ∧ Calls Try.prog 43 #[.slice Ao l.length co, .func (.func 44) #[] #[.pointer (some ⟨B, 0, none⟩)]] w fun e w' =>
      e = .returned (.tuple #[]) ∧ (Kd.C (Kd.int .i64) w' Ao l.length (most_ix l) ∧ w.grownBy w' (Value.slice Ao l.length co).ownBlock) := by
  obtain ⟨Ao, co, e, hle, hC⟩ := Kd.R_reads ho
  rw [most_len] at e hC
  refine ⟨Ao, co, e, most_sort Ao l.length co _ _ w _ ?_⟩
  rcases Nat.eq_zero_or_pos l.length with hz | hz
  · have hl : most_ix l = [] := List.eq_nil_of_length_eq_zero (by rw [most_ixl]; exact hz)
    have hi : most_id l.length = [] := by rw [hz]; rfl
    rw [hi] at hC
    rw [hl]
    rw [hz] at hC ⊢
    refine (most_sort0 Ao co _ _ w).mono ?_
    rintro e w' ⟨rfl, n, rfl⟩
    exact ⟨rfl, Kd.C_drewN hC n, ⟨rfl, rfl, rfl, Nat.le_refl _, fun _ _ _ => rfl⟩⟩
  · obtain ⟨m, hm⟩ : ∃ m, l.length = m + 1 := ⟨l.length - 1, by omega⟩
    have own := Kd.own_of_R ho
    obtain ⟨g, cap, e2, hbg, hgl, hnc, hcm, _, hH⟩ := Go.Lib.holds_of_ownsRow (enc := Value.int .i64) (zs := most_id l.length) (by simpa [encs] using own) (by rw [e]; intro q; injection q with _ q2 _; omega)
    rw [e, most_len] at e2
    injection e2 with e3 _ e4
    subst e3; subst e4
    have hd : (Array.ofFn (fun i : Fin (m + 1) => i)).size = m + 1 := Array.size_ofFn
    have hH2 : Go.Sort.Holds (fun x : Fin (m + 1) => Value.int .i64 (x.val : Int)) w g 0 (Array.ofFn (fun i : Fin (m + 1) => i)) := fun j hj => by
      rw [hd] at hj
      have := hH j (by simp [most_id]; omega)
      rw [getElem!_pos _ j (by simp [most_id]; omega)] at this
      rw [getElem!_pos _ j (by rw [hd]; exact hj)]
      simpa [most_id] using this
    have hcmp := most_cmp m l hm A c B w1 h1 hr g (Array.ofFn (fun i : Fin (m + 1) => i)).size w hb (by omega)
    have key := most_stable (fun x : Fin (m + 1) => Value.int .i64 (x.val : Int)) (fun _ => rfl) (most_cf l m) _ #[.pointer (some ⟨B, 0, none⟩)] g co (Array.ofFn (fun i : Fin (m + 1) => i)) w eg hcmp hH2 (by rw [hd]; omega)
    have ea : Go.Sort.insertionSort (ltOf (most_cf l m)) (Array.ofFn (fun i : Fin (m + 1) => i)) 0 (Array.ofFn (fun i : Fin (m + 1) => i)).size = most_ar l m := by rw [hd]; rfl
    rw [ea, hd, most_put] at key
    obtain ⟨D, hD⟩ : ∃ D : Array Int, (most_ar l m).map (fun x => (x.val : Int)) = D := ⟨_, rfl⟩
    rw [hD, ← hm] at key
    refine key.mono ?_
    rintro e w' ⟨rfl, n, rfl⟩
    have eix : most_ix l = ((most_ar l m).map (fun x => (x.val : Int))).toList := by
      unfold most_ix
      split
      · omega
      · rename_i m' hm'
        obtain rfl : m' = m := by omega
        rfl
    rw [hD] at eix
    refine ⟨rfl, ?_, ?_⟩
    · have own' : w.ownsRow base 3 1 (.slice (some ⟨g, 0, none⟩) l.length co) l.length ((most_id l.length).map (Value.int .i64)) := by
        have := own
        rw [e, most_len] at this
        simpa [encs] using this
      have own2 := Go.Lib.ownsRow_putRow (enc := Value.int .i64) (q := n) (k := (most_ix l).length) (ys := most_ix l) own' (by rw [most_ixl]) (by rw [most_ixl]; exact Nat.le_refl _)
      rw [List.take_length] at own2
      have R2 := Kd.R_of_own (enc := Value.int .i64) (h1 := fun _ => rfl) (ok := fun _ => True) (by simpa [encs] using own2) (fun _ _ => trivial)
      have := (Kd.R_reads' R2).2.2
      rw [most_ixl, show (most_ix l).toArray = D by rw [eix]] at this
      exact this
    · refine ⟨rfl, rfl, rfl, by simp [Go.Sort.putRow, Go.Sort.mapBlock, World.drewN], fun k _ hne => ?_⟩
      have : g ≠ k := fun q => hne (by subst q; rfl)
      simp [Go.Sort.putRow, Go.Sort.mapBlock, World.drewN, Array.getElem?_modify, this]
/-! ### the closure that asks whether a shift has its form -/
theorem most_bf (s : S39) : impl_shiftOk.f s.f0 s.f1 = some (most_b s) := by
  unfold impl_shiftOk.f most_b
  simp only [in_is, Option.bind_some]
  cases inB 0 167 s.f0 <;> simp
set_option maxHeartbeats 4000000 in
theorem most_lit1 (l : List S39) (w : World) : Hand.Prd Try.prog 40 #[] encShift l (fun s => !most_b s) w := fun W x _ hb => by
  have HB := Aside0.mk hb
  have C1 := fun W' => impl_shiftOk.calls x.f0 x.f1 (most_b x) W' (most_bf x)
  show Calls Try.prog 40 #[.agg #[.int .i64 x.f0, .int .i64 x.f1]] W (fun e w' => e = .returned (.bool (!most_b x)) ∧ Below w.heap.size w w')
  clear hb
  generalize most_b x = q at C1 ⊢
  obtain ⟨u, v⟩ := x
  simp only at C1 ⊢
  have hu := Try.underlying39
  go_enter Try.func40, Try.ntmps40
  go_wp2_with (go_at_call 35; refine (C1 _).mono ?_; rintro e w' ⟨rfl, hq⟩)
  go_ret
  exact ⟨rfl, below_then (HB.out.alloc HB.out.size _) (by have := HB.out.size; simp; omega) hq⟩
set_option maxHeartbeats 8000000 in
set_option maxRecDepth 100000 in
theorem impl_MostShifts.calls (A0 : Option Addr) (c0 : Nat) (l0 : List S39) (a1 : Int) (r : List Int) (w : World) (hr0 : Kd.C k39 w A0 l0.length l0) (hc0 : l0.length ≤ c0) (h : impl_MostShifts.f l0 a1 = some r) :
    Calls Try.prog 26 #[.slice A0 l0.length c0, .int .i64 a1] w fun e w' => ∃ v0_ : Value, e = .returned (v0_) ∧ Kd.R (Kd.int .i64) 3 w' w.heap.size (fun _ => True) v0_ r ∧ Below w.heap.size w w' := by
  have eg1 : ∀ args w, (callFunc 40 args).run Try.prog w = .ok (.enter 40 args) w := enters_of Try.func40 (by kernel_rfl) rfl
  have eg2 : ∀ args w, (callFunc 44 args).run Try.prog w = .ok (.enter 44 args) w := enters_of Try.func44 (by kernel_rfl) rfl
  have hm0 := hr0.2.1
  obtain rfl := Option.some.inj h
  clear h
  have HR0 := Aside0.mk hr0
  have HC0 := Aside0.mk hc0
  have EG1 := Aside0.mk eg1
  have EG2 := Aside0.mk eg2
  have HA1 : Aside0 (Below w.heap.size w (w.alloc (.cells #[.slice A0 l0.length c0] 25))) := ⟨(Below.refl _ w).alloc (Nat.le_refl _) _⟩
  clear hr0 hc0 eg1 eg2
  by_cases h20 : 20 < l0.length
  · rw [if_pos h20]
    have hz : (20 : Int) < (l0.length : Int) := by omega
    go_enter Try.func26, Try.ntmps26
    go_wp2
    go_ret
    exact ⟨_, rfl, Kd.R_nil _ _ _ _ _, HA1.out⟩
  rw [if_neg h20]
  have hz : ¬ (20 : Int) < (l0.length : Int) := by omega
  have H20 := Aside0.mk (show l0.length ≤ 20 by omega)
  clear h20
  have HANY : ∀ q, (l0.any fun s => !most_b s) = q → Aside0 (∀ W, Kd.C k39 W A0 l0.length l0 → Calls Try.prog 39 #[.slice A0 l0.length c0, .func (.func 40) #[] #[]] W fun e w' => e = .returned (.bool q) ∧ Below W.heap.size W w') := fun q hq => ⟨fun W hW => by rw [← hq]; exact containsShift A0 c0 l0 _ _ _ EG1.out W hW (most_lit1 l0 W)⟩
  have HR1 : Aside0 (Kd.C k39 (w.alloc (.cells #[.slice A0 l0.length c0] 25)) A0 l0.length l0) := ⟨Kd.C_alloc HR0.out _⟩
  cases hq : (l0.any fun s => !most_b s) with
  | true =>
    have C2 := HANY true hq
    clear HANY hq
    rw [if_pos rfl]
    go_enter Try.func26, Try.ntmps26
    go_wp2_with (go_at_call 39; refine (C2.out _ HR1.out).mono ?_; rintro e w2 ⟨rfl, hb2⟩)
    go_ret
    exact ⟨_, rfl, Kd.R_nil _ _ _ _ _, below_then HA1.out HA1.out.size hb2⟩
  | false =>
    have C2 := HANY false hq
    clear HANY hq
    rw [if_neg (by decide)]
    have C3 := Aside0.mk (fun W => in_calls a1 0 24 W)
    cases hi : inB 0 24 a1 with
    | false =>
      rw [if_neg (by decide)]
      rw [hi] at C3
      clear hi
      go_enter Try.func26, Try.ntmps26
      go_wp2_with (first | (go_at_call 39; refine (C2.out _ HR1.out).mono ?_; rintro e w2 ⟨rfl, hb2⟩) | (go_at_call 41; refine (C3.out _).mono ?_; rintro e w3 ⟨rfl, ⟨n3, rfl⟩⟩))
      go_ret
      exact ⟨_, rfl, Kd.R_nil _ _ _ _ _, pw_below_drewN (below_then HA1.out HA1.out.size hb2) n3⟩
    | true =>
      rw [if_pos rfl]
      rw [hi] at C3
      clear hi
      have C4 := Aside0.mk (fun W => impl_indices.calls 30 (l0.length : Int) (most_id l0.length) W (most_ind l0.length H20.out))
      have HX1 : Aside0 ((w.alloc (.cells #[.slice A0 l0.length c0] 25)).cell? ⟨w.heap.size, 0, none⟩ = some (.slice A0 l0.length c0)) := ⟨by simp⟩
      have HZ1 : Aside0 (w.heap.size < (w.alloc (.cells #[.slice A0 l0.length c0] 25)).heap.size) := ⟨by simp⟩
      obtain ⟨R, hR⟩ : ∃ R, most_go l0 a1 (most_ix l0) [] = R := ⟨_, rfl⟩
      rw [hR]
      have HR := Aside0.mk hR
      clear hR
      go_enter Try.func26, Try.ntmps26
      go_wp2_with (first
        | (go_at_call 39; refine (C2.out _ HR1.out).mono ?_; rintro e w2 ⟨rfl, hb2⟩; have hx2 := pw_cell_below hb2 HX1.out)
        | (go_at_call 41; refine (C3.out _).mono ?_; rintro e w3 ⟨rfl, ⟨n3, rfl⟩⟩)
        | (go_at_call 42; refine (C4.out _).mono ?_; rintro e w4 ⟨v24, rfl, ho24, hb4⟩; have HO4 := Aside0.mk ho24; have HB4 := Aside0.mk (below_then (pw_below_drewN hb2 n3) (pw_below_drewN hb2 n3).size hb4); have HZ4 : Aside0 ((w.alloc (.cells #[.slice A0 l0.length c0] 25)).heap.size ≤ (w2.drewN n3).heap.size) := ⟨hb2.size⟩; clear hb4 ho24 hb2)
        | ((with_reducible refine gate_dst (N := 25) rfl ?_); refine Kd.R_lit (Kd.int .i64) _ 3 ?hg (N := 25) ?hd (xs := ([] : List Int)) (inner := []) (ok := fun _ => True) (okp := fun _ => True) ?hr ?hp (fun _ hk => hk) trivial (Below.refl _ _) (Nat.le_refl _) (by simp) ?_; (case hd => rfl); (case hg => rfl); (case hr => first | (go_simp; done) | (go_simp; rfl)); (case hp => exact (Reps.none _ _)); intro v25 w5 ho25 hb5 hg_ hnew_; clear hg_ hnew_; (try simp only [Int.reduceToNat] at ho25); obtain ⟨Ao, co, e24, C5⟩ := most_call l0 H20.out A0 c0 w.heap.size _ HX1.out HR1.out w5 (below_then HB4.out HB4.out.size hb5) _ HZ4.out _ v24 (Kd.R_below HO4.out hb5) EG2.out; subst e24; have HO5 := Aside0.mk (Kd.R_new' ho25 (Kd.R_lt HO4.out)); have HB5 := Aside0.mk (below_then HB4.out HB4.out.size hb5); have HZ5 := Aside0.mk hb5.size; have HC5 := Aside0.mk C5; clear hb5 ho25 C5)
        | (go_at_call 43; refine HC5.out.mono ?_; rintro e w6 ⟨rfl, hC6, hg6⟩; have HC6 := Aside0.mk hC6; have HG6 := Aside0.mk hg6; clear hC6 hg6))
      have hLT := Kd.R_lt HO4.out
      have hBA := Kd.R_base HO4.out
      have hB16 := pw_below_grown HB5.out _ HB5.out.size HG6.out (fun k hk => Nat.le_trans HZ4.out (hBA k hk))
      have hO6 := Kd.R_mono (ok' := fun _ => True) (Kd.R_grown HO5.out HG6.out (fun k hk => hk.2)) (fun _ _ => trivial)
      have hb6 : w4.heap.size ≤ w6.heap.size := Nat.le_trans HZ5.out HG6.out.size
      have hb1 := HB4.out.size
      have hbx := pw_cell_below hB16 HX1.out
      have hz1 := HZ1.out
      have hB6 := most_then HA1.out hB16 (Nat.le_of_lt hz1)
      obtain ⟨b, hbe⟩ : ∃ b, w4.heap.size = b := ⟨_, rfl⟩
      rw [hbe] at hLT hO6 hb6 hb1
      have HLT := Aside0.mk hLT
      have HO6 := Aside0.mk hO6
      have HBX := Aside0.mk hbx
      have HB6 := Aside0.mk hB6
      have HWb : Aside0 (w.heap.size < b) := ⟨by omega⟩
      have Hb6 := Aside0.mk hb6
      clear hLT hBA hB16 hO6 hb6 hb1 hbx hz1 hB6 hbe HO4 HB4 HZ4 HO5 HB5 HZ5 HC5 HG6 C2 C3 C4 HX1 HZ1 HA1 HR1 EG1 EG2 hz hx2
      go_loopg [6, 31] l0.length (fun gg v6 v31 W => ∃ (kk : Nat) (out : List Int), v31 = .int .i64 kk ∧ kk ≤ l0.length ∧ l0.length - kk ≤ gg ∧ Aside0 (out.length ≤ kk) ∧ Aside0 (Kd.R (Kd.int .i64) 3 W b (fun _ => True) v6 out) ∧ Aside0 (Below b w6 W) ∧ Aside0 (∀ x ∈ out, 0 ≤ x ∧ x < (l0.length : Int)) ∧ Aside0 (most_go l0 a1 ((most_ix l0).drop kk) out = R))
      case atStart => exact ⟨0, [], rfl, Nat.zero_le _, by omega, ⟨Nat.zero_le _⟩, HO6, ⟨Below.refl _ _⟩, ⟨fun x hx => (by cases hx)⟩, ⟨by rw [List.drop_zero]; exact HR.out⟩⟩
      case round =>
        obtain ⟨kk, out, rfl, hkk, hg, HLK, HO, HBW, HIN, HM⟩ := hrel
        by_cases hlt : kk < l0.length
        · have hltz : (kk : Int) < (l0.length : Int) := by omega
          have hlx : kk < (most_ix l0).length := by rw [most_ixl]; exact hlt
          obtain ⟨x, hx⟩ : ∃ x, (most_ix l0)[kk] = x := ⟨_, rfl⟩
          have hxi := most_ixi l0 _ (List.getElem_mem hlx)
          rw [hx] at hxi
          have hM := HM.out
          rw [List.drop_eq_getElem_cons hlx, hx] at hM
          simp only [most_go] at hM
          have HM2 := Aside0.mk hM
          have HXI := Aside0.mk hxi
          have HLL := Aside0.mk hlt
          have HKL : Aside0 (kk ≤ 1000000) := ⟨by have := H20.out; omega⟩
          have HGK := Aside0.mk hg
          have Hbw : Aside0 (b ≤ wr.heap.size) := ⟨Nat.le_trans Hb6.out HBW.out.size⟩
          -- the index from the sorted row
          obtain ⟨ad, e, ho0⟩ := Kd.at_int HC6.out (kk : Int) (by omega) hltz
          cases e
          have hrd : rd (most_ix l0) (kk : Int) = x := by rw [← hx]; simp [rd, hlx]
          have hlt1 : (ad.add ((kk : Int).toNat)).block < b := by
            have hab : (ad.add ((kk : Int).toNat)).block = ad.block := by unfold Addr.add; split <;> rfl
            rw [hab]; exact HLT.out ad.block rfl
          have ho1 := (HBW.out.cell hlt1).trans ho0
          rw [hrd, Int.toNat_natCast] at ho1
          -- the shift
          obtain ⟨ad1, e, hy0, hy1⟩ := at_T39 HR0.out x hxi.1 hxi.2
          cases e
          have hBW := most_then HB6.out HBW.out (Nat.le_of_lt HWb.out)
          replace hy0 := (hBW.cell (World.block_lt_of_cell? w _ hy0)).trans hy0
          clear hy1
          have hbx := (HBW.out.cell (show (⟨w.heap.size, 0, none⟩ : Addr).block < b from HWb.out)).trans HBX.out
          obtain ⟨Ar, cr, e6⟩ := Kd.R_slice HO.out
          subst e6
          have hol : out.length ≤ 9223372036854775807 := by have := HLK.out; have := HKL.out; omega
          have px : 0 ≤ x := hxi.1
          have qx : x < (l0.length : Int) := hxi.2
          obtain ⟨u, hu⟩ : ∃ u, (rd_T39 l0 x).f0 = u := ⟨_, rfl⟩
          rw [hu] at hy0 hM
          by_cases h0 : out.length = 0
          · rw [if_pos (Or.inl h0)] at hM
            have HM' := Aside0.mk hM
            have hz0 : ((out.length : Int) == 0) = true := by rw [h0]; rfl
            clear hM hx hlx hrd hlt1 hBW ho0 hxi hu hlt hg hkk
            replace px := eq_true px
            replace qx := eq_true qx
            go_wp2
            go_quiet (fail)
            go_wp2_with ((with_reducible refine gate_builtin (b := .append) (xs := #[.tmp 58, .tmp 60]) rfl ?_); at_builtin; refine Kd.R_append (Kd.int .i64) (w0 := w6) b rfl (.tmp 58) (.tmp 60) 36 3 (.int .i64 0) 8 rfl Try.underlying36 info3 rfl (by decide) (by omega) (.slice Ar out.length cr) out x [.int .i64 x] (fun _ => True) (fun _ => False) rfl rfl ?aP (fun _ hk => hk.elim) ?aF ?aO ?aB ?aS ?aL ?_; (case aP => exact rfl); (case aB => exact (by repeat (first | exact HBW.out | apply pw_below_drewN | apply below_drew1))); (case aF => exact (fun _ _ => trivial)); (case aO => exact (by (with_reducible repeat (first | apply Kd.R_drewN | apply Kd.R_drew)); exact HO.out)); (case aS => exact Hbw.out); (case aL => have := HLK.out; have := HKL.out; omega); intro v61 w7 ho7 hb7 hg7 hat7; have HO7 := Aside0.mk ho7; have HB7 := Aside0.mk hb7; clear ho7 hb7 hg7 hat7)
            go_roundg (l0.length - (kk + 1))
            case measure => have := HLL.out; have := HGK.out; omega
            case rel => exact ⟨kk + 1, out ++ [x], by go_num, by have := HLL.out; omega, by omega, ⟨by have := HLK.out; simp; omega⟩, HO7, HB7, ⟨fun y hy => by
              rcases List.mem_append.1 hy with h | h
              · exact HIN.out y h
              · rw [List.mem_singleton] at h; rw [h]; exact HXI.out⟩, HM'⟩
          · have hpos : 0 < out.length := Nat.pos_of_ne_zero h0
            have hz0 : ((out.length : Int) == 0) = false := beq_eq_false_iff_ne.mpr (by omega)
            obtain ⟨ji, hji⟩ : ∃ j : Int, wrap64 ((out.length : Int) - 1) = j := ⟨_, rfl⟩
            have hjw : IntKind.i64.wrap ((out.length : Int) - 1) = ji := (i64_w _).trans hji
            have hjv : ji = (out.length : Int) - 1 := by rw [← hji]; unfold wrap64; omega
            rw [hji] at hM
            have p2 : 0 ≤ ji := by omega
            have q2 : ji < (out.length : Int) := by omega
            obtain ⟨ad2, e, hr0⟩ := Kd.at_int (Kd.R_reads' HO.out).2.2 ji p2 q2
            cases e
            obtain ⟨z, hz⟩ : ∃ z, rd out ji = z := ⟨_, rfl⟩
            have hzi := HIN.out z (by
              rw [← hz]
              unfold rd
              rw [List.getD_eq_getElem?_getD, List.getElem?_eq_getElem (show ji.toNat < out.length by omega), Option.getD_some]
              exact List.getElem_mem _)
            rw [hz] at hr0 hM
            obtain ⟨ad3, e, hs0, hs1⟩ := at_T39 HR0.out z hzi.1 hzi.2
            cases e
            replace hs1 := (hBW.cell (World.block_lt_of_cell? w _ hs1)).trans hs1
            clear hs0
            obtain ⟨y, hy⟩ : ∃ y, (rd_T39 l0 z).f1 = y := ⟨_, rfl⟩
            rw [hy] at hs1 hM
            obtain ⟨jy, hjy⟩ : ∃ j : Int, wrap64 (y + a1) = j := ⟨_, rfl⟩
            have hjyw : IntKind.i64.wrap (y + a1) = jy := (i64_w _).trans hjy
            rw [hjy] at hM
            have pz : 0 ≤ z := hzi.1
            have qz : z < (l0.length : Int) := hzi.2
            by_cases hc : u ≥ jy
            · rw [if_pos (Or.inr hc)] at hM
              have HM' := Aside0.mk hM
              have hcb : decide (jy ≤ u) = true := decide_eq_true hc
              clear hM hx hlx hrd hlt1 hBW ho0 hxi hu hlt hg hkk h0 hpos hjv hz hzi hy hjy hji hc
              replace px := eq_true px
              replace qx := eq_true qx
              replace p2 := eq_true p2
              replace q2 := eq_true q2
              replace pz := eq_true pz
              replace qz := eq_true qz
              go_wp2
              go_quiet (fail)
              go_wp2_with ((with_reducible refine gate_builtin (b := .append) (xs := #[.tmp 58, .tmp 60]) rfl ?_); at_builtin; refine Kd.R_append (Kd.int .i64) (w0 := w6) b rfl (.tmp 58) (.tmp 60) 36 3 (.int .i64 0) 8 rfl Try.underlying36 info3 rfl (by decide) (by omega) (.slice (some ad2) out.length cr) out x [.int .i64 x] (fun _ => True) (fun _ => False) rfl rfl ?aP (fun _ hk => hk.elim) ?aF ?aO ?aB ?aS ?aL ?_; (case aP => exact rfl); (case aB => exact (by repeat (first | exact HBW.out | apply pw_below_drewN | apply below_drew1))); (case aF => exact (fun _ _ => trivial)); (case aO => exact (by (with_reducible repeat (first | apply Kd.R_drewN | apply Kd.R_drew)); exact HO.out)); (case aS => exact Hbw.out); (case aL => have := HLK.out; have := HKL.out; omega); intro v61 w7 ho7 hb7 hg7 hat7; have HO7 := Aside0.mk ho7; have HB7 := Aside0.mk hb7; clear ho7 hb7 hg7 hat7)
              go_roundg (l0.length - (kk + 1))
              case measure => have := HLL.out; have := HGK.out; omega
              case rel => exact ⟨kk + 1, out ++ [x], by go_num, by have := HLL.out; omega, by omega, ⟨by have := HLK.out; simp; omega⟩, HO7, HB7, ⟨fun y hy => by
                rcases List.mem_append.1 hy with h | h
                · exact HIN.out y h
                · rw [List.mem_singleton] at h; rw [h]; exact HXI.out⟩, HM'⟩
            · rw [if_neg (fun h => h.elim h0 hc)] at hM
              have HM' := Aside0.mk hM
              have hcb : decide (jy ≤ u) = false := decide_eq_false hc
              clear hM hx hlx hrd hlt1 hBW ho0 hxi hu hlt hg hkk h0 hpos hjv hz hzi hy hjy hji hc
              replace px := eq_true px
              replace qx := eq_true qx
              replace p2 := eq_true p2
              replace q2 := eq_true q2
              replace pz := eq_true pz
              replace qz := eq_true qz
              go_wp2
              go_quiet (fail)
              go_wp2
              go_roundg (l0.length - (kk + 1))
              case measure => have := HLL.out; have := HGK.out; omega
              case rel => exact ⟨kk + 1, out, by go_num, by have := HLL.out; omega, by omega, ⟨by have := HLK.out; omega⟩, ⟨Kd.R_drewN HO.out _⟩, ⟨pw_below_drewN HBW.out _⟩, HIN, HM'⟩
        · have hltz : ¬ (kk : Int) < (l0.length : Int) := by omega
          have hM := HM.out
          rw [List.drop_of_length_le (by rw [most_ixl]; omega)] at hM
          simp only [most_go] at hM
          subst hM
          have HBZ := Aside0.mk (most_then HB6.out HBW.out (Nat.le_of_lt HWb.out))
          go_wp2
          go_ret
          exact ⟨_, rfl, Kd.R_lower HO.out (Nat.le_of_lt HWb.out), HBZ.out⟩


/-! ### laws_has: function 27 -/
def laws_has.l0 : Nat → List Int → Int → Int → Option (Bool)
 | 0, _, _, _ => none
 | k + 1, x0, x1, x5 => if x5 < (x0.length : Int) then (if 0 ≤ x5 then (if (rd x0 x5) = x1 then (some true) else (laws_has.l0 k x0 x1 (wrap64 (x5 + 1)))) else (none)) else (some false)
def laws_has.f (k : Nat) (l0 : List Int) (a1 : Int) : Option (Bool) := laws_has.l0 k l0 a1 0
theorem laws_has.mono_l : ∀ k, (∀ y0 y1 y2, LeO (laws_has.l0 k y0 y1 y2) (laws_has.l0 (k + 1) y0 y1 y2))
 | 0 => fun _ _ _ r h => by simp [laws_has.l0] at h
 | k + 1 => by
  have ih0 := laws_has.mono_l k
  ·intro y0 y1 y2
   unfold laws_has.l0
   repeat' first
   | (with_reducible exact ih0 _ _ _)
   | (with_reducible exact LeO.refl _)
   | (with_reducible exact LeO.none _)
   | (with_reducible refine LeO.ite ?_ ?_)
   | (with_reducible refine LeO.bind ?_ (fun _ => ?_))
   | exact ih0 _ _ _
   | exact LeO.none _
   | refine LeO.ite ?_ ?_
   | refine LeO.bind ?_ (fun _ => ?_)
theorem laws_has.mono : ∀ a0 a1 k, LeO (laws_has.f k a0 a1) (laws_has.f (k + 1) a0 a1) := by
 intro a0 a1 k
 have ih0 := laws_has.mono_l k
 unfold laws_has.f
 repeat' first
   | (with_reducible exact ih0 _ _ _)
   | (with_reducible exact LeO.refl _)
   | (with_reducible exact LeO.none _)
   | (with_reducible refine LeO.ite ?_ ?_)
   | (with_reducible refine LeO.bind ?_ (fun _ => ?_))
   | exact ih0 _ _ _
   | exact LeO.none _
   | refine LeO.ite ?_ ?_
   | refine LeO.bind ?_ (fun _ => ?_)
set_option maxHeartbeats 8000000 in
set_option maxRecDepth 100000 in
theorem laws_has.calls (k : Nat) (A0 : Option Addr) (c0 : Nat) (l0 : List Int) (a1 : Int) (r : Bool) (w : World) (hr0 : Kd.C (Kd.int .i64) w A0 l0.length l0) (hc0 : l0.length ≤ c0) (h : laws_has.f k l0 a1 = some r) :
  Calls Try.prog 27 #[.slice A0 l0.length c0, .int .i64 a1] w fun e w' => e = .returned (.bool r) ∧ Drawn0 w w' := by
 have HR0 := Aside0.mk hr0
 have HC0 := Aside0.mk hc0
 clear hr0 hc0
 have H : (laws_has.l0 k l0 a1 0) = some r := h
 clear h
 have H' := Aside0.mk H
 clear H
 go_enter Try.func27, Try.ntmps27
 go_wp2
 go_loopg [5] k (fun kq v5 w' => ∃ (x5_1 : Int), v5 = .int .i64 x5_1 ∧ Aside0 (laws_has.l0 kq l0 a1 x5_1 = some r) ∧ Aside0 (kq ≤ k) ∧ Drawn0 w w')
 case atStart => exact ⟨(0), (by first | rfl | (simp; done) | (simp [*]; done)), H', ⟨Nat.le_refl _⟩, by repeat (first | exact Drawn0.refl _ | apply Drawn0.step)⟩
 case round =>
  clear H'
  try clear c2
  try clear p2
  obtain ⟨x5_1, rfl, HA, HK1, ⟨m1, rfl⟩⟩ := hrel
  cases gk with
  | zero => exact absurd HA.out (by simp [laws_has.l0])
  | succ k1 =>
   have H := HA.out
   clear HA
   simp only [laws_has.l0] at H
   by_cases c3 : x5_1 < (l0.length : Int)
   ·rw [if_pos c3] at H
    have c3b0 : decide (x5_1 < (l0.length : Int)) = true := decide_eq_true c3
    clear c3
    by_cases c4 : 0 ≤ x5_1
    ·rw [if_pos c4] at H
     have c4b0 : decide (0 ≤ x5_1) = true := decide_eq_true c4
     clear c4
     by_cases c5 : (rd l0 x5_1) = a1
     ·rw [if_pos c5] at H
      have c5b0 : ((rd l0 x5_1) == a1) = true := beq_iff_eq.mpr c5
      have c5b1 : ((rd l0 x5_1) != a1) = false := bne_eq_false_iff_eq.mpr c5
      clear c5
      obtain rfl := Option.some.inj H
      have p174 : 0 ≤ (x5_1 : Int) := of_decide_eq_true (by first | (with_reducible assumption) | assumption)
      have q174 : x5_1 < (l0.length : Int) := of_decide_eq_true (by first | (with_reducible assumption) | assumption)
      obtain ⟨ad174, e174, hx174_0⟩ := Kd.at_int HR0.out x5_1 p174 q174
      cases e174
      replace p174 := eq_true p174
      replace q174 := eq_true q174
      go_wp2
      go_ret
      exact ⟨by first | rfl | (simp; done) | (simp [*]; done), by repeat (first | exact Drawn0.refl _ | apply Drawn0.step)⟩
     ·rw [if_neg c5] at H
      have c5b0 : ((rd l0 x5_1) == a1) = false := beq_eq_false_iff_ne.mpr c5
      have c5b1 : ((rd l0 x5_1) != a1) = true := bne_iff_ne.mpr c5
      have H' := Aside0.mk H
      clear H
      have p174 : 0 ≤ (x5_1 : Int) := of_decide_eq_true (by first | (with_reducible assumption) | assumption)
      have q174 : x5_1 < (l0.length : Int) := of_decide_eq_true (by first | (with_reducible assumption) | assumption)
      obtain ⟨ad174, e174, hx174_0⟩ := Kd.at_int HR0.out x5_1 p174 q174
      cases e174
      replace p174 := eq_true p174
      replace q174 := eq_true q174
      go_wp2
      go_roundg k1
      case measure => have := HK1.out; omega
      case rel => exact ⟨(wrap64 (x5_1 + 1)), (by first | rfl | (simp; done) | (simp [*]; done)), H', ⟨by have := HK1.out; omega⟩, by repeat (first | exact Drawn0.refl _ | apply Drawn0.step)⟩
    ·rw [if_neg c4] at H
     exact absurd H (by simp)
   ·rw [if_neg c3] at H
    have c3b0 : decide (x5_1 < (l0.length : Int)) = false := decide_eq_false c3
    clear c3
    obtain rfl := Option.some.inj H
    go_wp2
    go_ret
    exact ⟨by first | rfl | (simp; done) | (simp [*]; done), by repeat (first | exact Drawn0.refl _ | apply Drawn0.step)⟩

end Go.Proofs.Ytdlolekpdophcaa.PES
