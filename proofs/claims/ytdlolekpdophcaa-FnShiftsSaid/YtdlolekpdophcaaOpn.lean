/- Arguments that are structs, slices of structs, slices of slices: read as data, they read as the print's kinds. -/
import Derived.Test.YtdlolekpdophcaaWWords
import Derived.Deep.Slices
import Derived.Deep.Strs
import Derived.ChangeArms
import Derived.SizedLaws
import Derived.ChangeSlices
import Derived.Lib.SmallJoins
namespace Go.Proofs.Ytdlolekpdophcaa.Opn
open Go.RowKit Go.ChangeShapes Go.WideShapes Go.Deep Go.Joins Go.Proofs.YtdlolekpdophcaaW.PrintWords
set_option linter.unusedVariables false

section
variable {H : Type} {enc : TypeId × Value → H} {P : Program}

/-- Whatever reads as data of type t reads as kind d, and is well-formed. -/
def Opn {α : Type} (enc : TypeId × Value → H) (P : Program) (d : Kd α) (t : TypeId) (wf : α → Prop) : Prop :=
  ∀ (W : World) (base : Nat) (sp : Nat → Bool) (held : Bool) (fuel : Nat) (cs : List Value) (x : DataW H × List MemPlace),
    DataW.trod enc P W base sp held fuel t cs = some x → ∃ a, d.K W a cs ∧ wf a

theorem list_of {α : Type} {p : Nat → α → Prop} : ∀ n, (∀ i, i < n → ∃ x, p i x) → ∃ xs : List α, xs.length = n ∧ ∀ i x, xs[i]? = some x → p i x := by
  intro n
  induction n with
  | zero => intro _; exact ⟨[], rfl, fun i x h => by simp at h⟩
  | succ n ih =>
    intro h
    obtain ⟨xs, hl, hx⟩ := ih (fun i hi => h i (by omega))
    obtain ⟨y, hy⟩ := h n (by omega)
    refine ⟨xs ++ [y], by simp [hl], fun i x hi => ?_⟩
    rcases Nat.lt_or_ge i xs.length with hlt | hge
    · rw [List.getElem?_append_left hlt] at hi
      exact hx i x hi
    · have hlen := (List.getElem?_eq_some_iff.1 hi).1
      simp at hlen
      have : i = xs.length := by omega
      subst this
      simp at hi
      subst hi
      rw [hl]
      exact hy

theorem Opn.int {t : TypeId} {k : IntKind} (ht : P.underlying t = some (.int k)) : Opn enc P (Kd.int k) t (fun x => (Lit.int k x).wf = true) := by
  intro W base sp held fuel cs x h
  obtain ⟨n, rfl, _, hw⟩ := DataW.trod_int ht h
  exact ⟨n, rfl, hw⟩

theorem Opn.C_nil {α : Type} (d : Kd α) (W : World) : d.C W none 0 [] := ⟨rfl, by omega, fun h => absurd h (by omega)⟩

theorem Opn.slice {α : Type} {d : Kd α} {wf : α → Prop} {t e : TypeId} (ht : P.underlying t = some (.slice e)) (hC : P.cellsOf e = d.sz) (h : Opn enc P d e wf) :
    Opn enc P (Kd.slice e d) t (fun xs => xs.length ≤ maxLen ∧ ∀ x ∈ xs, wf x) := by
  intro W base sp held fuel cs x hx
  rcases open_slice ht hx with ⟨rfl, _⟩ | ⟨a, len, cap, m, n, D, Pl, rfl, hb, hl, hm, hmm, rfl, hi⟩
  · exact ⟨[], ⟨none, 0, rfl, Nat.le_refl _, Opn.C_nil d W⟩, by simp [maxLen], fun x hx => by simp at hx⟩
  · have hlm : len ≤ m := by rw [hmm]; split <;> omega
    obtain ⟨xs, hlen, hxs⟩ := list_of (p := fun i y => (∃ c, c.length = d.sz ∧ d.K W y c ∧ ∀ j u, c[j]? = some u → W.cell? (a.add (i * d.sz + j)) = some u) ∧ wf y) len (fun i hil => by
      obtain ⟨cs', hc, htr⟩ := hi i (by omega)
      obtain ⟨y, hy, hwy⟩ := h _ _ _ _ _ _ _ htr
      rw [hC] at hc
      obtain ⟨_, hcl, hat⟩ := World.cells?_some hc
      refine ⟨y, ⟨cs', hcl, hy, fun j u hj => ?_⟩, hwy⟩
      have hjl := (List.getElem?_eq_some_iff.1 hj).1
      rw [← Go.Deep.add_add, hat j (by omega), hj])
    have hmx : len ≤ 9223372036854775807 := by simp only [maxLen] at hm; omega
    subst hlen
    refine ⟨xs, ⟨some a, cap, rfl, hl, rfl, hmx, fun _ => ⟨a, rfl, fun j p hj => ?_⟩⟩, by omega, fun x hx => ?_⟩
    · obtain ⟨⟨c, h1, h2, h3⟩, _⟩ := hxs j p hj
      exact ⟨c, h1, h2, h3⟩
    · obtain ⟨i, hi⟩ := List.getElem?_of_mem hx
      exact (hxs i x hi).2

theorem one_field {cs : List Value} {f : Nat} (hf : f < cs.length) : (cs.drop f).take 1 = [cs[f]] := by
  rw [List.drop_eq_getElem_cons hf]; rfl

/-- One field of one cell. -/
theorem Opn.struct1 {α : Type} {d : Kd α} {wf : α → Prop} {t : TypeId} {f0 : Field} (ht : P.underlying t = some (.struct #[f0])) (hC : P.cellsOf t = 1)
    (h0 : Opn enc P d f0.type wf) (ho : f0.offset = 0) (hc : P.cellsOf f0.type = 1) : Opn enc P d t wf := by
  intro W base sp held fuel cs x hx
  obtain ⟨y0, n, _, hl, h⟩ := trod_struct1 ht hx
  rw [ho, hc] at h
  rw [hC] at hl
  obtain ⟨a, ha, hw⟩ := h0 _ _ _ _ _ _ _ h
  refine ⟨a, ?_, hw⟩
  match cs, hl with
  | [v], _ => exact ha

/-- Two fields of one cell each. -/
theorem Opn.struct2 {α β : Type} {d : Kd α} {d' : Kd β} {wf : α → Prop} {wf' : β → Prop} {t : TypeId} {f0 f1 : Field} (ht : P.underlying t = some (.struct #[f0, f1])) (hC : P.cellsOf t = 2)
    (h0 : Opn enc P d f0.type wf) (h1 : Opn enc P d' f1.type wf') (ho0 : f0.offset = 0) (ho1 : f1.offset = 1) (hc0 : P.cellsOf f0.type = 1) (hc1 : P.cellsOf f1.type = 1) :
    Opn enc P (Kd.pair d d') t (fun x => wf x.1 ∧ wf' x.2) := by
  intro W base sp held fuel cs x hx
  obtain ⟨y0, y1, n, _, hl, g0, g1⟩ := trod_struct2 ht hx
  rw [ho0, hc0] at g0
  rw [ho1, hc1] at g1
  rw [hC] at hl
  obtain ⟨a, ha, hw⟩ := h0 _ _ _ _ _ _ _ g0
  obtain ⟨b, hb, hw'⟩ := h1 _ _ _ _ _ _ _ g1
  match cs, hl with
  | [v, u], _ => exact ⟨(a, b), ⟨[v], [u], rfl, ha, hb⟩, hw, hw'⟩

/-- Three fields of one cell each. -/
theorem Opn.struct3 {α β γ : Type} {d : Kd α} {d' : Kd β} {d'' : Kd γ} {wf : α → Prop} {wf' : β → Prop} {wf'' : γ → Prop} {t : TypeId} {f0 f1 f2 : Field} (ht : P.underlying t = some (.struct #[f0, f1, f2])) (hC : P.cellsOf t = 3)
    (h0 : Opn enc P d f0.type wf) (h1 : Opn enc P d' f1.type wf') (h2 : Opn enc P d'' f2.type wf'') (ho0 : f0.offset = 0) (ho1 : f1.offset = 1) (ho2 : f2.offset = 2) (hc0 : P.cellsOf f0.type = 1) (hc1 : P.cellsOf f1.type = 1) (hc2 : P.cellsOf f2.type = 1) :
    Opn enc P (Kd.pair d (Kd.pair d' d'')) t (fun x => wf x.1 ∧ wf' x.2.1 ∧ wf'' x.2.2) := by
  intro W base sp held fuel cs x hx
  obtain ⟨y0, y1, y2, n, _, hl, g0, g1, g2⟩ := trod_struct3 ht hx
  rw [ho0, hc0] at g0
  rw [ho1, hc1] at g1
  rw [ho2, hc2] at g2
  rw [hC] at hl
  obtain ⟨a, ha, hw⟩ := h0 _ _ _ _ _ _ _ g0
  obtain ⟨b, hb, hw'⟩ := h1 _ _ _ _ _ _ _ g1
  obtain ⟨c, hc, hw''⟩ := h2 _ _ _ _ _ _ _ g2
  match cs, hl with
  | [v, u, z], _ => exact ⟨(a, b, c), ⟨[v], [u, z], rfl, ha, [u], [z], rfl, hb, hc⟩, hw, hw', hw''⟩

/-- By a Lean structure's fields. -/
theorem Opn.iso {α β : Type} {d : Kd α} {t : TypeId} {wf : α → Prop} (f : β → α) (g : α → β) (hfg : ∀ a, f (g a) = a) (h : Opn enc P d t wf) : Opn enc P (Kd.iso d f) t (fun x => wf (f x)) := by
  intro W base sp held fuel cs x hx
  obtain ⟨a, ha, hw⟩ := h _ _ _ _ _ _ _ hx
  refine ⟨g a, ?_, ?_⟩
  · show d.K W (f (g a)) cs
    rw [hfg]; exact ha
  · show wf (f (g a))
    rw [hfg]; exact hw

/-- An argument that is a slice. -/
theorem Opn.arg {α : Type} {d : Kd α} {wf : α → Prop} {t e : TypeId} {W : World} {base : Nat} {sp : Nat → Bool} {held : Bool} {a : Option Addr} {len cap : Nat} {x : DataW H} {ps : List MemPlace}
    (ht : P.underlying t = some (.slice e)) (hC : P.cellsOf e = d.sz) (h : Opn enc P d e wf) (hT : DataW.Trod enc P W base sp held t (.slice a len cap) x ps) :
    ∃ l : List α, len = l.length ∧ l.length ≤ cap ∧ d.C W a l.length l ∧ l.length ≤ maxLen ∧ ∀ y ∈ l, wf y := by
  obtain ⟨fuel, hf⟩ := hT
  obtain ⟨l, ⟨A, c, he, hc, hr⟩, hm, hw⟩ := Opn.slice ht hC h _ _ _ _ _ _ _ hf
  simp [Value.cells] at he
  obtain ⟨rfl, rfl, rfl⟩ := he
  exact ⟨l, rfl, hc, hr, hm, hw⟩

/-- An argument that is a struct. -/
theorem Opn.agg {α : Type} {d : Kd α} {wf : α → Prop} {t : TypeId} {fs : Array Field} {r : Reach} {b0 : Nat} {W : World} {base : Nat} {sp : Nat → Bool} {held : Bool} {v : Value} {x : DataW H} {ps : List MemPlace}
    (ht : P.underlying t = some (.struct fs)) (hv : Value.okWide P W r b0 t v) (h : Opn enc P d t wf) (hT : DataW.Trod enc P W base sp held t v x ps) :
    ∃ (a : α) (cs : List Value), v = .agg cs.toArray ∧ d.K W a cs ∧ wf a := by
  obtain ⟨cs, rfl, hsz⟩ := okWide_struct ht hv
  obtain ⟨fuel, hf⟩ := hT
  obtain ⟨a, ha, hw⟩ := h _ _ _ _ _ _ _ hf
  exact ⟨a, cs.toList, rfl, ha, hw⟩

/-- No longer than its weight allows. -/
theorem sized_any {W : World} {base : Nat} {spare : Nat → Bool} {held : Bool} {t e : TypeId} {a : Option Addr} {len cap : Nat} {d : DataW H} {ps : List MemPlace} {ts : List TypeId} {ds : List (DataW H)} {j : Nat}
    (hsz : (DataW.weightsEach P ts ds).all (· ≤ reachBytes) = true) (ht : ts[j]? = some t) (hd : ds[j]? = some d) (hu : P.underlying t = some (.slice e)) {B : Nat} (hB : P.bytesOf e = B)
    (h : DataW.Trod enc P W base spare held t (.slice a len cap) d ps) : len * B ≤ 140737488351232 := by
  obtain ⟨fuel, hf⟩ := h
  rcases open_slice hu hf with ⟨hcs, _⟩ | ⟨x, l, c, m, n, D, Pl, hcs, _, hl, _, hmm, hx, _⟩
  · simp [Value.cells] at hcs
    obtain ⟨rfl, rfl, rfl⟩ := hcs
    simp
  · simp [Value.cells] at hcs
    obtain ⟨rfl, rfl, rfl⟩ := hcs
    obtain ⟨hx, _⟩ := Prod.mk.inj hx
    subst hx
    have z := sized_slice hsz ht hd hu
    rw [hB] at z
    have h1 : ((List.range len).map D).length + ((List.range (m - len)).map fun j => D (len + j)).length = len + (m - len) := by simp
    rw [h1] at z
    exact Nat.le_trans (Nat.mul_le_mul_right _ (by omega)) z
end
end Go.Proofs.Ytdlolekpdophcaa.Opn
