/-
  A run of one goroutine alone and its image in company: what a contract says of every tape, step by step ('Fin').
  Condition: 'Setup'.
-/
import Derived.Test.YtmhbjmkdekgmlaaSimF
set_option linter.unusedSimpArgs false
set_option linter.unusedVariables false
namespace Go.Proofs.Ytmhbjmkdekgmlaa.Sim
open Go Go.Conc
variable {P : Program} {F B : FuncId → Bool} {np : FuncId → Nat → Bool}

/-- The frame below: whoever comes back to it by a return or a panic comes to an end. -/
def trap (P : Program) : Frame := { fn := P.funcs.size, tmps := #[], todo := [.call { target := .nil, args := #[] } false "fmt's door, shut" #[]], defers := [], mode := .run, kind := .normal }

theorem next_shut : Extern.next "fmt's door, shut" = none := by decide +kernel

def idT (n : Nat) : Array Nat := Array.range n
theorem idT_get {n i b : Nat} : (idT n)[i]? = some b ↔ i < n ∧ b = i := by
  unfold idT
  rw [Array.getElem?_eq_some_iff]
  constructor
  · rintro ⟨h, e⟩; simp at h e; exact ⟨h, e.symm⟩
  · rintro ⟨h, rfl⟩; exact ⟨by simpa using h, by simp⟩
theorem VRel.id_eq {n : Nat} {v v' : Value} (h : VRel (idT n) v v') : v' = v := by
  have addr : ∀ {a b : Addr}, AddrRel (idT n) a b → b = a := by
    intro a b ⟨h1, h2, h3⟩
    obtain ⟨_, h1⟩ := idT_get.1 h1
    cases a; cases b
    simp only at h1 h2 h3
    subst h1 h2 h3
    rfl
  induction h with
  | same _ => rfl
  | ptr x => rw [addr x]
  | slice _ _ x => rw [addr x]
  | tuple hs _ ih => congr 1; exact Array.ext hs.symm fun i h1 h2 => ih i h2 h1
theorem CRel.id_eq {n : Nat} {a b : Array Value} (h : CRel (idT n) a b) : b = a := Array.ext h.1.symm fun i h1 h2 => (h.2 i h2 h1).id_eq
theorem FRel.id_eq {n : Nat} {a b : Frame} (h : FRel P F np (idT n) a b) : b = a := by
  rw [h.eq, h.tmps.id_eq]
theorem FsRel.id_eq {n : Nat} {as bs : List Frame} (h : FsRel P F np (idT n) as bs) : bs = as := by
  induction h with
  | nil => rfl
  | cons h _ ih => rw [h.id_eq, ih]

/-- A state of the lone run that the laws speak of. -/
structure Self (P : Program) (F B : FuncId → Bool) (np : FuncId → Nat → Bool) (a : Frame) (as : List Frame) (u : World) : Prop where
  fr : FRel P F np (idT u.heap.size) a a
  frs : FsRel P F np (idT u.heap.size) as as
  chain : Chain B F a as
  heap : HRel (idT u.heap.size) u u

def tp (u : World) (τ : Nat → Question → Nat) : World := { u with tape := τ }
theorem Self.tp {a : Frame} {as : List Frame} {u : World} (h : Self P F B np a as u) (τ : Nat → Question → Nat) : Self P F B np a as (tp u τ) := ⟨h.fr, h.frs, h.chain, ⟨h.heap.size, h.heap.inj, h.heap.low, h.heap.row⟩⟩

theorem heap_of_id {n : Nat} {u w : World} (h : HRel (idT n) u w) (hs : w.heap.size = n) : w.heap = u.heap := by
  have hu : n = u.heap.size := by have := h.size; simpa [idT] using this
  refine Array.ext (by omega) fun i h1 h2 => ?_
  obtain ⟨c, e, f, x1, x2, _⟩ := h.row i i (idT_get.2 ⟨by omega, rfl⟩)
  rw [Array.getElem?_eq_getElem h2] at x1
  rw [Array.getElem?_eq_getElem h1] at x2
  have := x1.trans x2.symm
  exact (Option.some.inj this).symm

/-- The image of a lone step in the same world under another tape: the same step. -/
theorem image_self {u w u' : World} {g' : Goroutine} {KA KB : List Frame} {s : GStep} (hw : w.heap = u.heap) (hos : w.os = u.os) (hou : w.output = u.output) (hd : w.drawn = u.drawn) (hu : u'.os = u.os ∧ u'.output = u.output)
    (h : Image P F B np (idT u.heap.size) u w u' g' KA KB s) : ∃ a' as' es, g' = G a' (as' ++ KA) ∧ s = .go (G a' (as' ++ KB)) (tp u' w.tape) es ∧ Self P F B np a' as' u' ∧ u.drawn ≤ u'.drawn ∧ u'.tape = u.tape := by
  obtain ⟨ρ', a', b', as', bs', w', es, h1, h2, h3, h4, h5, h6, h7, h8, h9, h10, h11, h12⟩ := h.out
  have hn : ρ' = idT u'.heap.size := by
    have e0 := h7.size
    refine Array.ext (by simpa [idT] using e0) fun i x1 x2 => ?_
    have : ρ'[i]? = some i := by
      rcases Nat.lt_or_ge i u.heap.size with hlt | hge
      · exact h3.get (idT_get.2 ⟨hlt, rfl⟩)
      · rw [h9.fresh i (by simpa [idT] using hge) x1, hw]
        simp only [idT, Array.size_range]
        exact congrArg some (by omega)
    rw [Array.getElem?_eq_getElem x1] at this
    rw [Option.some.inj this]
    simp [idT]
  subst hn
  have hsz : w'.heap.size = u'.heap.size := by
    rw [h9.size, hw]
    have := h3.size
    simp only [idT, Array.size_range] at this ⊢
    omega
  have hh := heap_of_id h7 hsz
  have e1 := h4.id_eq
  have e2 := h5.id_eq
  rw [e1] at h2 h4
  rw [e2] at h2 h5
  have hw' : w' = Sim.tp u' w.tape := by
    have t1 := h9.tape
    have t2 := h9.os
    have t3 := h9.output
    have t4 : w'.drawn = u'.drawn := by omega
    obtain ⟨hp, ta, dr, os, ou⟩ := w'
    simp only at hh t1 t2 t3 t4
    subst hh t1 t2 t3 t4
    simp only [Sim.tp, hos, hou, hu.1, hu.2]
  rw [hw'] at h2
  have hid : HRel (idT u'.heap.size) u' u' := ⟨h7.size, h7.inj, fun i b hi => (idT_get.1 hi).2 ▸ (idT_get.1 hi).1, fun i b hi => by
    obtain ⟨c, e, f, x1, x2, x3⟩ := h7.row i b hi
    obtain ⟨_, rfl⟩ := idT_get.1 hi
    exact ⟨c, e, f, x1, x1, x3⟩⟩
  exact ⟨a', as', es, h1, h2, ⟨h4, h5, h6, hid⟩, h11, h12⟩

end Go.Proofs.Ytmhbjmkdekgmlaa.Sim
