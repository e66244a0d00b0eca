/-
  A goroutine's way in company: a tree of its steps, with what it holds as its own; a lone contract's tree turned into such a way.
  Condition: 'Setup' (of the functions that are entered).
-/
import Derived.Test.YtmhbjmkdekgmlaaSimH
set_option linter.unusedSimpArgs false
set_option linter.unusedVariables false
namespace Go.Proofs.Ytmhbjmkdekgmlaa.Sim
open Go Go.Conc

/-! ### the way -/
/-- How far a way still goes, whatever world the others hand over ahead of each step. -/
inductive Tr : Type
  | stop
  | step (f : World → Tr)
def Tr.Sub (a b : Tr) : Prop := ∃ f w, b = .step f ∧ a = f w
theorem Tr.acc (t : Tr) : Acc Tr.Sub t := by
  induction t with
  | stop => exact ⟨_, fun y ⟨f, w, h, _⟩ => by cases h⟩
  | step f ih => exact ⟨_, fun y ⟨g, w, h, e⟩ => by cases h; subst e; exact ih w⟩
theorem Tr.wf : WellFounded Tr.Sub := ⟨Tr.acc⟩

section
variable {γ : Type} (P : Program) (main : Bool) (R : γ → World → World → Prop) (D : γ → World → World → Array Event → γ → Prop) (Stop : γ → Goroutine → World → Prop)
def Way : Tr → γ → Goroutine → World → Prop
  | .stop, c, g, w => ∀ w₁, R c w w₁ → Stop c g w₁
  | .step f, c, g, w => g.status = .running ∧ ∀ w₁, R c w w₁ → ∃ g' w' es c', stepG P main g w₁ = .go g' w' es ∧ D c w₁ w' es c' ∧ Way (f w₁) c' g' w'
end

section
variable {γ : Type} {P : Program} {main : Bool} {R : γ → World → World → Prop} {D : γ → World → World → Array Event → γ → Prop} {Stop Stop' : γ → Goroutine → World → Prop}
theorem Way.rely (trans : ∀ c a b d, R c a b → R c b d → R c a d) {t : Tr} {c : γ} {g : Goroutine} {w w₁ : World} (h : Way P main R D Stop t c g w) (hr : R c w w₁) : Way P main R D Stop t c g w₁ := by
  cases t with
  | stop => exact fun w₂ h₂ => h w₂ (trans _ _ _ _ hr h₂)
  | step f => exact ⟨h.1, fun w₂ h₂ => h.2 w₂ (trans _ _ _ _ hr h₂)⟩
/-- One step. -/
theorem Way.go {c : γ} {g : Goroutine} {w : World} (hs : g.status = .running) (h : ∀ w₁, R c w w₁ → ∃ g' w' es c', stepG P main g w₁ = .go g' w' es ∧ D c w₁ w' es c' ∧ ∃ t, Way P main R D Stop t c' g' w') : ∃ t, Way P main R D Stop t c g w := by
  classical
  refine ⟨.step fun w₁ => if h1 : R c w w₁ then (h w₁ h1).choose_spec.choose_spec.choose_spec.choose_spec.2.2.choose else .stop, hs, fun w₁ h1 => ?_⟩
  have hh := (h w₁ h1).choose_spec.choose_spec.choose_spec.choose_spec
  refine ⟨_, _, _, _, hh.1, hh.2.1, ?_⟩
  simp only [h1, dif_pos]
  exact hh.2.2.choose_spec
theorem Way.here {c : γ} {g : Goroutine} {w : World} (h : ∀ w₁, R c w w₁ → Stop c g w₁) : ∃ t, Way P main R D Stop t c g w := ⟨.stop, h⟩
/-- From stop to stop. -/
theorem Way.bind (refl : ∀ c w, R c w w) (trans : ∀ c a b d, R c a b → R c b d → R c a d) {t : Tr} : ∀ {c : γ} {g : Goroutine} {w : World}, Way P main R D Stop t c g w → (∀ c g w, Stop c g w → ∃ t, Way P main R D Stop' t c g w) → ∃ t, Way P main R D Stop' t c g w := by
  induction t with
  | stop =>
    intro c g w h hn
    obtain ⟨t, ht⟩ := hn c g w (h w (refl c w))
    exact ⟨t, ht⟩
  | step f ih =>
    intro c g w h hn
    refine Way.go h.1 fun w₁ h1 => ?_
    obtain ⟨g', w', es, c', e1, e2, e3⟩ := h.2 w₁ h1
    exact ⟨g', w', es, c', e1, e2, ih w₁ e3 hn⟩
theorem Way.mono {t : Tr} : ∀ {c : γ} {g : Goroutine} {w : World}, Way P main R D Stop t c g w → (∀ c g w, Stop c g w → Stop' c g w) → Way P main R D Stop' t c g w := by
  induction t with
  | stop => exact fun h hn w₁ h1 => hn _ _ _ (h w₁ h1)
  | step f ih =>
    intro c g w h hn
    refine ⟨h.1, fun w₁ h1 => ?_⟩
    obtain ⟨g', w', es, c', e1, e2, e3⟩ := h.2 w₁ h1
    exact ⟨g', w', es, c', e1, e2, ih w₁ e3 hn⟩
end

/-! ### a lone contract in company -/
section
variable {γ : Type} {P : Program} {F B : FuncId → Bool} {np : FuncId → Nat → Bool} {main : Bool} {R : γ → World → World → Prop} {D : γ → World → World → Array Event → γ → Prop} {Stop : γ → Goroutine → World → Prop}

def Kin (w w' : World) : Prop := w'.tape = w.tape ∧ w'.os = w.os ∧ w'.output = w.output
theorem Kin.refl (w : World) : Kin w w := ⟨rfl, rfl, rfl⟩
theorem Kin.trans {w w' w'' : World} (h : Kin w w') (k : Kin w' w'') : Kin w w'' := ⟨k.1.trans h.1, k.2.1.trans h.2.1, k.2.2.trans h.2.2⟩
theorem Kin.at (w : World) (d : Nat) : Kin w (w.at d) := ⟨rfl, rfl, rfl⟩

/-- What a rely and a guarantee must grant the blocks that a call holds ('K'). -/
structure Grant (Z : Nat) (R : γ → World → World → Prop) (D : γ → World → World → Array Event → γ → Prop) (K : γ → Nat → Prop) : Prop where
  size : ∀ c w w₁, R c w w₁ → w.heap.size ≤ w₁.heap.size
  stand : ∀ c w w₁ b, R c w w₁ → K c b → w₁.heap[b]? = w.heap[b]?
  step : ∀ c w w' es ρ ρ', Z ≤ w.heap.size → (∀ (i b : Nat), ρ[i]? = some b → b < w.heap.size) → Far ρ ρ' w w' → Ext ρ ρ' → (∀ (i b : Nat), ρ[i]? = some b → K c b) → (∀ e ∈ es, EvOk ρ' e) → ∃ c', D c w w' es c' ∧ (∀ b, K c b → K c' b) ∧ (∀ (i b : Nat), ρ'[i]? = some b → K c' b)

/-- What the caller knows of blocks that the call does not hold. -/
structure Aux (R : γ → World → World → Prop) (D : γ → World → World → Array Event → γ → Prop) (J : γ → World → Prop) (X : Nat → Prop) : Prop where
  rely : ∀ c w w₁, R c w w₁ → J c w → J c w₁
  step : ∀ c c' w w' es, D c w w' es c' → (∀ b, X b → w'.heap[b]? = w.heap[b]?) → w.heap.size ≤ w'.heap.size → Kin w w' → J c w → J c' w'

theorem HRel.far_size {ρ ρ' : Array Nat} {w w' : World} (h : Far ρ ρ' w w') : w.heap.size ≤ w'.heap.size := by rw [h.size]; omega

/-- ████ A CALL BY ITS LONE CONTRACT, IN COMPANY. ████ -/
theorem Fin.way (S : Setup P F B np) {Z : Nat} {K : γ → Nat → Prop} (Gr : Grant Z R D K) {J : γ → World → Prop} {X : Nat → Prop} (A : Aux R D J X) {Rf : Value → World → Prop} {d : Frame} {KB : List Frame} {a : Frame} {as : List Frame} {u : World}
    (hF : Fin P F B np Rf a as u) : ∀ (ρ : Array Nat) (b : Frame) (bs : List Frame) (c : γ) (w : World), FRel P F np ρ a b → FsRel P F np ρ as bs → HRel ρ u w → (∀ (i b : Nat), ρ[i]? = some b → K c b) → J c w → Z ≤ w.heap.size → (∀ b, X b → b < w.heap.size ∧ ∀ i : Nat, ρ[i]? ≠ some b) →
      (∀ c' w' ρ' u' v v', Ext ρ ρ' → HRel ρ' u' w' → (∀ (i b : Nat), ρ'[i]? = some b → K c' b) → J c' w' → (∃ τ, Rf v (tp u' τ)) → VRel ρ' v v' → ∃ t, Way P main R D Stop t c' (G (d.finish v') KB) w') →
      ∃ t, Way P main R D Stop t c (G b (bs ++ d :: KB)) w := by
  induction hF with
  | @done a u hs hm h =>
    intro ρ b bs c w hr hrs H hK hJ hZ hX hn
    cases hrs
    refine Way.go rfl fun w₁ h1 => ?_
    have H1 : HRel ρ u w₁ := H.rely (Gr.size _ _ _ h1) fun i b hi => Gr.stand _ _ _ _ h1 (hK i b hi)
    obtain ⟨τ, v, ⟨_, _, _, fn, hf, hres⟩, hRf⟩ := h
    obtain ⟨fn', cd, hf', _, _, hre⟩ := S.body a.fn hs.chain
    obtain rfl : fn = fn' := Option.some.inj (hf.symm.trans hf')
    have hmb : b.mode = .returning := by rw [hr.eq]; exact hm
    have hdb : b.defers = [] := by rw [hr.eq]; exact hr.ok.defers
    have hkb : b.kind = .normal := by rw [hr.eq]; exact hr.ok.kind
    have hfb : P.funcs[b.fn]? = some fn := by rw [hr.eq]; exact hf
    have hsr := srel_results (P := P) (fn := fn) (npf := np a.fn) (c := false) (fun h => by cases h) hr.tmps hr.ok.cl
    have H1' : HRel ρ (tp u τ) w₁ := ⟨H1.size, H1.inj, H1.low, H1.row⟩
    obtain ⟨ρ', v', w', es', e1, e2, e3, e4, e5, e6, e7⟩ := hsr.sound (tp u τ) w₁ #[] v (tp u τ) H1' hres (fun i q hi => absurd hi (by simp))
    have hes : ∀ e ∈ seen P b.fn es', EvOk ρ' e := fun e he => by
      rcases e7 e (mem_seen he) with h | h
      · simp at h
      · exact h
    obtain ⟨c', hD, hKK, hK'⟩ := Gr.step c w₁ w' (seen P b.fn es' ++ #[]) ρ ρ' (Nat.le_trans hZ (Gr.size _ _ _ h1)) H1.low e6 e1 hK (fun e he => hes e (by simpa using he))
    refine ⟨_, w', seen P b.fn es' ++ #[], c', ?_, hD, hn c' w' ρ' (tp u τ) v v' e1 e4 hK' ?_ ⟨τ, hRf⟩ e3.1⟩
    · simp only [G, stepG, hmb, unwind, hdb, hfb, e2, doReturn, hkb, GStep.after, List.nil_append]
    · exact A.step c c' w₁ w' _ hD (fun x hx => e6.old x (Nat.lt_of_lt_of_le (hX x hx).1 (Gr.size _ _ _ h1)) fun i => (hX x hx).2 i) (HRel.far_size e6) ⟨e6.tape, e6.os, e6.output⟩ (A.rely _ _ _ h1 hJ)
  | @step a as u hs hnf nx h1 h2 ih =>
    intro ρ b bs c w hr hrs H hK hJ hZ hX hn
    refine Way.go rfl fun w₁ hw => ?_
    have H1 : HRel ρ u w₁ := H.rely (Gr.size _ _ _ hw) fun i b hi => Gr.stand _ _ _ _ hw (hK i b hi)
    let τ : Nat → Question → Nat := fun i q => w₁.tape (i - u.drawn + w₁.drawn) q
    obtain ⟨es, hgo⟩ := h1 τ
    have H1' : HRel ρ (tp u τ) w₁ := ⟨H1.size, H1.inj, H1.low, H1.row⟩
    have hnp : ∀ ch, (G (nx τ).1 ((nx τ).2.1 ++ [trap P])).frame.mode ≠ .panicking ch := by
      intro ch he
      rcases (h2 τ).self.fr.ok.mode with h | h <;> (simp only [G] at he; rw [h] at he; cases he)
    have hI := step_any (main' := main) (KB := d :: KB) S hr hrs hs.chain H1' hnf hgo hnp (fun i q _ => by
      show w₁.tape (u.drawn + i - u.drawn + w₁.drawn) q = w₁.tape (w₁.drawn + i) q
      rw [show u.drawn + i - u.drawn + w₁.drawn = w₁.drawn + i by omega])
    obtain ⟨ρ', a', b', as', bs', w', es', g1, g2, g3, g4, g5, g6, g7, g8, g9, g10, g11, g12⟩ := hI.out
    simp only [G, Goroutine.mk.injEq] at g1
    obtain ⟨rfl, g1, -⟩ := g1
    obtain rfl := List.append_cancel_right g1
    obtain ⟨c', hD, hKK, hK'⟩ := Gr.step c w₁ w' es' ρ ρ' (Nat.le_trans hZ (Gr.size _ _ _ hw)) H1.low g9 g3 hK g10
    refine ⟨_, w', es', c', g2, hD, ?_⟩
    refine ih τ ρ' b' bs' c' w' g4 g5 g7 hK' ?_ (Nat.le_trans hZ (Nat.le_trans (Gr.size _ _ _ hw) (HRel.far_size g9))) ?_ ?_
    · exact A.step c c' w₁ w' _ hD (fun x hx => g9.old x (Nat.lt_of_lt_of_le (hX x hx).1 (Gr.size _ _ _ hw)) fun i => (hX x hx).2 i) (HRel.far_size g9) ⟨g9.tape, g9.os, g9.output⟩ (A.rely _ _ _ hw hJ)
    · intro x hx
      have hlt := Nat.lt_of_lt_of_le (hX x hx).1 (Gr.size _ _ _ hw)
      refine ⟨Nat.lt_of_lt_of_le hlt (HRel.far_size g9), fun i hi => ?_⟩
      rcases Nat.lt_or_ge i ρ.size with hl | hge
      · have : ρ[i]? = some x := by
          obtain ⟨t, rfl⟩ := g3
          rwa [Array.getElem?_append_left hl] at hi
        exact (hX x hx).2 i this
      · have hlt' := (Array.getElem?_eq_some_iff.1 hi).1
        rw [g9.fresh i hge hlt'] at hi
        simp only [Option.some.injEq] at hi
        omega
    · exact fun c'' w'' ρ'' u'' v v' k1 k2 k3 k4 k5 k6 => hn c'' w'' ρ'' u'' v v' (g3.trans k1) k2 k3 k4 k5 k6
end
end Go.Proofs.Ytmhbjmkdekgmlaa.Sim
