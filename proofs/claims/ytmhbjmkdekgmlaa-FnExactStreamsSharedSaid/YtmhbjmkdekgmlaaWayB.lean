/-
  What a worker holds, suffers and does; a call by its lone contract in a worker, or in goroutine 0.
  Conditions: 'Setup'; of a call: its lone contract on every tape.
-/
import Derived.Test.YtmhbjmkdekgmlaaWayA
import Derived.Conc.Own4
import Derived.Conc.CrowdSpec
set_option linter.unusedSimpArgs false
set_option linter.unusedVariables false
namespace Go.Proofs.Ytmhbjmkdekgmlaa.Sim
open Go Go.Conc
open Go.ConcR (WgAt)

/-! ### the entry of a function -/
section
variable {P : Program} {F B : FuncId → Bool} {np : FuncId → Nat → Bool}
theorem fin_of_calls (S : Setup P F B np) {f : FuncId} {fn : Func} (hf : P.funcs[f]? = some fn) {args : Array Value} {u : World} {Rf : Value → World → Prop} (hB : B f = true) (ha : CRel (idT u.heap.size) args args) (hcl : ∀ (t : Nat) v, np f t = true → args[t]? = some v → Closed v) (H : HRel (idT u.heap.size) u u)
    (hc : ∀ τ, Calls P f args (tp u τ) fun | .returned v, w' => Rf v w' | _, _ => False) : Fin P F B np Rf (Frame.enter P f args .normal) [] u := by
  obtain ⟨fn', c, hf', hb, hco, hre⟩ := S.body f hB
  obtain rfl : fn = fn' := Option.some.inj (hf.symm.trans hf')
  have hen : Frame.enter P f args .normal = { fn := f, tmps := args ++ Array.replicate (fn.ntmps - args.size) undef, todo := [.code c], defers := [], mode := .run, kind := .normal } := by
    simp [Frame.enter, hf, hb]
  have hrep : CRel (idT u.heap.size) (Array.replicate (fn.ntmps - args.size) undef) (Array.replicate (fn.ntmps - args.size) undef) := CRel.of_closed fun i hi => by rw [Array.getElem_replicate]; exact .undef
  have hself : Self P F B np (Frame.enter P f args .normal) [] u := by
    refine ⟨?_, .nil, ?_, H⟩
    · rw [hen]
      refine ⟨⟨fun t v ht hv => ?_, fun it hit => by simp only [List.mem_singleton] at hit; subst hit; exact hco, rfl, .inl rfl, rfl, rfl⟩, rfl, ha.append hrep⟩
      simp only at ht hv
      rcases Nat.lt_or_ge t args.size with hlt | hge
      · rw [Array.getElem?_append_left hlt] at hv
        exact hcl t v ht hv
      · rw [Array.getElem?_append_right hge, Array.getElem?_replicate] at hv
        split at hv
        · cases hv; exact .undef
        · cases hv
    · rw [hen]; exact hB
  refine fin_of_well S hself fun τ => ?_
  obtain ⟨e, w', fr, hR, hcm, _, hl⟩ := hc τ [trap P]
  cases e with
  | panicked ch => exact hR.elim
  | outgrown => exact hR.elim
  | returned v =>
    obtain ⟨n, hn⟩ := hcm
    exact ⟨n, fr, w', hn, hl.1, w'.tape, v, hl, hR⟩

section
variable {γ : Type} {main : Bool} {R : γ → World → World → Prop} {D : γ → World → World → Array Event → γ → Prop} {Stop : γ → Goroutine → World → Prop}
/-- ████ THROUGH A CALL, BY THE CALLEE's LONE CONTRACT. ████ -/
theorem way_call (S : Setup P F B np) {Z : Nat} {K : γ → Nat → Prop} (Gr : Grant Z R D K) (idle : ∀ c w, D c w w #[] c) {J : γ → World → Prop} {X : Nat → Prop} (A : Aux R D J X) {Rf : Value → World → Prop} {b : Frame} {a : Act} {k : List Item} {cs : List Frame}
    {ops : Array Oper} {i : Nat} {rest : List Nat} {o : Oper} {f : FuncId} {fn : Func} {args : Array Operand} {ats : Array TypeId}
    (ho : ops[i]? = some o) (hw : Region.wanted o (yielded ops a.tmps) = true) (hk : b.kind ≠ .early) (hop : o.op = .call { callee := .value (.func f), args, argTypes := ats })
    (hf : P.funcs[f]? = some fn) (hname : (fn.name == "runtime.NumGoroutine") = false) (hB : B f = true)
    {argsL : Array Value} {u : World} {ρ : Array Nat} (hcl : ∀ (t : Nat) v, np f t = true → argsL[t]? = some v → Closed v) (ha : CRel (idT u.heap.size) argsL argsL) (Hu : HRel (idT u.heap.size) u u)
    (hc : ∀ τ, Calls P f argsL (tp u τ) fun | .returned v, w' => Rf v w' | _, _ => False) (hargs : CRel ρ argsL (args.map a.eval))
    {c : γ} {w : World} (H : HRel ρ u w) (hK : ∀ (i b : Nat), ρ[i]? = some b → K c b) (hJ : J c w) (hZ : Z ≤ w.heap.size) (hX : ∀ b, X b → b < w.heap.size ∧ ∀ i : Nat, ρ[i]? ≠ some b)
    (hn : ∀ c' w' ρ' u' v v', Ext ρ ρ' → HRel ρ' u' w' → (∀ (i b : Nat), ρ'[i]? = some b → K c' b) → J c' w' → (∃ τ, Rf v (tp u' τ)) → VRel ρ' v v' → ∃ t, Way P main R D Stop t c' (G (b.at (a.put o.dst v') (.inRegion ops rest :: k)) cs) w') :
    ∃ t, Way P main R D Stop t c (G (b.at a (.inRegion ops (i :: rest) :: k)) cs) w := by
  have hfin := fin_of_calls S hf hB ha hcl Hu hc
  obtain ⟨fn', cd, hf', hb, hco, hre⟩ := S.body f hB
  obtain rfl : fn = fn' := Option.some.inj (hf.symm.trans hf')
  refine Way.go rfl fun w₁ h1 => ?_
  have H1 : HRel ρ u w₁ := H.rely (Gr.size _ _ _ h1) fun i b hi => Gr.stand _ _ _ _ h1 (hK i b hi)
  have hstep := goes_call (P := P) (main := main) (b := b) (a := a) (k := k) (cs := cs) (w := w₁) (K := fun g' w' es => g' = G ((base f).at { tmps := args.map a.eval ++ Array.replicate (fn.ntmps - (args.map a.eval).size) undef, defers := [] } [.code cd]) (b.at a (.inRegion ops (i :: rest) :: k) :: cs) ∧ w' = w₁ ∧ es = #[]) ho hw hk hop hf hname hb ⟨rfl, rfl, rfl⟩
  obtain ⟨g', w', es, hgo, hK', rfl, rfl⟩ : ∃ g' w' es, stepG P main (G (b.at a (.inRegion ops (i :: rest) :: k)) cs) w₁ = .go g' w' es ∧ g' = G ((base f).at { tmps := args.map a.eval ++ Array.replicate (fn.ntmps - (args.map a.eval).size) undef, defers := [] } [.code cd]) (b.at a (.inRegion ops (i :: rest) :: k) :: cs) ∧ w' = w₁ ∧ es = #[] := by
    revert hstep
    cases stepG P main (G (b.at a (.inRegion ops (i :: rest) :: k)) cs) w₁ <;> simp only [GStep.goes]
    · exact fun h => ⟨_, _, _, rfl, h⟩
    all_goals exact fun h => h.elim
  refine ⟨g', w', #[], c, hgo, idle c w', ?_⟩
  rw [hK']
  have hen : Frame.enter P f argsL .normal = { fn := f, tmps := argsL ++ Array.replicate (fn.ntmps - argsL.size) undef, todo := [.code cd], defers := [], mode := .run, kind := .normal } := by
    simp [Frame.enter, hf, hb]
  have hrep : CRel ρ (Array.replicate (fn.ntmps - argsL.size) undef) (Array.replicate (fn.ntmps - (args.map a.eval).size) undef) := by
    rw [← hargs.1]
    exact CRel.of_closed fun i hi => by rw [Array.getElem_replicate]; exact .undef
  have hfr : FRel P F np ρ (Frame.enter P f argsL .normal) ((base f).at { tmps := args.map a.eval ++ Array.replicate (fn.ntmps - (args.map a.eval).size) undef, defers := [] } [.code cd]) := by
    refine ⟨hfin.self.fr.ok, ?_, ?_⟩
    · rw [hen]; rfl
    · rw [hen]; exact hargs.append hrep
  have hfinish : ∀ v, (b.at a (.inRegion ops (i :: rest) :: k)).finish v = b.at (a.put o.dst v) (.inRegion ops rest :: k) := fun v => by rw [Frame.finish_at, ho]; rfl
  have := Fin.way (main := main) (Stop := Stop) S Gr A (d := b.at a (.inRegion ops (i :: rest) :: k)) (KB := cs) hfin ρ _ [] c w' hfr .nil H1 hK (A.rely _ _ _ h1 hJ) (Nat.le_trans hZ (Gr.size _ _ _ h1)) (fun x hx => ⟨Nat.lt_of_lt_of_le (hX x hx).1 (Gr.size _ _ _ h1), (hX x hx).2⟩)
    (fun c' w' ρ' u' v v' k1 k2 k3 k4 k5 k6 => by rw [hfinish]; exact hn c' w' ρ' u' v v' k1 k2 k3 k4 k5 k6)
  exact this
end
end

/-! ### a worker -/
/-- The shared places of a crew: the group's block, the block of results (n cells of type e), what each may read. -/
structure Crew where
  ty : TypeId
  Wg : Nat
  C : Nat
  n : Nat
  e : TypeId
def OutAt (p : Crew) (w : World) : Prop := ∃ cs, w.heap[p.C]? = some (.cells cs p.e) ∧ cs.size = p.n
/-- What one of them may read, and which results are its own. -/
structure Part where
  Ro : Nat → Prop
  Cell : Nat → Prop

structure Rel (p : Crew) (q : Part) (M : Nat → Prop) (w w₁ : World) : Prop where
  size : w.heap.size ≤ w₁.heap.size
  own : ∀ b, M b ∨ q.Ro b → w₁.heap[b]? = w.heap[b]?
  live : Go.ConcN.WgLive p.ty p.Wg w → Go.ConcN.WgLive p.ty p.Wg w₁
  out : OutAt p w → OutAt p w₁
  cell : ∀ i, q.Cell i → w₁.cell? ⟨p.C, i, none⟩ = w.cell? ⟨p.C, i, none⟩

/-- What one may list. -/
def EvG (p : Crew) (q : Part) (M : Nat → Prop) (e : Event) : Prop :=
  (∃ a wr, e = ⟨.cell a, wr, false⟩ ∧ (M a.block ∨ (a.block = p.C ∧ q.Cell a.off) ∨ (wr = false ∧ q.Ro a.block))) ∨ (∃ m, e = ⟨.mark m, false, true⟩ ∧ idleMark m = true)

structure Gua (p : Crew) (q : Part) (M : Nat → Prop) (w w' : World) (es : Array Event) (M' : Nat → Prop) : Prop where
  own : M' = fun b => M b ∨ (w.heap.size ≤ b ∧ b < w'.heap.size)
  size : w.heap.size ≤ w'.heap.size
  old : ∀ b, b < w.heap.size → ¬ M b → b ≠ p.C → w'.heap[b]? = w.heap[b]?
  out : OutAt p w → OutAt p w'
  cells : ∀ i, ¬ q.Cell i → w'.cell? ⟨p.C, i, none⟩ = w.cell? ⟨p.C, i, none⟩
  tape : w'.tape = w.tape
  os : w'.os = w.os
  output : w'.output = w.output
  ev : ∀ e ∈ es, EvG p q M' e

section
variable {p : Crew} {q : Part} {M : Nat → Prop} {w w₁ w₂ : World}
theorem Rel.refl : Rel p q M w w := ⟨Nat.le_refl _, fun _ _ => rfl, id, id, fun _ _ => rfl⟩
theorem Rel.trans (h : Rel p q M w w₁) (k : Rel p q M w₁ w₂) : Rel p q M w w₂ := ⟨Nat.le_trans h.size k.size, fun b x => (k.own b x).trans (h.own b x), k.live ∘ h.live, k.out ∘ h.out, fun i x => (k.cell i x).trans (h.cell i x)⟩
theorem Gua.idle : Gua p q M w w #[] M := ⟨funext fun b => propext ⟨.inl, fun h => h.elim id fun h => by omega⟩, Nat.le_refl _, fun _ _ _ _ => rfl, id, fun _ _ => rfl, rfl, rfl, rfl, fun e he => by simp at he⟩

/-- The blocks of a call are the worker's own; none is the block of results. -/
theorem grant_worker (p : Crew) (q : Part) : Grant (p.C + 1) (Rel p q) (Gua p q) (fun M b => M b ∧ b ≠ p.C) := by
  refine ⟨fun M w w₁ h => h.size, fun M w w₁ b h hb => h.own b (.inl hb.1), fun M w w' es ρ ρ' hZ _ hF hE hK hes => ?_⟩
  have hsz := HRel.far_size hF
  have hCρ : ∀ i : Nat, ρ[i]? ≠ some p.C := fun i hi => (hK i _ hi).2 rfl
  have hC : w'.heap[p.C]? = w.heap[p.C]? := hF.old p.C (by omega) hCρ
  have hnew : ∀ (i b : Nat), ρ'[i]? = some b → (M b ∨ (w.heap.size ≤ b ∧ b < w'.heap.size)) ∧ b ≠ p.C := by
    intro i b hi
    rcases Nat.lt_or_ge i ρ.size with hl | hge
    · have : ρ[i]? = some b := by
        obtain ⟨t, rfl⟩ := hE
        rwa [Array.getElem?_append_left hl] at hi
      exact ⟨.inl (hK i b this).1, (hK i b this).2⟩
    · have hlt' := (Array.getElem?_eq_some_iff.1 hi).1
      rw [hF.fresh i hge hlt'] at hi
      have hs := hF.size
      simp only [Option.some.injEq] at hi
      exact ⟨.inr (by omega), by omega⟩
  refine ⟨fun b => M b ∨ (w.heap.size ≤ b ∧ b < w'.heap.size), ⟨rfl, hsz, fun b hb hM hbC => hF.old b hb fun i hi => hM (hK i b hi).1, ?_, ?_, hF.tape, hF.os, hF.output, ?_⟩, fun b hb => ⟨.inl hb.1, hb.2⟩, hnew⟩
  · rintro ⟨cs, h1, h2⟩
    exact ⟨cs, hC.trans h1, h2⟩
  · intro i _
    simp only [World.cell?, hC]
  · intro e he
    rcases hes e he with ⟨b, wr, i, rfl, hi⟩ | ⟨m, rfl, hm⟩
    · exact .inl ⟨b, wr, rfl, .inl (hnew i _ hi).1⟩
    · exact .inr ⟨m, rfl, hm⟩
end
end Go.Proofs.Ytmhbjmkdekgmlaa.Sim
