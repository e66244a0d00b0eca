/-
  A call by its lone contract as a contract in company; what a worker keeps over such a call.
  Conditions: 'Setup'; the lone contract on every tape, from a heap that holds nothing.
-/
import Derived.Test.YtmhbjmkdekgmlaaWayC
import Derived.Test.YtmhbjmkdekgmlaaCroE
import Derived.Test.YtmhbjmkdekgmlaaSetA
set_option linter.unusedSimpArgs false
set_option linter.unusedVariables false
namespace Go.Proofs.Ytmhbjmkdekgmlaa.Sim
open Go Go.Conc Go.ConcN

section
variable {P : Program} {F B : FuncId → Bool} {np : FuncId → Nat → Bool} {γ : Type} {main : Bool} {R : γ → World → World → Prop} {D : γ → World → World → Array Event → γ → Prop}
theorem callW_lone (S : Setup P F B np) {Z : Nat} {K : γ → Nat → Prop} (Gr : Grant Z R D K) (idle : ∀ c w, D c w w #[] c) {J : γ → World → Prop} {X : Nat → Prop} (A : Aux R D J X) {Rf : Value → World → Prop} {f : FuncId} {fn : Func}
    (hf : P.funcs[f]? = some fn) (hname : (fn.name == "runtime.NumGoroutine") = false) (hB : B f = true) {argsL argsC : Array Value} {u : World} {ρ : Array Nat} (hcl : ∀ (t : Nat) v, np f t = true → argsL[t]? = some v → Closed v)
    (ha : CRel (idT u.heap.size) argsL argsL) (Hu : HRel (idT u.heap.size) u u) (hc : ∀ τ, Calls P f argsL (tp u τ) fun | .returned v, w' => Rf v w' | _, _ => False) (hargs : CRel ρ argsL argsC)
    {c : γ} {w : World} (H : HRel ρ u w) (hK : ∀ (i b : Nat), ρ[i]? = some b → K c b) (hJ : J c w) (hZ : Z ≤ w.heap.size) (hX : ∀ b, X b → b < w.heap.size ∧ ∀ i : Nat, ρ[i]? ≠ some b) :
    CallW P main R D f argsC c w fun v' c' w' => ∃ ρ' u' v, Ext ρ ρ' ∧ HRel ρ' u' w' ∧ (∀ (i b : Nat), ρ'[i]? = some b → K c' b) ∧ J c' w' ∧ (∃ τ, Rf v (tp u' τ)) ∧ VRel ρ' v v' :=
  fun b a k cs ops i rest o xs ats Stop ho hw hk hop hx hn => way_call S Gr idle A ho hw hk hop hf hname hB hcl ha Hu hc (hx ▸ hargs) H hK hJ hZ hX fun c' w' ρ' u' v v' k1 k2 k3 k4 k5 k6 => hn v' c' w' ⟨ρ', u', v, k1, k2, k3, k4, k5, k6⟩
end

/-! ### a worker -/
/-- What a worker keeps over a call: what stands in the blocks Y (its own, or such as all read), in its own results, in the group's block. -/
structure Own (p : Crew) (q : Part) (Y : Nat → Prop) (w₁ : World) (M₀ M : Nat → Prop) (w : World) : Prop where
  more : ∀ b, M₀ b → M b
  keep : ∀ b, Y b → w.heap[b]? = w₁.heap[b]?
  mine : ∀ b, Y b → q.Ro b ∨ M b
  cell : ∀ i, q.Cell i → w.cell? ⟨p.C, i, none⟩ = w₁.cell? ⟨p.C, i, none⟩
  out : OutAt p w
  live : WgLive p.ty p.Wg w
  nm : ¬ M p.Wg
  lt : p.Wg < w.heap.size

theorem Own.rely {p : Crew} {q : Part} {Y : Nat → Prop} {w₁ w w' : World} {M₀ M : Nat → Prop} (h : Own p q Y w₁ M₀ M w) (r : Rel p q M w w') : Own p q Y w₁ M₀ M w' :=
  ⟨h.more, fun b hb => (r.own b (h.mine b hb).symm).trans (h.keep b hb), h.mine, fun i hi => (r.cell i hi).trans (h.cell i hi), r.out h.out, r.live h.live, h.nm, Nat.lt_of_lt_of_le h.lt r.size⟩

theorem aux_own (p : Crew) (q : Part) (Y : Nat → Prop) (w₁ : World) (M₀ : Nat → Prop) : Aux (Rel p q) (Gua p q) (Own p q Y w₁ M₀) (fun b => Y b ∨ b = p.C ∨ b = p.Wg) := by
  refine ⟨fun M w w' r h => h.rely r, fun M M' w w' es hD hX hsz _ h => ?_⟩
  refine ⟨fun b hb => by rw [hD.own]; exact .inl (h.more b hb), fun b hb => (hX b (.inl hb)).trans (h.keep b hb), fun b hb => (h.mine b hb).imp id fun x => by rw [hD.own]; exact .inl x, fun i hi => ?_, hD.out h.out, WgLive.of_block (hX _ (.inr (.inr rfl))) h.live, fun x => ?_, Nat.lt_of_lt_of_le h.lt hsz⟩
  · rw [← h.cell i hi]
    simp only [World.cell?, hX _ (.inr (.inl rfl))]
  · rw [hD.own] at x
    rcases x with x | ⟨x, _⟩
    · exact h.nm x
    · have := h.lt; omega

/-- The blocks of a call that begins where the heap is B₁ long. -/
theorem grant_from (p : Crew) (q : Part) {B₁ : Nat} (hC : p.C < B₁) : Grant B₁ (Rel p q) (Gua p q) (fun M b => M b ∧ B₁ ≤ b) := by
  refine ⟨fun M w w₁ h => h.size, fun M w w₁ b h hb => h.own b (.inl hb.1), fun M w w' es ρ ρ' hZ _ hF hE hK hes => ?_⟩
  have hsz := HRel.far_size hF
  have hCρ : ∀ i : Nat, ρ[i]? ≠ some p.C := fun i hi => by have := (hK i _ hi).2; omega
  have hC' : w'.heap[p.C]? = w.heap[p.C]? := hF.old p.C (by omega) hCρ
  have hnew : ∀ (i b : Nat), ρ'[i]? = some b → (M b ∨ (w.heap.size ≤ b ∧ b < w'.heap.size)) ∧ B₁ ≤ b := by
    intro i b hi
    rcases Nat.lt_or_ge i ρ.size with hl | hge
    · have : ρ[i]? = some b := by
        obtain ⟨t, rfl⟩ := hE
        rwa [Array.getElem?_append_left hl] at hi
      exact ⟨.inl (hK i b this).1, (hK i b this).2⟩
    · have hlt' := (Array.getElem?_eq_some_iff.1 hi).1
      rw [hF.fresh i hge hlt'] at hi
      have hs := hF.size
      simp only [Option.some.injEq] at hi
      exact ⟨.inr (by omega), by omega⟩
  refine ⟨fun b => M b ∨ (w.heap.size ≤ b ∧ b < w'.heap.size), ⟨rfl, hsz, fun b hb hM hbC => hF.old b hb fun i hi => hM (hK i b hi).1, ?_, ?_, hF.tape, hF.os, hF.output, ?_⟩, fun b hb => ⟨.inl hb.1, hb.2⟩, hnew⟩
  · rintro ⟨cs, h1, h2⟩
    exact ⟨cs, hC'.trans h1, h2⟩
  · intro i _
    simp only [World.cell?, hC']
  · intro e he
    rcases hes e he with ⟨b, wr, i, rfl, hi⟩ | ⟨m, rfl, hm⟩
    · exact .inl ⟨b, wr, rfl, .inl (hnew i _ hi).1⟩
    · exact .inr ⟨m, rfl, hm⟩

theorem idT_zero : idT 0 = #[] := by simp [idT]

/-- ████ A WORKER's CALL OF CLOSED ARGUMENTS. ████ -/
theorem callW_worker (p : Crew) (q : Part) {f : FuncId} (hB : BT f = true) {args : Array Value} (ha : AllClosed args) {Rf : Value → World → Prop} (hc : ∀ u : World, u.heap = #[] → Calls Try.prog f args u fun | .returned v, w' => Rf v w' | _, _ => False)
    {Y : Nat → Prop} {M₀ M : Nat → Prop} {w₁ w : World} (hO : Own p q Y w₁ M₀ M w) (hC : p.C < w.heap.size) (hY : ∀ b, Y b → b < w.heap.size) :
    CallW Try.prog false (Rel p q) (Gua p q) f args M w fun v' M' w' => ∃ ρ' u' v, HRel ρ' u' w' ∧ (∀ (i b : Nat), ρ'[i]? = some b → M' b ∧ w.heap.size ≤ b) ∧ Own p q Y w₁ M₀ M' w' ∧ (∃ τ, Rf v (tp u' τ)) ∧ VRel ρ' v v' := by
  obtain ⟨fn, c, hf, _, hname, _, _, _⟩ := bodyCheck_of hB
  have hu : ({ w with heap := #[] } : World).heap.size = 0 := rfl
  have H0 : HRel (idT ({ w with heap := #[] } : World).heap.size) { w with heap := #[] } { w with heap := #[] } := by
    rw [hu, idT_zero]
    exact ⟨rfl, fun i j b h => by simp at h, fun i b h => by simp at h, fun i b h => by simp at h⟩
  have H1 : HRel #[] { w with heap := #[] } w := ⟨rfl, fun i j b h => by simp at h, fun i b h => by simp at h, fun i b h => by simp at h⟩
  refine (callW_lone (main := false) setup (grant_from p q hC) (fun _ _ => Gua.idle) (aux_own p q Y w₁ M₀) (u := { w with heap := #[] }) (ρ := #[]) hf hname hB (fun t v _ hv => ha.get hv) (CRel.of_closed ha) H0 (fun τ => hc _ rfl) (CRel.of_closed ha) H1 (fun i b h => by simp at h) hO (Nat.le_refl _) (fun b hb => ⟨?_, fun i => by simp⟩)).mono ?_
  · rcases hb with hb | rfl | rfl
    · exact hY b hb
    · exact hC
    · exact hO.lt
  · rintro v c w' ⟨ρ', u', v', _, k2, k3, k4, k5, k6⟩
    exact ⟨ρ', u', v', k2, k3, k4, k5, k6⟩

theorem Gua.reads {p : Crew} {q : Part} {M : Nat → Prop} {w : World} {es : Array Event} (h : ∀ e ∈ es, EvG p q M e) : Gua p q M w w es M :=
  ⟨funext fun b => propext ⟨.inl, fun h => h.elim id fun h => by omega⟩, Nat.le_refl _, fun _ _ _ _ => rfl, id, fun _ _ => rfl, rfl, rfl, rfl, h⟩
theorem evG_ro {p : Crew} {q : Part} {M : Nat → Prop} {a : Addr} (h : q.Ro a.block) : EvG p q M ⟨.cell a, false, false⟩ := .inl ⟨a, false, rfl, .inr (.inr ⟨rfl, h⟩)⟩
theorem evG_own {p : Crew} {q : Part} {M : Nat → Prop} {a : Addr} {wr : Bool} (h : M a.block) : EvG p q M ⟨.cell a, wr, false⟩ := .inl ⟨a, wr, rfl, .inl h⟩
theorem termsW (p : Crew) (q : Part) : TermsW (Rel p q) (Gua p q) := ⟨fun _ _ => Rel.refl, fun _ _ _ _ h k => h.trans k, fun _ _ => Gua.idle⟩

section
variable {γ : Type} {P : Program} {main : Bool} {R : γ → World → World → Prop} {D : γ → World → World → Array Event → γ → Prop} {fn : FuncId} {Q : Exit → Act → γ → World → Prop} {a : Act} {c : γ} {w : World}
/-- An operation that enters a function (a closure's, say). -/
theorem opsW_enter (T : TermsW R D) {ops : Array Oper} {i : Nat} {rest : List Nat} {o : Oper} {f : FuncId} {fn' : Func} {x : Code} {args : Array Value} {Post : Value → γ → World → Prop} (ho : ops[i]? = some o) (hw : Region.wanted o (yielded ops a.tmps) = true)
    (hr : ∀ w, (execOp a.eval o).run P w = .ok (.enter f args) w ∧ (execOp a.eval o).events P w #[] = #[]) (hf : P.funcs[f]? = some fn') (hb : fn'.body = some x)
    (h : WpW P main R D f x (BodyW P fn' Post) { tmps := args ++ Array.replicate (fn'.ntmps - args.size) undef, defers := [] } c w) (hn : ∀ v c' w', Post v c' w' → OpsW P main R D fn ops rest Q (a.put o.dst v) c' w') : OpsW P main R D fn ops (i :: rest) Q a c w := by
  intro b k cs Stop hbf hk hc
  have hfin : ∀ v, (b.at a (.inRegion ops (i :: rest) :: k)).finish v = b.at (a.put o.dst v) (.inRegion ops rest :: k) := fun v => by rw [Frame.finish_at, ho]; rfl
  have hleave : ∀ (a' : Act) (c' : γ) (w' : World) (todo : List Item), (a'.defers = [] ∧ ∃ v, ResultsC P fn' a'.tmps v ∧ Post v c' w') →
      Wm P main R D Stop c' (G { (base f).at a' todo with mode := .returning } (b.at a (.inRegion ops (i :: rest) :: k) :: cs)) w' := by
    rintro a' c' w' todo ⟨hd, v, hr, hp⟩
    refine Way.go rfl fun w₁ h₁ => ⟨_, w₁, #[], c', stepG_leave (b := base f) rfl hd hf (hr w₁).1 (hr w₁).2, T.idle _ _, ?_⟩
    rw [hfin]
    exact (hn v c' w' hp b k cs Stop hbf hk hc).rely T h₁
  refine Way.go rfl fun w₁ h₁ => ⟨_, w₁, _, c, stepG_enter ho hw hk (hr w₁).1, ?_, ?_⟩
  · have : listed P b.fn a o w₁ = #[] := by unfold listed; rw [(hr w₁).2]; exact seen_none P _
    rw [this]; exact T.idle _ _
  · rw [enter_at _ hf hb]
    refine (h (base f) [] _ Stop rfl (by simp [base]) fun e a' c' w' q => ?_).rely T h₁
    cases e with
    | normal => exact Wm.ctl T rfl (fun _ => stepG_end) (hleave a' c' w' [] q)
    | ret => exact fun todo => hleave a' c' w' todo q
    | exit id => exact q.elim
    | goto l => exact q.elim
    | panic ch => exact q.elim
    | outgrown => exact q.elim
end
end Go.Proofs.Ytmhbjmkdekgmlaa.Sim
