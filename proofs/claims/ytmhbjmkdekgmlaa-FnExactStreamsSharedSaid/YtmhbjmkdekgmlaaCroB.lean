/-
  A crew whose workers make memory, and its starter: where each stands; what holds at every moment; how a step of one is suffered by the others.
  Conditions: the plan's blocks lie apart; what a worker leaves behind stands under its rely.
-/
import Derived.Test.YtmhbjmkdekgmlaaGrpD
import Derived.Test.YtmhbjmkdekgmlaaCroA
set_option linter.unusedSimpArgs false
set_option linter.unusedVariables false
namespace Go.Proofs.Ytmhbjmkdekgmlaa.Sim
open Go Go.Conc Go.ConcN
open Go.ConcR (KK wgBlock WgAt stA smA rd wr mk Payload Aside2 DC0 Bk g_of_ofEvents)

/-! ### the starter's rely and guarantee -/
structure RelM (ty : TypeId) (Wg : Nat) (c : Nat → Prop) (w w₁ : World) : Prop where
  size : w.heap.size ≤ w₁.heap.size
  own : ∀ b, c b → w₁.heap[b]? = w.heap[b]?
  live : WgLive ty Wg w → WgLive ty Wg w₁
structure GuaM (Wg : Nat) (c : Nat → Prop) (w w' : World) (es : Array Event) (c' : Nat → Prop) : Prop where
  own : c' = fun b => c b ∨ (w.heap.size ≤ b ∧ b < w'.heap.size)
  size : w.heap.size ≤ w'.heap.size
  old : ∀ b, b < w.heap.size → ¬ c b → w'.heap[b]? = w.heap[b]?
  same : Kin w w'
  ev : ∀ e ∈ es, EvC Wg c' e

theorem RelM.refl {ty : TypeId} {Wg : Nat} (c : Nat → Prop) (w : World) : RelM ty Wg c w w := ⟨Nat.le_refl _, fun _ _ => rfl, id⟩
theorem RelM.trans {ty : TypeId} {Wg : Nat} {c : Nat → Prop} {w w₁ w₂ : World} (h : RelM ty Wg c w w₁) (k : RelM ty Wg c w₁ w₂) : RelM ty Wg c w w₂ := ⟨Nat.le_trans h.size k.size, fun b x => (k.own b x).trans (h.own b x), k.live ∘ h.live⟩
theorem RelM.at {ty : TypeId} {Wg : Nat} (c : Nat → Prop) (w : World) (d : Nat) : RelM ty Wg c w (w.at d) := ⟨Nat.le_refl _, fun _ _ => rfl, id⟩
theorem Rel.at {p : Crew} {q : Part} {M : Nat → Prop} (w : World) (d : Nat) : Rel p q M w (w.at d) := ⟨Nat.le_refl _, fun _ _ => rfl, id, id, fun _ _ => rfl⟩

section
variable {γ : Type} {P : Program} {main : Bool} {R : γ → World → World → Prop} {D : γ → World → World → Array Event → γ → Prop} {Stop : γ → Goroutine → World → Prop}
theorem Way.cases (refl : ∀ c w, R c w w) {t : Tr} {c : γ} {g : Goroutine} {w : World} (h : Way P main R D Stop t c g w) :
    (t = .stop ∧ ∀ w₁, R c w w₁ → Stop c g w₁) ∨ (g.status = .running ∧ ∃ t' g' w' es c', Tr.Sub t' t ∧ stepG P main g w = .go g' w' es ∧ D c w w' es c' ∧ Way P main R D Stop t' c' g' w') := by
  cases t with
  | stop => exact .inl ⟨rfl, h⟩
  | step f =>
    obtain ⟨g', w', es, c', h1, h2, h3⟩ := h.2 w (refl c w)
    exact .inr ⟨h.1, f w, g', w', es, c', ⟨f, w, rfl, rfl⟩, h1, h2, h3⟩
theorem Way.running (refl : ∀ c w, R c w w) (hS : ∀ c g w, Stop c g w → g.status = .running) {t : Tr} {c : γ} {g : Goroutine} {w : World} (h : Way P main R D Stop t c g w) : g.status = .running := by
  rcases h.cases refl with ⟨_, h⟩ | ⟨h, _⟩
  · exact hS _ _ _ (h w (refl c w))
  · exact h
end

section
variable [Payload]

/-! ### the stages -/
section
variable (P : Program) (f : Plan) (w₀ : World) (Post : Nat → (Nat → Prop) → World → Prop)
/-- Worker k has done its work and says its release; behind it the library's own walk, as if its own block 'bk' were what it hands over. -/
def AtR7 (k : Nat) (M : Nat → Prop) (g : Goroutine) (w : World) : Prop := Post k M w ∧ ∃ bk v, M bk ∧ AtR0 P f.p.ty f.p.Wg bk 1 0 1 v g w
def Work (k : Nat) (t : Tr) (M : Nat → Prop) (g : Goroutine) (w : World) : Prop := Way P false (Rel f.p (f.part k)) (Gua f.p (f.part k)) (AtR7 P f Post k) t M g w
def StS (bk : Nat) : Nat → Goroutine → World → Prop
  | 6 => AtK1 P f.p.ty f.p.Wg bk 1 0 1
  | 5 => AtD1 P f.p.ty f.p.Wg bk 1 0 1
  | 4 => AtD2 P f.p.ty f.p.Wg bk 1 0 1
  | 3 => AtD3 P f.p.ty f.p.Wg bk 1 0 1
  | _ => AtD4 P f.p.ty f.p.Wg
abbrev Rest (bk s m : Nat) (g : Goroutine) (w : World) : Prop := Goes P false (RW f.p.ty f.p.Wg bk 1 0 0) DC0 (StS P f bk s) m g w
/-- Where goroutine i stands (i > 0): stage, tree, fuel, deafness. -/
inductive WS (i : Nat) (M : Nat → Prop) : Nat → Tr → Nat → Nat → Goroutine → World → Prop
  | work {t : Tr} {g : Goroutine} {w : World} : f.q0 < i → Work P f Post i t M g w → WS i M 7 t 0 0 g w
  | rest {s m bk dd : Nat} {t : Tr} {g : Goroutine} {w : World} : f.q0 < i → 2 ≤ s → s ≤ 6 → dd = (if s = 6 then 0 else 1) → M bk → Post i M w → Rest P f bk s m g w → WS i M s t m dd g w
  | quit {q d : Nat} {t : Tr} {g : Goroutine} {w : World} : (f.q0 < i → Post i M w) → QuitsD P q d g → WS i M 1 t q d g w

def Base (w : World) : Prop := ∀ b, b < f.B0 → b ≠ f.p.Wg → b ≠ f.p.C → w.heap[b]? = w₀.heap[b]?

variable (Anch Next : (Nat → Prop) → Goroutine → World → Prop)
abbrev RM := RelM f.p.ty f.p.Wg
abbrev DM := GuaM f.p.Wg
def AtGo (j : Nat) (Nx : (Nat → Prop) → Goroutine → World → Prop) (c : Nat → Prop) (g : Goroutine) (w : World) : Prop :=
  g.status = .running ∧ ∃ g' child, stepG P true g w = .spawn g' child w #[] ∧ child.status = .running ∧ (Base f w₀ w → OutAt f.p w → ∃ t, Work P f Post (f.q0 + (j + 1)) t c child w) ∧ Nx (fun _ => False) g' w
def FinW := Wy (RM f) (DM f) P (AtKdW (RM f) (DM f) P Anch)
def SpawnsM : Nat → (Nat → Prop) → Goroutine → World → Prop
  | 0 => FinW P f Anch
  | r + 1 => Wy (RM f) (DM f) P (AtKdA (RM f) (DM f) P f.p.ty f.p.Wg (AtGo P f w₀ Post (f.N - (r + 1)) (SpawnsM r)))
def StopC : CTag → (Nat → Prop) → Goroutine → World → Prop
  | .sp r s => if s = 5 then AtKdA (RM f) (DM f) P f.p.ty f.p.Wg (AtGo P f w₀ Post (f.N - (r + 1)) (SpawnsM P f w₀ Post Anch r))
      else if s = 4 then AtAdd (RM f) (DM f) P f.p.ty f.p.Wg (AtGo P f w₀ Post (f.N - (r + 1)) (SpawnsM P f w₀ Post Anch r))
      else if s = 3 then AtKeA (RM f) (DM f) P (AtGo P f w₀ Post (f.N - (r + 1)) (SpawnsM P f w₀ Post Anch r))
      else AtGo P f w₀ Post (f.N - (r + 1)) (SpawnsM P f w₀ Post Anch r)
  | .kd => AtKdW (RM f) (DM f) P Anch
  | .anch => Anch
  | .w1 => AtW1 (RM f) (DM f) P f.p.ty f.p.Wg Anch Next
  | .w2 vs => AtW2 (RM f) (DM f) P f.p.ty f.p.Wg Anch Next vs
  | .w3 => AtW3 (RM f) (DM f) P f.p.ty f.p.Wg Next
  | .blk => fun _ _ _ => False
  | .w4 => AtW4 (RM f) (DM f) P f.p.ty f.p.Wg Next
  | .ke => AtKeW (RM f) (DM f) P f.p.Wg Next
  | .acq => AtAcq (RM f) (DM f) P f.p.Wg Next
  | .ret => Next
def sideC (tag : CTag) (j d0 : Nat) : Prop :=
  match tag with
  | .sp r s => r < f.N ∧ j = f.N - (r + 1) ∧ ((s = 5 ∧ d0 = 0) ∨ (s = 4 ∧ d0 = 1) ∨ (s = 3 ∧ d0 = 1) ∨ (s = 2 ∧ d0 = 0))
  | .kd | .acq | .ret => j = f.N ∧ d0 = 0
  | _ => j = f.N ∧ d0 = 1
/-- Where the starter stands: tag, tree, fuel. -/
inductive CS : CTag → Tr → Nat → (Nat → Prop) → Goroutine → World → Prop
  | way {tag : CTag} {t : Tr} {f0 : Nat} {c : Nat → Prop} {a : Goroutine} {w : World} : tag ≠ .blk → Way P true (RM f) (DM f) (StopC P f w₀ Post Anch Next tag) t c a w → (tag = .w3 → 1 ≤ f0) → CS tag t f0 c a w
  | blk {c : Nat → Prop} {a : Goroutine} {w : World} : (∀ w₁, RM f c w w₁ → AtW3 (RM f) (DM f) P f.p.ty f.p.Wg Next c a w₁) → CS .blk .stop 0 c { a with status := .blocked } w
end

omit [Payload] in
theorem norel_all {fn : FuncId} {pos : String} {es : Array Event} {g : Nat} (h : ∀ e ∈ es, ∀ ad, e.loc ≠ .mark (.release ad)) (ad : Addr) : ∀ op ∈ MemOp.ofEvents g fn pos es, op.act ≠ .mark (.release ad) := by
  intro op hop e
  obtain ⟨x, hx, rfl⟩ := mem_ofE hop
  exact h x hx ad (Go.ConcR.loc_of_ofEvent e)
omit [Payload] in
theorem norel_Bk {Wg : Nat} {es : Array Event} (h : ∀ e ∈ es, Bk Wg e) : ∀ e ∈ es, ∀ ad, e.loc ≠ .mark (.release ad) := by
  intro e he ad hl
  rcases h e he with h1 | h1 | ⟨a, wr, rfl, _⟩
  · rw [h1] at hl; cases hl
  · rw [h1] at hl; cases hl
  · cases hl

/-- What holds whoever stands where, while j workers are started. -/
structure Com (P : Program) (f : Plan) (w₀ : World) (Post : Nat → (Nat → Prop) → World → Prop) (j : Nat) (gs : Array Goroutine) (w : World) (t : Trace) (D : Nat → WD) (T : Nat → Tr) (M : Nat → Nat → Prop) (d0 : Nat) : Prop where
  size : gs.size = f.q0 + j + 1
  wk : ∀ i, i < f.q0 + j → ∃ g, gs[i + 1]? = some g ∧ WS P f Post (i + 1) (M (i + 1)) (D i).stage (T (i + 1)) (D i).fuel (D i).deaf g w
  ti : TI f M t j w.heap.size
  owns : Owns f M w.heap.size
  idle : ∀ i b, i ≠ 0 → (i ≤ f.q0 ∨ f.q0 + j < i) → ¬ M i b
  norel : ∀ ad, NoRelease ad t
  deaf0 : Deaf t 0 = d0
  deafW : ∀ i, i < f.q0 + j → Deaf t (i + 1) = (D i).deaf
  rel : ∀ i, f.q0 ≤ i → i < f.q0 + j → (D i).stage ≤ 6 → ∃ r, RelBy (stA f.p.Wg) t (i + 1) r
  base : Base f w₀ w
  out : OutAt f.p w
  b0 : f.B0 ≤ w.heap.size
  same : Kin w₀ w

section
variable {P : Program} {f : Plan} {w₀ : World} {Post : Nat → (Nat → Prop) → World → Prop} {Anch Next : (Nat → Prop) → Goroutine → World → Prop}
  {i j s m d d0 f0 : Nat} {tr : Tr} {M M' c : Nat → Prop} {g g' a : Goroutine} {w w' w₁ : World} {tag : CTag} {es : Array Event}

theorem RW.of_rel {p : Crew} {q : Part} {bk : Nat} (h : Rel p q M w w₁) (hb : M bk) : RW p.ty p.Wg bk 1 0 0 w w₁ :=
  ⟨fun b hb => absurd hb (Nat.not_lt_zero _), h.live, fun ⟨cs, h1, h2⟩ => ⟨cs, (h.own bk (.inl hb)).trans h1, h2⟩, cell_of_block (h.own bk (.inl hb)) 0⟩

/-- What a worker leaves behind stands under its rely. -/
def PostOk (f : Plan) (Post : Nat → (Nat → Prop) → World → Prop) : Prop := ∀ k M w w₁, Rel f.p (f.part k) M w w₁ → Post k M w → Post k M w₁

theorem WS.rely (hP : PostOk f Post) (h : WS P f Post i M s tr m d g w) (hr : f.q0 < i → Rel f.p (f.part i) M w w₁) : WS P f Post i M s tr m d g w₁ := by
  cases h with
  | work hi h => exact .work hi (Way.rely (fun _ _ _ _ h1 h2 => h1.trans h2) h (hr hi))
  | rest hi h2 h6 hd hb hp h => exact .rest hi h2 h6 hd hb (hP _ _ _ _ (hr hi) hp) (Goes.rely (fun _ _ _ h1 h2 => h1.trans h2) h (RW.of_rel (hr hi) hb))
  | quit hp h => exact .quit (fun hi => hP _ _ _ _ (hr hi) (hp hi)) h

theorem StS.running {bk : Nat} (h2 : 2 ≤ s) (h6 : s ≤ 6) (h : StS P f bk s g w) : g.status = .running := by
  obtain rfl | rfl | rfl | rfl | rfl : s = 2 ∨ s = 3 ∨ s = 4 ∨ s = 5 ∨ s = 6 := by omega
  all_goals exact h.1

theorem WS.status (h : WS P f Post i M s tr m d g w) : g.status = .running ∨ (g.status = .finished ∧ s = 1) := by
  cases h with
  | work hi h => exact .inl (Way.running (fun _ _ => Rel.refl) (fun _ _ _ x => x.2.choose_spec.choose_spec.2.1) h)
  | rest hi h2 h6 hd hb hp h => exact .inl (Goes.running (fun _ _ x => StS.running h2 h6 x) w (RW.refl w) h)
  | quit hp h => exact h.status.imp id fun x => ⟨x, rfl⟩

theorem WS.woken (h : WS P f Post i M s tr m d g w) (x x' : Goroutine) (w' : World) : woken P x x' w' g = g := by
  unfold Go.Conc.woken
  split
  · exact again_running _ (h.status.imp id (·.1))
  · rfl

theorem StopC.running (hAr : ∀ c g w, Anch c g w → g.status = .running) (hNr : ∀ c g w, Next c g w → g.status = .running) (h : StopC P f w₀ Post Anch Next tag c g w) : g.status = .running := by
  cases tag <;> simp only [StopC] at h
  case sp r s =>
    split at h
    · exact h.1
    · split at h
      · exact h.1
      · split at h
        · exact h.1
        · exact h.1
  case anch => exact hAr _ _ _ h
  case ret => exact hNr _ _ _ h
  all_goals exact h.1

theorem CS.rely (h : CS P f w₀ Post Anch Next tag tr f0 c a w) (hr : RM f c w w₁) : CS P f w₀ Post Anch Next tag tr f0 c a w₁ := by
  cases h with
  | way hb h hf => exact .way hb (Way.rely (fun _ _ _ _ h1 h2 => h1.trans h2) h hr) hf
  | blk h => exact .blk fun w₂ h₂ => h w₂ (hr.trans h₂)

theorem CS.status (hAr : ∀ c g w, Anch c g w → g.status = .running) (hNr : ∀ c g w, Next c g w → g.status = .running) (h : CS P f w₀ Post Anch Next tag tr f0 c a w) : (a.status = .running ∧ tag ≠ .blk) ∨ (a.status = .blocked ∧ tag = .blk) := by
  cases h with
  | way hb h hf => exact .inl ⟨Way.running RelM.refl (fun _ _ _ x => StopC.running hAr hNr x) h, hb⟩
  | blk h => exact .inr ⟨rfl, rfl⟩

/-- Under another's step: as it stood; or, blocked, it is let try again. -/
theorem CS.wokenBy (hAr : ∀ c g w, Anch c g w → g.status = .running) (hNr : ∀ c g w, Next c g w → g.status = .running) (h : CS P f w₀ Post Anch Next tag tr f0 c a w) (hr : RM f c w w') (g g' : Goroutine) :
    ∃ tag' f', CS P f w₀ Post Anch Next tag' tr f' c (woken P g g' w' a) w' ∧ f' ≤ f0 + 1 ∧ (tag' = tag ∨ (tag = .blk ∧ tag' = .w3)) ∧ (mayWake P g = true → g'.status = .running → tag' ≠ .blk) := by
  have h' := h.rely hr
  unfold Go.Conc.woken
  split
  · rcases h'.status hAr hNr with ⟨hs, hne⟩ | ⟨_, rfl⟩
    · exact ⟨tag, f0, by rw [again_running _ (.inl hs)]; exact h', by omega, .inl rfl, fun _ _ => hne⟩
    · cases h' with
      | way hb _ _ => exact absurd rfl hb
      | blk hb =>
        have h3 := hb w' (RelM.refl _ w')
        refine ⟨.w3, 0 + 1, ?_, by omega, .inr ⟨rfl, rfl⟩, fun _ _ => by simp⟩
        rw [Go.ConcR.again_blocked h3.1 h3.2.1]
        exact .way (by simp) hb (by simp)
  · rename_i hc
    exact ⟨tag, f0, h', by omega, .inl rfl, fun h1 h2 => absurd (by simp [h1, h2]) hc⟩

/-! ### one's step, as the others suffer it -/
omit [Payload] in
theorem WgLive.of_block {ty : TypeId} {Wg : Nat} (e : w'.heap[Wg]? = w.heap[Wg]?) : WgLive ty Wg w → WgLive ty Wg w' := fun ⟨st, sm, h⟩ => ⟨st, sm, h.of_block e⟩

variable {MM : Nat → Nat → Prop}
omit [Payload] in
/-- A worker's working step, as another worker suffers it. -/
theorem Rel.of_gua (o : f.Ok) (hO : Owns f MM w.heap.size) (hb : f.B0 ≤ w.heap.size) {k k' : Nat} (hk : k ≠ k') (h : Gua f.p (f.part k) (MM k) w w' es M') : Rel f.p (f.part k') (MM k') w w' := by
  have hW : f.p.Wg < f.B0 := o.sb _ o.wg
  have hc := o.c
  refine ⟨h.size, fun b hb' => ?_, WgLive.of_block (h.old _ (by omega) (fun x => by have := hO.high _ _ x; omega) (fun e => o.csb (e ▸ o.wg))), h.out, fun i hi => h.cells i fun hi' => hk (o.cell _ _ _ hi' hi)⟩
  rcases hb' with hb' | ⟨h1, h2, h3⟩
  · exact h.old b (hO.low _ _ hb') (fun x => hk (hO.one _ _ _ x hb')) (fun e => by have := hO.high _ _ hb'; omega)
  · exact h.old b (by omega) (fun x => by have := hO.high _ _ x; omega) h3
omit [Payload] in
/-- .. as the starter suffers it. -/
theorem RelM.of_gua (o : f.Ok) (hO : Owns f MM w.heap.size) (hb : f.B0 ≤ w.heap.size) {k : Nat} (hk : k ≠ 0) (h : Gua f.p (f.part k) (MM k) w w' es M') : RM f (MM 0) w w' := by
  have hW : f.p.Wg < f.B0 := o.sb _ o.wg
  have hc := o.c
  exact ⟨h.size, fun b hb' => h.old b (hO.low _ _ hb') (fun x => hk (hO.one _ _ _ x hb')) (fun e => by have := hO.high _ _ hb'; omega),
    WgLive.of_block (h.old _ (by omega) (fun x => by have := hO.high _ _ x; omega) (fun e => o.csb (e ▸ o.wg)))⟩
omit [Payload] in
theorem Base.of_gua (hO : Owns f MM w.heap.size) (hb : f.B0 ≤ w.heap.size) {k : Nat} (h : Gua f.p (f.part k) (MM k) w w' es M') (hB : Base f w₀ w) : Base f w₀ w' := fun b h1 h2 h3 =>
  (h.old b (by omega) (fun x => by have := hO.high _ _ x; omega) h3).trans (hB b h1 h2 h3)
omit [Payload] in
/-- A turn of the group's block. -/
theorem Rel.of_wg (o : f.Ok) (hO : Owns f MM w.heap.size) {k : Nat} (h : Aside f.p.Wg w w') (hl : WgLive f.p.ty f.p.Wg w') : Rel f.p (f.part k) (MM k) w w' := by
  have hW : f.p.Wg < f.B0 := o.sb _ o.wg
  have hC : w'.heap[f.p.C]? = w.heap[f.p.C]? := h.block _ fun e => o.csb (e ▸ o.wg)
  refine ⟨Nat.le_of_eq h.size.symm, fun b hb' => h.block b fun e => ?_, fun _ => hl, fun ⟨cs, h1, h2⟩ => ⟨cs, hC.trans h1, h2⟩, fun i _ => by simp only [World.cell?, hC]⟩
  subst e
  rcases hb' with hb' | ⟨h1, h2, h3⟩
  · have := hO.high _ _ hb'; omega
  · exact h2 o.wg
omit [Payload] in
theorem RelM.of_wg (o : f.Ok) (hO : Owns f MM w.heap.size) (h : Aside f.p.Wg w w') (hl : WgLive f.p.ty f.p.Wg w') : RM f (MM 0) w w' := by
  have hW : f.p.Wg < f.B0 := o.sb _ o.wg
  exact ⟨Nat.le_of_eq h.size.symm, fun b hb' => h.block b fun e => by subst e; have := hO.high _ _ hb'; omega, fun _ => hl⟩
omit [Payload] in
theorem Base.of_wg (h : Aside f.p.Wg w w') (hB : Base f w₀ w) : Base f w₀ w' := fun b h1 h2 h3 => (h.block b h2).trans (hB b h1 h2 h3)
omit [Payload] in
theorem OutAt.of_wg (o : f.Ok) (h : Aside f.p.Wg w w') : OutAt f.p w → OutAt f.p w' := fun ⟨cs, h1, h2⟩ => ⟨cs, (h.block f.p.C fun e => o.csb (by rw [e]; exact o.wg)).trans h1, h2⟩
omit [Payload] in
/-- A step of the starter's between its stops. -/
theorem Rel.of_main (o : f.Ok) (hO : Owns f MM w.heap.size) (hb : f.B0 ≤ w.heap.size) {k : Nat} (hk : k ≠ 0) (h : DM f (MM 0) w w' es M') : Rel f.p (f.part k) (MM k) w w' := by
  have hW : f.p.Wg < f.B0 := o.sb _ o.wg
  have hc := o.c
  have low : ∀ b, b < f.B0 → w'.heap[b]? = w.heap[b]? := fun b h1 => h.old b (by omega) (fun x => by have := hO.high _ _ x; omega)
  refine ⟨h.size, fun b hb' => ?_, WgLive.of_block (low _ hW), fun ⟨cs, h1, h2⟩ => ⟨cs, (low _ hc).trans h1, h2⟩, fun i _ => by simp only [World.cell?, low _ hc]⟩
  rcases hb' with hb' | ⟨h1, _, _⟩
  · exact h.old b (hO.low _ _ hb') (fun x => hk (hO.one _ _ _ hb' x))
  · exact low b h1
omit [Payload] in
theorem Base.of_main (hO : Owns f MM w.heap.size) (hb : f.B0 ≤ w.heap.size) (h : DM f (MM 0) w w' es M') (hB : Base f w₀ w) : Base f w₀ w' := fun b h1 h2 h3 =>
  (h.old b (by omega) (fun x => by have := hO.high _ _ x; omega)).trans (hB b h1 h2 h3)
omit [Payload] in
theorem OutAt.of_main (o : f.Ok) (hO : Owns f MM w.heap.size) (hb : f.B0 ≤ w.heap.size) (h : DM f (MM 0) w w' es M') : OutAt f.p w → OutAt f.p w' := fun ⟨cs, h1, h2⟩ =>
  ⟨cs, (h.old _ (by have := o.c; omega) (fun x => by have := hO.high _ _ x; have := o.c; omega)).trans h1, h2⟩

omit [Payload] in
/-- Fresh blocks go to whoever made them. -/
theorem Owns.grow {sz sz' : Nat} (h : Owns f MM sz) (hb : f.B0 ≤ sz) (hs : sz ≤ sz') (k : Nat) : Owns f (upd MM k fun b => MM k b ∨ (sz ≤ b ∧ b < sz')) sz' := by
  have cas : ∀ x b, upd MM k (fun b => MM k b ∨ (sz ≤ b ∧ b < sz')) x b → MM x b ∨ (x = k ∧ sz ≤ b ∧ b < sz') := by
    intro x b hx
    by_cases e : x = k
    · subst e; rw [upd_same] at hx; exact hx.imp id fun y => ⟨rfl, y⟩
    · rw [upd_ne _ _ e] at hx; exact .inl hx
  refine ⟨fun x y b hx hy => ?_, fun x b hx => ?_, fun x b hx => ?_⟩
  · rcases cas _ _ hx with h1 | ⟨h1, h1', _⟩ <;> rcases cas _ _ hy with h2 | ⟨h2, h2', _⟩
    · exact h.one _ _ _ h1 h2
    · have := h.low _ _ h1; omega
    · have := h.low _ _ h2; omega
    · omega
  · rcases cas _ _ hx with h1 | ⟨_, h1, _⟩
    · exact h.high _ _ h1
    · omega
  · rcases cas _ _ hx with h1 | ⟨_, _, h1⟩
    · have := h.low _ _ h1; omega
    · exact h1
end
end
end Go.Proofs.Ytmhbjmkdekgmlaa.Sim
