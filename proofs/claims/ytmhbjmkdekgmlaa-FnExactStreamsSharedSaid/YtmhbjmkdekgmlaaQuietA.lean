/-
  Goroutine 0 between two crews, beside goroutines that only leave: its walk to a good end; steps that read, that allot, that store; calls by their lone contracts.
  Condition: blocks that are touched atomically alone stand below the heap's end.
-/
import Derived.Test.YtmhbjmkdekgmlaaWayQ
import Derived.Test.YtmhbjmkdekgmlaaWorkA
set_option linter.unusedSimpArgs false
set_option linter.unusedVariables false
namespace Go.Proofs.Ytmhbjmkdekgmlaa.Sim
open Go Go.Conc Go.ConcN

/-- The blocks that are touched atomically alone; how many goroutines there are beside goroutine 0. -/
abbrev Gh := (Nat → Prop) × Nat
abbrev End := Array Goroutine → World → Option (Nat × Nat) → Trace → Prop
/-- Whatever the others are and whatever has been: from here the end is come to. -/
def Fine (Fin : End) (c : Gh) (g : Goroutine) (w : World) : Prop :=
  g.status = .running ∧ ∀ gs sl t, Pt Try.prog c.1 c.2 gs g w t → Reach Try.prog gs w sl t Fin
def DQ (c : Gh) (w w' : World) (es : Array Event) (c' : Gh) : Prop := c' = c ∧ w.heap.size ≤ w'.heap.size ∧ ∀ e ∈ es, EvQ c.1 w'.heap.size e
theorem termsQ : TermsW (γ := Gh) AtR DQ := ⟨fun _ w => atRel_refl w, fun _ a b d => atRel_trans a b d, fun c w => ⟨rfl, Nat.le_refl _, fun e he => by simp at he⟩⟩

theorem way_fix {P : Program} {main : Bool} {Stop : Gh → Goroutine → World → Prop} {c : Gh} {t : Tr} : ∀ {g : Goroutine} {w : World}, Way P main AtR DQ Stop t c g w →
    Way P main (γ := Gh) AtR (fun _ w w' es _ => w.heap.size ≤ w'.heap.size ∧ ∀ e ∈ es, EvQ c.1 w'.heap.size e) (fun c' g w => c' = c ∧ Stop c g w) t c g w := by
  induction t with
  | stop => exact fun h w₁ h1 => ⟨rfl, h w₁ h1⟩
  | step f ih =>
    refine fun h => ⟨h.1, fun w₁ h1 => ?_⟩
    obtain ⟨g', w', es, c', e1, ⟨rfl, e2⟩, e3⟩ := h.2 w₁ h1
    exact ⟨g', w', es, c', e1, e2, ih w₁ e3⟩
theorem way_unit {P : Program} {main : Bool} {Stop : Gh → Goroutine → World → Prop} {c : Gh} {t : Tr} : ∀ {g : Goroutine} {w : World},
    Way P main (γ := Unit) AtR (fun _ w w' es _ => w.heap.size ≤ w'.heap.size ∧ ∀ e ∈ es, EvQ c.1 w'.heap.size e) (fun _ g w => Stop c g w) t () g w → Way P main AtR DQ Stop t c g w := by
  induction t with
  | stop => exact fun h w₁ h1 => h w₁ h1
  | step f ih =>
    refine fun h => ⟨h.1, fun w₁ h1 => ?_⟩
    obtain ⟨g', w', es, c', e1, e2, e3⟩ := h.2 w₁ h1
    exact ⟨g', w', es, c, e1, ⟨rfl, e2⟩, ih w₁ e3⟩

section
variable (Fin : End)
abbrev Wq := Wm Try.prog true (γ := Gh) AtR DQ (Fine Fin)
abbrev WQ := WpQ Try.prog true (γ := Gh) AtR DQ (Fine Fin)
abbrev OQ := OpsQ Try.prog true (γ := Gh) AtR DQ (Fine Fin)
abbrev CQ := CallQ Try.prog true (γ := Gh) AtR DQ (Fine Fin)
end

section
variable {Fin : End} {c : Gh} {g : Goroutine} {w : World} {fn : FuncId} {Q : Exit → Act → Gh → World → Prop} {a : Act} {ops : Array Oper} {todo : List Nat} {i : Nat} {rest : List Nat} {o : Oper} {Sb Sb' : Nat → Prop} {J : Nat}

theorem Wq.fine (h : Wq Fin c g w) : Fine Fin c g w := by
  obtain ⟨t, h⟩ := h
  refine ⟨Way.running (fun _ w => atRel_refl w) (fun _ _ _ x => x.1) h, fun gs sl t' hpt => ?_⟩
  refine (hpt.beside (fun _ _ _ _ _ x => x) (fun _ _ _ x => x.2.1) (way_fix h)).bind fun gs' w' sl' t' => ?_
  rintro ⟨a', c', hp, hs⟩
  exact (hs w' (atRel_refl _)).2.2 gs' sl' t' hp
theorem Fine.wq (h : ∀ w₁, AtRel w w₁ → Fine Fin c g w₁) : Wq Fin c g w := Way.here h
theorem Wq.shun (h : Wq Fin (Sb', J) g w) (h1 : ∀ b, Sb b → Sb' b) (h2 : ∀ b, Sb' b → Sb b ∨ w.heap.size ≤ b) : Wq Fin (Sb, J) g w := by
  refine Fine.wq fun w₁ hr => ?_
  have hf := Wq.fine (Wm.rely termsQ h hr)
  obtain ⟨d, rfl⟩ := hr
  exact ⟨hf.1, fun gs sl t hpt => hf.2 gs sl t ⟨hpt.size, hpt.main, hpt.lv, hpt.still.shun h1 h2, hpt.deaf0, hpt.norel⟩⟩
theorem oq_shun (h : OQ Fin fn ops todo Q a (Sb', J) w) (h1 : ∀ b, Sb b → Sb' b) (h2 : ∀ b, Sb' b → Sb b ∨ w.heap.size ≤ b) : OQ Fin fn ops todo Q a (Sb, J) w :=
  fun b k cs hb hk hc => Wq.shun (h b k cs hb hk hc) h1 h2

theorem at_heap {w w₁ : World} (h : AtRel w w₁) : w₁.heap = w.heap := by obtain ⟨d, rfl⟩ := h; rfl
/-- An operation that only reads. -/
theorem oq_rd (ho : ops[i]? = some o) (hw : Region.wanted o (yielded ops a.tmps) = true)
    (h : ∀ w₁ : World, w₁.heap = w.heap → ∀ K : Act → World → Prop, (∀ a', (∀ e ∈ listed Try.prog fn a o w₁, EvQ c.1 w.heap.size e) → OQ Fin fn ops rest Q a' c w → K a' w₁) → uponK o a K ((execOp a.eval o).run Try.prog w₁)) : OQ Fin fn ops (i :: rest) Q a c w :=
  opsQ_cons ho hw fun w₁ h₁ => h w₁ (at_heap h₁) _ fun a' he hn => ⟨c, ⟨rfl, Nat.le_refl _, by rw [at_heap h₁]; exact he⟩, opsQ_rely termsQ hn h₁⟩
/-- An operation that allots a block. -/
theorem oq_al (ho : ops[i]? = some o) (hw : Region.wanted o (yielded ops a.tmps) = true)
    (h : ∀ w₁ : World, w₁.heap = w.heap → ∀ K : Act → World → Prop, (∀ a' ob, (∀ e ∈ listed Try.prog fn a o w₁, EvQ c.1 w.heap.size e) → OQ Fin fn ops rest Q a' c (w.alloc ob) → K a' (w₁.alloc ob)) → uponK o a K ((execOp a.eval o).run Try.prog w₁)) : OQ Fin fn ops (i :: rest) Q a c w :=
  opsQ_cons ho hw fun w₁ h₁ => h w₁ (at_heap h₁) _ fun a' ob he hn => ⟨c, ⟨rfl, by rw [World.size_alloc]; omega, fun e x => by
    rcases he e x with ⟨ad, wr, h1, h2, h3⟩ | h1
    · exact .inl ⟨ad, wr, h1, h2, by rw [World.size_alloc, at_heap h₁]; omega⟩
    · exact .inr h1⟩, opsQ_rely termsQ hn (by obtain ⟨d, rfl⟩ := h₁; exact ⟨d, rfl⟩)⟩
/-- An operation that stores into one cell. -/
theorem oq_st (ho : ops[i]? = some o) (hw : Region.wanted o (yielded ops a.tmps) = true)
    (h : ∀ w₁ : World, w₁.heap = w.heap → ∀ K : Act → World → Prop, (∀ a' ad v, (∀ e ∈ listed Try.prog fn a o w₁, EvQ c.1 w.heap.size e) → OQ Fin fn ops rest Q a' c (w.setCell ad v) → K a' (w₁.setCell ad v)) → uponK o a K ((execOp a.eval o).run Try.prog w₁)) : OQ Fin fn ops (i :: rest) Q a c w :=
  opsQ_cons ho hw fun w₁ h₁ => h w₁ (at_heap h₁) _ fun a' ad v he hn => ⟨c, ⟨rfl, by rw [World.size_setCell]; exact Nat.le_refl _, by rw [World.size_setCell, at_heap h₁]; exact he⟩, opsQ_rely termsQ hn (by obtain ⟨d, rfl⟩ := h₁; exact ⟨d, rfl⟩)⟩
/-- An operation that stores into three cells. -/
theorem oq_st3 (ho : ops[i]? = some o) (hw : Region.wanted o (yielded ops a.tmps) = true)
    (h : ∀ w₁ : World, w₁.heap = w.heap → ∀ K : Act → World → Prop, (∀ a' ad v ad' v' ad'' v'', (∀ e ∈ listed Try.prog fn a o w₁, EvQ c.1 w.heap.size e) → OQ Fin fn ops rest Q a' c (((w.setCell ad v).setCell ad' v').setCell ad'' v'') → K a' (((w₁.setCell ad v).setCell ad' v').setCell ad'' v'')) → uponK o a K ((execOp a.eval o).run Try.prog w₁)) : OQ Fin fn ops (i :: rest) Q a c w :=
  opsQ_cons ho hw fun w₁ h₁ => h w₁ (at_heap h₁) _ fun a' ad v ad' v' ad'' v'' he hn => ⟨c, ⟨rfl, by simp only [World.size_setCell]; exact Nat.le_refl _, by simp only [World.size_setCell, at_heap h₁]; exact he⟩, opsQ_rely termsQ hn (by obtain ⟨d, rfl⟩ := h₁; exact ⟨d, rfl⟩)⟩
theorem oq_call {f : FuncId} {xs : Array Operand} {ats : Array TypeId} {Post : Value → Gh → World → Prop} {args : Array Value} (ho : ops[i]? = some o) (hw : Region.wanted o (yielded ops a.tmps) = true)
    (hop : o.op = .call { callee := .value (.func f), args := xs, argTypes := ats }) (hx : xs.map a.eval = args) (h : CQ Fin f args c w Post) (hn : ∀ v c' w', Post v c' w' → OQ Fin fn ops rest Q (a.put o.dst v) c' w') : OQ Fin fn ops (i :: rest) Q a c w := by
  subst hx
  exact opsQ_call ho hw hop h hn

theorem cell_same {w w₁ : World} (h : w₁.heap = w.heap) (a : Addr) : w₁.cell? a = w.cell? a ∧ w₁.frozen? a = w.frozen? a := by simp only [World.cell?, World.frozen?, h, and_self]
theorem evq_cell {Sb : Nat → Prop} {sz : Nat} {ad : Addr} {wr : Bool} (h1 : ¬ Sb ad.block) (h2 : ad.block < sz) : EvQ Sb sz ⟨.cell ad, wr, false⟩ := .inl ⟨ad, wr, rfl, h1, h2⟩

/-! ### calls -/
/-- What a call leaves alone: all but the blocks X. -/
structure KeepQ (X : Nat → Prop) (w w' : World) : Prop where
  kin : Kin w w'
  size : w.heap.size ≤ w'.heap.size
  keep : ∀ b, b < w.heap.size → ¬ X b → w'.heap[b]? = w.heap[b]?
theorem KeepQ.refl (X : Nat → Prop) (w : World) : KeepQ X w w := ⟨Kin.refl w, Nat.le_refl _, fun _ _ _ => rfl⟩
theorem KeepQ.trans {X Y : Nat → Prop} {w w' w'' : World} (h : KeepQ X w w') (k : KeepQ Y w' w'') : KeepQ (fun b => X b ∨ Y b) w w'' :=
  ⟨h.kin.trans k.kin, Nat.le_trans h.size k.size, fun b hb hx => (k.keep b (Nat.lt_of_lt_of_le hb h.size) fun y => hx (.inr y)).trans (h.keep b hb fun y => hx (.inl y))⟩
theorem KeepQ.mono {X Y : Nat → Prop} {w w' : World} (h : KeepQ X w w') (hxy : ∀ b, b < w.heap.size → X b → Y b) : KeepQ Y w w' := ⟨h.kin, h.size, fun b hb hy => h.keep b hb fun x => hy (hxy b hb x)⟩
theorem KeepQ.some {X : Nat → Prop} {w w' : World} (h : KeepQ X w w') {b : Nat} {ob : Obj} (hb : w.heap[b]? = some ob) (hx : ¬ X b) : w'.heap[b]? = some ob :=
  (h.keep b (Array.getElem?_eq_some_iff.1 hb).1 hx).trans hb

theorem callQ_unit {f : FuncId} {args : Array Value} {Post : Value → World → Prop} (h : CallW Try.prog true (γ := Unit) AtR (fun _ w w' es _ => w.heap.size ≤ w'.heap.size ∧ ∀ e ∈ es, EvQ c.1 w'.heap.size e) f args () w fun v _ w' => Post v w') :
    CQ Fin f args c w fun v c' w' => c' = c ∧ Post v w' := by
  intro b a k cs ops i rest o xs ats h1 h2 h3 h4 h5 hn
  have T : TermsW (γ := Unit) AtR (fun _ w w' es _ => w.heap.size ≤ w'.heap.size ∧ ∀ e ∈ es, EvQ c.1 w'.heap.size e) := ⟨fun _ w => atRel_refl w, fun _ a b d => atRel_trans a b d, fun c w => ⟨Nat.le_refl _, fun e he => by simp at he⟩⟩
  obtain ⟨t, ht⟩ := h b a k cs ops i rest o xs ats (fun _ g w => Wq Fin c g w) h1 h2 h3 h4 h5 fun v c' w' hp => Way.here fun w₁ hr => Wm.rely termsQ (hn v c w' ⟨rfl, hp⟩) hr
  obtain ⟨t', ht'⟩ : ∃ t', Way Try.prog true AtR DQ (Wq Fin) t' c _ w := ⟨t, way_unit ht⟩
  exact Way.bind (fun _ w => atRel_refl w) (fun _ a b d => atRel_trans a b d) ht' fun c g w x => x

/-- ████ A CALL BY ITS LONE CONTRACT, BETWEEN CREWS. ████ -/
theorem cq_lone {f : FuncId} (hB : BT f = true) {argsL argsC : Array Value} {u : World} {ρ : Array Nat} {Rf : Value → World → Prop} (hcl : ∀ (t : Nat) v, npT f t = true → argsL[t]? = some v → Closed v)
    (ha : CRel (idT u.heap.size) argsL argsL) (Hu : HRel (idT u.heap.size) u u) (hc : ∀ τ, Calls Try.prog f argsL (tp u τ) fun | .returned v, w' => Rf v w' | _, _ => False) (hargs : CRel ρ argsL argsC)
    (H : HRel ρ u w) (hρ : ∀ (i b : Nat), ρ[i]? = some b → ¬ c.1 b) (hSb : ∀ b, c.1 b → b < w.heap.size) :
    CQ Fin f argsC c w fun v' c' w' => c' = c ∧ KeepQ (fun b => ∃ i : Nat, ρ[i]? = some b) w w' ∧ ∃ ρ' u' v, Ext ρ ρ' ∧ HRel ρ' u' w' ∧ (∀ (i b : Nat), ρ'[i]? = some b → ¬ c.1 b ∧ ((∃ i : Nat, ρ[i]? = some b) ∨ w.heap.size ≤ b)) ∧ (∃ τ, Rf v (tp u' τ)) ∧ VRel ρ' v v' := by
  obtain ⟨fn', cd, hf, _, hname, _, _, _⟩ := bodyCheck_of hB
  refine CallQ.mono (callQ_unit (Post := fun v' w' => KeepQ (fun b => ∃ i : Nat, ρ[i]? = some b) w w' ∧ ∃ ρ' u' v, Ext ρ ρ' ∧ HRel ρ' u' w' ∧ (∀ (i b : Nat), ρ'[i]? = some b → ¬ c.1 b ∧ ((∃ i : Nat, ρ[i]? = some b) ∨ w.heap.size ≤ b)) ∧ (∃ τ, Rf v (tp u' τ)) ∧ VRel ρ' v v')
    (CallW.mono (callW_lone (γ := Unit) (main := true) (R := AtR) (D := fun _ w w' es _ => w.heap.size ≤ w'.heap.size ∧ ∀ e ∈ es, EvQ c.1 w'.heap.size e) setup (Z := w.heap.size) (K := fun _ b => ¬ c.1 b ∧ ((∃ i : Nat, ρ[i]? = some b) ∨ w.heap.size ≤ b))
      ⟨fun _ w w₁ h => by rw [at_heap h]; exact Nat.le_refl _, fun _ w w₁ b h _ => by rw [at_heap h], fun _ w1 w' es ρ1 ρ' hZ hlow hF hE hK hes => ?_⟩ (fun _ _ => ⟨Nat.le_refl _, fun e he => by simp at he⟩) (J := fun _ w' => KeepQ (fun b => ∃ i : Nat, ρ[i]? = some b) w w') (X := fun b => b < w.heap.size ∧ ¬ ∃ i : Nat, ρ[i]? = some b)
      ⟨fun _ w1 w2 h k => ?_, fun _ _ w1 w2 es _ hX hsz hk k => ?_⟩ hf hname hB hcl ha Hu hc hargs H (fun i b hi => ⟨hρ i b hi, .inl ⟨i, hi⟩⟩) (KeepQ.refl _ _) (Nat.le_refl _) (fun b hb => ⟨hb.1, fun i hi => hb.2 ⟨i, hi⟩⟩)) ?_)) ?_
  · have hsz := HRel.far_size hF
    have hnew : ∀ (i b : Nat), ρ'[i]? = some b → (¬ c.1 b ∧ ((∃ i : Nat, ρ[i]? = some b) ∨ w.heap.size ≤ b)) ∧ b < w'.heap.size := by
      intro i b hi
      rcases Nat.lt_or_ge i ρ1.size with hl | hge
      · have : ρ1[i]? = some b := by
          obtain ⟨t, rfl⟩ := hE
          rwa [Array.getElem?_append_left hl] at hi
        exact ⟨hK i b this, Nat.lt_of_lt_of_le (hlow i b this) hsz⟩
      · have hlt' := (Array.getElem?_eq_some_iff.1 hi).1
        rw [hF.fresh i hge hlt'] at hi
        have hs := hF.size
        simp only [Option.some.injEq] at hi
        exact ⟨⟨fun x => by have := hSb b x; omega, .inr (by omega)⟩, by omega⟩
    refine ⟨(), ⟨hsz, fun e he => ?_⟩, fun b x => x, fun i b hi => (hnew i b hi).1⟩
    rcases hes e he with ⟨b, wr, i, rfl, hi⟩ | ⟨m, rfl, hm⟩
    · exact evq_cell (hnew i _ hi).1.1 (hnew i _ hi).2
    · exact .inr ⟨m, rfl, hm⟩
  · obtain ⟨d, rfl⟩ := h
    exact ⟨k.kin, k.size, k.keep⟩
  · exact ⟨k.kin.trans hk, Nat.le_trans k.size hsz, fun b hb hx => (hX b ⟨hb, hx⟩).trans (k.keep b hb hx)⟩
  · rintro v' _ w' ⟨ρ', u', v, k1, k2, k3, k4, k5, k6⟩
    exact ⟨k4, ρ', u', v, k1, k2, k3, k5, k6⟩
  · rintro v' c' w' h
    exact h

/-- .. of closed arguments. -/
theorem cq_closed {f : FuncId} (hB : BT f = true) {args : Array Value} (ha : AllClosed args) {Rf : Value → World → Prop} (hc : ∀ u : World, u.heap = #[] → Calls Try.prog f args u fun | .returned v, w' => Rf v w' | _, _ => False) (hSb : ∀ b, c.1 b → b < w.heap.size) :
    CQ Fin f args c w fun v' c' w' => c' = c ∧ KeepQ (fun _ => False) w w' ∧ ∃ ρ' u' v, HRel ρ' u' w' ∧ (∀ (i b : Nat), ρ'[i]? = some b → ¬ c.1 b ∧ w.heap.size ≤ b) ∧ (∃ τ, Rf v (tp u' τ)) ∧ VRel ρ' v v' := by
  have hu : ({ w with heap := #[] } : World).heap.size = 0 := rfl
  have H0 : HRel (idT ({ w with heap := #[] } : World).heap.size) { w with heap := #[] } { w with heap := #[] } := by
    rw [hu, idT_zero]
    exact ⟨rfl, fun i j b h => by simp at h, fun i b h => by simp at h, fun i b h => by simp at h⟩
  have H1 : HRel #[] { w with heap := #[] } w := ⟨rfl, fun i j b h => by simp at h, fun i b h => by simp at h, fun i b h => by simp at h⟩
  refine CallQ.mono (cq_lone hB (u := { w with heap := #[] }) (ρ := #[]) (fun t v _ hv => ha.get hv) (CRel.of_closed ha) H0 (fun τ => hc _ rfl) (CRel.of_closed ha) H1 (fun i b h => by simp at h) hSb) ?_
  rintro v c' w' ⟨rfl, hk, ρ', u', v', _, k2, k3, k4, k5⟩
  exact ⟨rfl, hk.mono fun b _ ⟨i, hi⟩ => by simp at hi, ρ', u', v', k2, fun i b hi => ⟨(k3 i b hi).1, (k3 i b hi).2.resolve_left fun ⟨i, hi⟩ => by simp at hi⟩, k4, k5⟩
/-- .. with an answer that is closed. -/
theorem cq_plain {f : FuncId} (hB : BT f = true) {args : Array Value} (ha : AllClosed args) {v : Value} (hv : Closed v) (hc : ∀ u : World, u.heap = #[] → Calls Try.prog f args u fun e _ => e = .returned v) (hSb : ∀ b, c.1 b → b < w.heap.size) :
    CQ Fin f args c w fun v' c' w' => v' = v ∧ c' = c ∧ KeepQ (fun _ => False) w w' := by
  refine CallQ.mono (cq_closed hB ha (Rf := fun v' _ => v' = v) (fun u hu => (hc u hu).mono fun e w' h => by subst h; rfl) hSb) ?_
  rintro v' c' w' ⟨rfl, hk, ρ', u', v1, _, _, ⟨_, rfl⟩, hV⟩
  exact ⟨hV.eq_of_closed hv, rfl, hk⟩
end
end Go.Proofs.Ytmhbjmkdekgmlaa.Sim
