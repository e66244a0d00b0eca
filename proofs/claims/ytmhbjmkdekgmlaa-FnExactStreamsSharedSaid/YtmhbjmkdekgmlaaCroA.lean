/-
  The trace of a crew whose workers make memory of their own: who owns which block, and how that is kept as the trace grows.
  Condition: the plan's blocks lie apart ('Plan.Ok').
-/
import Derived.Test.YtmhbjmkdekgmlaaWayB
import Derived.Conc.CrowdRun
import Derived.Conc.Beside
set_option linter.unusedSimpArgs false
set_option linter.unusedVariables false
namespace Go.Proofs.Ytmhbjmkdekgmlaa.Sim
open Go Go.Conc Go.ConcN
open Go.ConcR (WgAt stA smA rd wr mk KK Bk g_of_ofEvents ofEvent_mk ofEvent_cell ofEvent_loc_mark)

/-- The places of a crew: the group's block and the block of results ('p'), how many workers, how many goroutines of elder groups, the bound below which nobody writes, the blocks that are touched atomically alone, each worker's results. -/
structure Plan where
  p : Crew
  N : Nat
  q0 : Nat
  B0 : Nat
  Sb : Nat → Prop
  Cell : Nat → Nat → Prop
def Plan.Ro (f : Plan) (b : Nat) : Prop := b < f.B0 ∧ ¬ f.Sb b ∧ b ≠ f.p.C
def Plan.part (f : Plan) (k : Nat) : Part := ⟨f.Ro, f.Cell k⟩
structure Plan.Ok (f : Plan) : Prop where
  sb : ∀ b, f.Sb b → b < f.B0
  wg : f.Sb f.p.Wg
  c : f.p.C < f.B0
  csb : ¬ f.Sb f.p.C
  cell : ∀ k k' i, f.Cell k i → f.Cell k' i → k = k'
  few : f.N < 2147483648
/-- Whose block is whose, by the goroutine's number: 0 is the starter. -/
structure Owns (f : Plan) (M : Nat → Nat → Prop) (sz : Nat) : Prop where
  one : ∀ k k' b, M k b → M k' b → k = k'
  high : ∀ k b, M k b → f.B0 ≤ b
  low : ∀ k b, M k b → b < sz

def Shb (Sb : Nat → Prop) (l : Loc) : Prop := ∃ a, l = .cell a ∧ Sb a.block
def OwnL (f : Plan) (M : Nat → Nat → Prop) (i : Nat) (l : Loc) : Prop := f.q0 < i ∧ ∃ a, l = .cell a ∧ (M i a.block ∨ (a.block = f.p.C ∧ f.Cell i a.off))
def RdL (f : Plan) (i : Nat) (l : Loc) : Prop := f.q0 < i ∧ ∃ a, l = .cell a ∧ f.Ro a.block

section
variable {f : Plan} {M M' : Nat → Nat → Prop} {t u : Trace} {j sz sz' : Nat}

theorem apart (o : f.Ok) (hM : Owns f M sz) : Apart (Shb f.Sb) (OwnL f M) (RdL f) := by
  refine ⟨?_, ?_, ?_, ?_⟩
  · rintro i i' l ⟨hk, a, rfl, h⟩ ⟨hk', a', e, h'⟩
    cases e
    rcases h with h | ⟨hc, h⟩ <;> rcases h' with h' | ⟨hc', h'⟩
    · exact hM.one _ _ _ h h'
    · have := hM.high _ _ h; have := o.c; omega
    · have := hM.high _ _ h'; have := o.c; omega
    · exact o.cell _ _ _ h h'
  · rintro i i' l ⟨hk, a, rfl, h⟩ ⟨_, a', e, h1, _, h3⟩
    cases e
    rcases h with h | ⟨hc, h⟩
    · have := hM.high _ _ h; omega
    · exact h3 hc
  · rintro i l ⟨hk, a, rfl, h⟩ ⟨a', e, hs⟩
    cases e
    rcases h with h | ⟨hc, h⟩
    · have := hM.high _ _ h; have := o.sb _ hs; omega
    · exact o.csb (hc ▸ hs)
  · rintro i l ⟨_, a, rfl, h1, h2, _⟩ ⟨a', e, hs⟩
    cases e
    exact h2 hs

theorem low_touch {sz : Nat} {x : MemAct} {y : Touch} {a : Addr} (h : x.low sz) (ht : x.touch? = some y) (hl : y.loc = .cell a) : a.block < sz := by
  cases x with
  | access e =>
    simp only [MemAct.touch?, Option.some.injEq] at ht
    subst ht
    simp only at hl
    simpa [MemAct.low, hl, Loc.low] using h
  | mark m =>
    cases m <;> simp only [MemAct.touch?, Option.some.injEq, reduceCtorEq] at ht
    all_goals subst ht; simp only [Loc.cell.injEq] at hl; subst hl; exact h
  | _ => simp [MemAct.touch?] at ht

/-- What is held of the trace while j workers are started. -/
structure TI (f : Plan) (M : Nat → Nat → Prop) (t : Trace) (j sz : Nat) : Prop where
  ct : CT (Shb f.Sb) (OwnL f M) (RdL f) t (f.q0 + j)
  pl : ∀ (i : Nat) (x : Touch), touchAt t i = some x → ¬ Shb f.Sb x.loc → x.kind ≠ .atomic
  low : ∀ op ∈ t, op.act.low sz
  old : ∀ i g, t.g? i = some g → g ≠ 0 → g ≤ f.q0 → t.counts i → ∃ q, t.g? q = some 0 ∧ HappensBefore t i q
  mem : ∀ (i : Nat) (op : MemOp) (x : Touch), t[i]? = some op → op.act.touch? = some x → x.loc.isMemory = true ∨ op.g = 0

theorem TI.fresh (h : TI f M t j sz) {i : Nat} {x : Touch} {a : Addr} (hx : touchAt t i = some x) (hl : x.loc = .cell a) : a.block < sz := by
  obtain ⟨op, ho, hox⟩ := touch_of hx
  exact low_touch (h.low op (Array.mem_of_getElem? ho)) hox hl

/-- The owners' blocks may grow by fresh ones; whoever is not started yet may get any. -/
theorem TI.refam (h : TI f M t j sz) (h1 : ∀ i b, f.q0 < i → i ≤ f.q0 + j → M i b → M' i b) (h2 : ∀ i b, f.q0 < i → i ≤ f.q0 + j → M' i b → M i b ∨ sz ≤ b) : TI f M' t j sz := by
  have sub : ∀ i, i ≤ f.q0 + j → ∀ l, OwnL f M i l → OwnL f M' i l := by
    rintro i hi l ⟨hk, a, rfl, ho⟩
    exact ⟨hk, a, rfl, ho.imp (h1 i _ hk (by omega)) id⟩
  refine ⟨⟨h.ct.quiet, ?_, h.ct.rd, ?_, ?_, h.ct.nr, h.ct.gs⟩, h.pl, h.low, h.old, h.mem⟩
  · rintro i i1 ij l ⟨hk, a, rfl, ho⟩
    rcases ho with ho | ho
    · rcases h2 i _ hk (by omega) ho with ho | ho
      · exact h.ct.own _ i1 ij _ ⟨hk, a, rfl, .inl ho⟩
      · intro i x hx hl
        have := h.fresh hx hl
        omega
    · exact h.ct.own _ i1 ij _ ⟨hk, a, rfl, .inr ho⟩
  · exact fun l hs hl => h.ct.free l hs fun k k1 kj => ⟨fun ho => (hl k k1 kj).1 (sub k kj l ho), (hl k k1 kj).2⟩
  · exact fun l hs hl => h.ct.mine l hs fun k k1 kj ho => hl k k1 kj (sub k kj l ho)

theorem TI.grow (h : TI f M t j sz) (hsz : sz ≤ sz') (ct' : CT (Shb f.Sb) (OwnL f M) (RdL f) (t ++ u) (f.q0 + j))
    (hu : ∀ op ∈ u, (op.g = 0 ∨ f.q0 < op.g ∨ op.act.touch? = none) ∧ op.act.low sz' ∧ ∀ x, op.act.touch? = some x → (x.loc.isMemory = true ∨ op.g = 0) ∧ (¬ Shb f.Sb x.loc → x.kind ≠ .atomic)) : TI f M (t ++ u) j sz' := by
  refine ⟨ct', fun i x hx hs => ?_, fun op hop => ?_, fun i g hg hne hle hc => ?_, fun i op x ho hx => ?_⟩
  · obtain ⟨op, ho, hox⟩ := touch_of hx
    rcases getElem?_append_cases ho with ⟨_, ho'⟩ | ⟨_, hou⟩
    · exact h.pl i x (by rw [touchAt_of ho']; exact hox) hs
    · exact ((hu op hou).2.2 x hox).2 hs
  · rcases Array.mem_append.1 hop with h1 | h1
    · exact MemAct.low_mono hsz (h.low op h1)
    · exact (hu op h1).2.1
  · obtain ⟨x, hx, hm⟩ := hc
    obtain ⟨op, ho, hox⟩ := touch_of hx
    rcases getElem?_append_cases ho with ⟨hi, ho'⟩ | ⟨_, hou⟩
    · obtain ⟨q, hq, hb⟩ := h.old i g (by rw [← g?_old (u := u) hi]; exact hg) hne hle ((counts_old hi).1 ⟨x, hx, hm⟩)
      have hql : q < t.size := by
        unfold Trace.g? at hq
        obtain ⟨z, hz, _⟩ := Option.map_eq_some_iff.1 hq
        exact lt_size_of_getElem? hz
      exact ⟨q, by rw [g?_old hql]; exact hq, hb_app u hb⟩
    · have hg' : op.g = g := by simpa [Trace.g?, ho] using hg
      rcases (hu op hou).1 with h0 | h0 | h0
      · omega
      · omega
      · rw [h0] at hox; cases hox
  · rcases getElem?_append_cases ho with ⟨_, ho'⟩ | ⟨_, hou⟩
    · exact h.mem i op x ho' hx
    · exact ((hu op hou).2.2 x hx).1

theorem mem_ofE {g : Nat} {fn : FuncId} {pos : String} {es : Array Event} {op : MemOp} (h : op ∈ MemOp.ofEvents g fn pos es) : ∃ e ∈ es, op = { g, fn, pos, act := .ofEvent e } := by
  rw [ofEvents_eq] at h
  obtain ⟨e, he, rfl⟩ := Array.mem_map.1 h
  exact ⟨e, he, rfl⟩

theorem touch_cell {a : Addr} {wr sy : Bool} {x : Touch} (h : (MemAct.ofEvent ⟨.cell a, wr, sy⟩).touch? = some x) : x = ⟨.cell a, wr, if sy then .atomic else .plain⟩ := by
  rw [ofEvent_cell] at h
  simp only [MemAct.touch?, Option.some.injEq] at h
  exact h.symm
theorem touch_idle {m : Mark} (hm : idleMark m = true) : (MemAct.ofEvent ⟨.mark m, false, true⟩).touch? = none ∧ ∀ sz, (MemAct.ofEvent ⟨.mark m, false, true⟩).low sz := by
  cases m <;> first | (simp [idleMark] at hm; done) | exact ⟨rfl, fun _ => trivial⟩

/-- A STEP OF WORKER k: it touches what is its own, reads what all may read. -/
theorem TI.worker (o : f.Ok) (hM : Owns f M' sz') (h : TI f M' t j sz) (hsz : sz ≤ sz') {k : Nat} (k1 : f.q0 < k) (kj : k ≤ f.q0 + j) {fn : FuncId} {pos : String} {es : Array Event} (hes : ∀ e ∈ es, EvG f.p (f.part k) (M' k) e) (hlow : f.B0 ≤ sz) :
    TI f M' (t ++ MemOp.ofEvents k fn pos es) j sz' := by
  refine h.grow hsz (h.ct.appW (k := k) (apart o hM) (by omega) (by omega) fun op hop => ?_) fun op hop => ?_
  · obtain ⟨e, he, rfl⟩ := mem_ofE hop
    refine ⟨rfl, fun x hx => ?_⟩
    rcases hes e he with ⟨a, wr, rfl, ha⟩ | ⟨m, rfl, hm⟩
    · have := touch_cell hx
      subst this
      rcases ha with ha | ha | ⟨hw, ha⟩
      · exact .inr (.inl ⟨k1, a, rfl, .inl ha⟩)
      · exact .inr (.inl ⟨k1, a, rfl, .inr ha⟩)
      · exact .inr (.inr ⟨⟨by omega, a, rfl, ha⟩, hw⟩)
    · rw [(touch_idle hm).1] at hx; cases hx
  · obtain ⟨e, he, rfl⟩ := mem_ofE hop
    rcases hes e he with ⟨a, wr, rfl, ha⟩ | ⟨m, rfl, hm⟩
    · refine ⟨.inr (.inl (by simp only; omega)), ?_, fun x hx => ?_⟩
      · rw [ofEvent_cell]
        show a.block < sz'
        rcases ha with ha | ha | ⟨_, ha⟩
        · exact hM.low _ _ ha
        · have := o.c; omega
        · have := ha.1; omega
      · have := touch_cell hx
        subst this
        exact ⟨.inl rfl, by simp⟩
    · exact ⟨.inr (.inr (touch_idle hm).1), (touch_idle hm).2 _, fun x hx => by rw [(touch_idle hm).1] at hx; cases hx⟩

/-- What the starter may list while its crew works: what is its own; the library's words on the group's cells. -/
def EvC (Wg : Nat) (M : Nat → Prop) (e : Event) : Prop :=
  (∃ a wr, e = ⟨.cell a, wr, false⟩ ∧ M a.block) ∨ (∃ m, e = ⟨.mark m, false, true⟩ ∧ idleMark m = true) ∨ (∃ a, a.block = Wg ∧ (e = mk (.read a) ∨ e = mk (.write a)))

theorem TI.starter (o : f.Ok) (hM : Owns f M' sz') (h : TI f M' t j sz) (hsz : sz ≤ sz') {fn : FuncId} {pos : String} {es : Array Event} (hes : ∀ e ∈ es, EvC f.p.Wg (M' 0) e) (hlow : f.B0 ≤ sz) :
    TI f M' (t ++ MemOp.ofEvents 0 fn pos es) j sz' := by
  have notown : ∀ a, M' 0 a.block → ¬ Shb f.Sb (.cell a) ∧ (∀ k, 1 ≤ k → k ≤ f.q0 + j → ¬ OwnL f M' k (.cell a)) ∧ (∀ k, 1 ≤ k → k ≤ f.q0 + j → ¬ RdL f k (.cell a)) := by
    intro a ha
    have hb := hM.high _ _ ha
    refine ⟨?_, ?_, ?_⟩
    · rintro ⟨_, e, hs⟩; cases e; have := o.sb _ hs; omega
    · rintro i _ _ ⟨hk, _, e, h'⟩
      cases e
      rcases h' with h' | ⟨h', _⟩
      · have := hM.one _ _ _ ha h'; omega
      · have := o.c; omega
    · rintro i _ _ ⟨_, _, e, h', _⟩; cases e; omega
  refine h.grow hsz (h.ct.app0 (apart o hM) fun op hop => ?_) fun op hop => ?_
  · obtain ⟨e, he, rfl⟩ := mem_ofE hop
    refine ⟨rfl, fun x hx => ?_⟩
    rcases hes e he with ⟨a, wr, rfl, ha⟩ | ⟨m, rfl, hm⟩ | ⟨a, ha, rfl | rfl⟩
    · have := touch_cell hx
      subst this
      obtain ⟨n1, n2, n3⟩ := notown a ha
      exact .inr ⟨n1, n2, fun _ => n3⟩
    · rw [(touch_idle hm).1] at hx; cases hx
    · simp only [ofEvent_mk, MemAct.touch?, Option.some.injEq] at hx
      subst hx
      exact .inl ⟨⟨a, rfl, ha ▸ o.wg⟩, by simp⟩
    · simp only [ofEvent_mk, MemAct.touch?, Option.some.injEq] at hx
      subst hx
      exact .inl ⟨⟨a, rfl, ha ▸ o.wg⟩, by simp⟩
  · obtain ⟨e, he, rfl⟩ := mem_ofE hop
    refine ⟨.inl rfl, ?_⟩
    rcases hes e he with ⟨a, wr, rfl, ha⟩ | ⟨m, rfl, hm⟩ | ⟨a, ha, rfl | rfl⟩
    · refine ⟨?_, fun x hx => ?_⟩
      · rw [ofEvent_cell]; exact hM.low _ _ ha
      · have := touch_cell hx
        subst this
        exact ⟨.inl rfl, by simp⟩
    · exact ⟨(touch_idle hm).2 _, fun x hx => by rw [(touch_idle hm).1] at hx; cases hx⟩
    all_goals
      refine ⟨?_, fun x hx => ?_⟩
      · have := o.sb _ o.wg
        show a.block < sz'
        omega
      · simp only [ofEvent_mk, MemAct.touch?, Option.some.injEq] at hx
        subst hx
        exact ⟨.inl rfl, by simp⟩

theorem bk_low {Wg : Nat} (hW : Wg < sz) {e : Event} (h : Bk Wg e) : (MemAct.ofEvent e).low sz ∧ ∀ x, (MemAct.ofEvent e).touch? = some x → ∃ a, x.loc = .cell a ∧ a.block = Wg := by
  rcases h with h1 | h1 | ⟨a, wr, rfl, ha⟩
  · rw [ofEvent_loc_mark h1]; exact ⟨trivial, fun x hx => by cases hx⟩
  · rw [ofEvent_loc_mark h1]; exact ⟨trivial, fun x hx => by cases hx⟩
  · rw [ofEvent_cell]
    refine ⟨by show a.block < sz; omega, fun x hx => ?_⟩
    simp only [MemAct.touch?, Option.some.injEq] at hx
    subst hx
    exact ⟨a, rfl, ha⟩

/-- THE LIBRARY's BOOKKEEPING, whoever does it. -/
theorem TI.book (o : f.Ok) (hM : Owns f M sz) (h : TI f M t j sz) {g : Nat} (hg : g = 0 ∨ (f.q0 < g ∧ g ≤ f.q0 + j)) {fn : FuncId} {pos : String} {es : Array Event} (hes : ∀ e ∈ es, Bk f.p.Wg e) (hlow : f.B0 ≤ sz) :
    TI f M (t ++ MemOp.ofEvents g fn pos es) j sz := by
  have hW : f.p.Wg < sz := Nat.lt_of_lt_of_le (o.sb _ o.wg) hlow
  have hsh : ∀ x : Touch, (∃ a, x.loc = .cell a ∧ a.block = f.p.Wg) → Shb f.Sb x.loc := fun x ⟨a, e, ha⟩ => ⟨a, e, ha ▸ o.wg⟩
  refine h.grow (Nat.le_refl _) ?_ fun op hop => ?_
  · rcases hg with rfl | ⟨k1, kj⟩
    · refine h.ct.app0 (apart o hM) fun op hop => ?_
      obtain ⟨e, he, rfl⟩ := mem_ofE hop
      refine ⟨rfl, fun x hx => .inl ⟨hsh x ((bk_low hW (hes e he)).2 x hx), ?_⟩⟩
      rcases hes e he with h1 | h1 | ⟨a, wr, rfl, ha⟩
      · rw [ofEvent_loc_mark h1] at hx; cases hx
      · rw [ofEvent_loc_mark h1] at hx; cases hx
      · have := touch_cell hx; subst this; simp
    · refine h.ct.appW (k := g) (apart o hM) (by omega) (by omega) fun op hop => ?_
      obtain ⟨e, he, rfl⟩ := mem_ofE hop
      refine ⟨rfl, fun x hx => .inl ⟨hsh x ((bk_low hW (hes e he)).2 x hx), ?_⟩⟩
      rcases hes e he with h1 | h1 | ⟨a, wr, rfl, ha⟩
      · rw [ofEvent_loc_mark h1] at hx; cases hx
      · rw [ofEvent_loc_mark h1] at hx; cases hx
      · have := touch_cell hx; subst this; simp
  · obtain ⟨e, he, rfl⟩ := mem_ofE hop
    refine ⟨?_, (bk_low hW (hes e he)).1, fun x hx => ⟨.inl (by obtain ⟨a, e, _⟩ := (bk_low hW (hes _ he)).2 x hx; rw [e]; rfl), fun hs => absurd (hsh x ((bk_low hW (hes e he)).2 x hx)) hs⟩⟩
    rcases hg with rfl | ⟨k1, kj⟩
    · exact .inl rfl
    · exact .inr (.inl (by simp only; omega))

/-- Entries that touch nothing, whoever lists them. -/
theorem TI.nought (o : f.Ok) (hM : Owns f M sz) (h : TI f M t j sz) {g : Nat} (hg : g ≤ f.q0 + j) {fn : FuncId} {pos : String} {es : Array Event} (hes : ∀ e ∈ es, (MemAct.ofEvent e).touch? = none ∧ (MemAct.ofEvent e).low sz) :
    TI f M (t ++ MemOp.ofEvents g fn pos es) j sz := by
  refine h.grow (Nat.le_refl _) ?_ fun op hop => ?_
  · rcases Nat.eq_zero_or_pos g with rfl | hpos
    · refine h.ct.app0 (apart o hM) fun op hop => ?_
      obtain ⟨e, he, rfl⟩ := mem_ofE hop
      exact ⟨rfl, fun x hx => by rw [(hes e he).1] at hx; cases hx⟩
    · refine h.ct.appW (apart o hM) hpos hg fun op hop => ?_
      obtain ⟨e, he, rfl⟩ := mem_ofE hop
      exact ⟨rfl, fun x hx => by rw [(hes e he).1] at hx; cases hx⟩
  · obtain ⟨e, he, rfl⟩ := mem_ofE hop
    exact ⟨.inr (.inr (hes e he).1), (hes e he).2, fun x hx => by rw [(hes e he).1] at hx; cases hx⟩

/-- THE go STATEMENT: worker number j + 1. -/
theorem TI.fork (o : f.Ok) (hM : Owns f M sz) (h : TI f M t j sz) {x y : MemOp} (hx : x.g = 0 ∧ x.act = .go (f.q0 + (j + 1))) (hy : y.g = f.q0 + (j + 1) ∧ y.act = .start) (h0 : Deaf t 0 = 0) : TI f M (t ++ #[x, y]) (j + 1) sz := by
  have hct : CT (Shb f.Sb) (OwnL f M) (RdL f) (t ++ #[x, y]) (f.q0 + (j + 1)) := h.ct.fork (j := f.q0 + j) (apart o hM) hx hy h0
  have hm : ∀ op ∈ #[x, y], op = x ∨ op = y := fun op hop => by simpa using hop
  refine ⟨hct, fun i z hz hs => ?_, fun op hop => ?_, fun i g hg hne hle hc => ?_, fun i op z ho hz => ?_⟩
  · obtain ⟨op, ho, hoz⟩ := touch_of hz
    rcases getElem?_append_cases ho with ⟨_, ho'⟩ | ⟨_, hou⟩
    · exact h.pl i z (by rw [touchAt_of ho']; exact hoz) hs
    · rcases hm op hou with rfl | rfl
      · rw [hx.2] at hoz; cases hoz
      · rw [hy.2] at hoz; cases hoz
  · rcases Array.mem_append.1 hop with h1 | h1
    · exact h.low op h1
    · rcases hm op h1 with rfl | rfl
      · rw [hx.2]; trivial
      · rw [hy.2]; trivial
  · obtain ⟨z, hz, hmm⟩ := hc
    obtain ⟨op, ho, hoz⟩ := touch_of hz
    rcases getElem?_append_cases ho with ⟨hi, ho'⟩ | ⟨_, hou⟩
    · obtain ⟨q, hq, hb⟩ := h.old i g (by rw [← g?_old (u := #[x, y]) hi]; exact hg) hne hle ((counts_old hi).1 ⟨z, hz, hmm⟩)
      have hql : q < t.size := by
        unfold Trace.g? at hq
        obtain ⟨z, hz, _⟩ := Option.map_eq_some_iff.1 hq
        exact lt_size_of_getElem? hz
      exact ⟨q, by rw [g?_old hql]; exact hq, hb_app _ hb⟩
    · rcases hm op hou with rfl | rfl
      · rw [hx.2] at hoz; cases hoz
      · rw [hy.2] at hoz; cases hoz
  · rcases getElem?_append_cases ho with ⟨_, ho'⟩ | ⟨_, hou⟩
    · exact h.mem i op z ho' hz
    · rcases hm op hou with rfl | rfl
      · rw [hx.2] at hz; cases hz
      · rw [hy.2] at hz; cases hz

/-- ████ ALL IS HANDED OVER. ████ -/
theorem TI.over (h : TI f M t j sz) {a : Addr} {q : Nat} (hn : NoRelease a t) (hq : t.act? q = some (.mark (.acquire a))) (hg : t.g? q = some 0) (hh : t.heard q)
    (all : ∀ k, f.q0 < k → k ≤ f.q0 + j → ∃ r, RelBy a t k r ∧ r < q) : t.HandedOver := by
  intro i g hgi hne hc
  rcases Nat.lt_or_ge f.q0 g with hlt | hge
  · obtain ⟨op, ho, rfl⟩ := Option.map_eq_some_iff.1 hgi
    have hle := h.ct.gs i op ho
    obtain ⟨r, hr, hrq⟩ := all op.g hlt hle
    have edge : HappensBefore t r q := .single (.inr ⟨.marked hrq (.inr hr.act) hq (fun k _ _ => hn k), hr.heard, hh⟩)
    have hle : i ≤ r := Nat.le_of_not_lt fun hlt => hr.after i hlt hgi hc
    rcases Nat.lt_or_ge i r with hlt | hge
    · exact ⟨q, hg, .trans (.single (.inl ⟨hlt, op.g, hgi, hr.g⟩)) edge⟩
    · obtain rfl : i = r := by omega
      exact ⟨q, hg, edge⟩
  · exact h.old i g hgi hne hge hc
end

/-! ### between two crews -/
/-- All is handed over; whoever is not goroutine 0 only leaves. -/
structure Still (Sb : Nat → Prop) (J : Nat) (t : Trace) (sz : Nat) : Prop where
  quiet : Quiet (Shb Sb) t
  nr : ∀ said, ¬ Race said t
  gs : ∀ (i : Nat) (op : MemOp), t[i]? = some op → op.g ≤ J
  pl : ∀ (i : Nat) (x : Touch), touchAt t i = some x → ¬ Shb Sb x.loc → x.kind ≠ .atomic
  low : ∀ op ∈ t, op.act.low sz
  over : t.HandedOver
  mem : ∀ (i : Nat) (op : MemOp) (x : Touch), t[i]? = some op → op.act.touch? = some x → x.loc.isMemory = true ∨ op.g = 0

theorem TI.still {f : Plan} {M : Nat → Nat → Prop} {t : Trace} {j sz : Nat} (h : TI f M t j sz) (ho : t.HandedOver) : Still f.Sb (f.q0 + j) t sz :=
  ⟨h.ct.quiet, h.ct.nr, h.ct.gs, h.pl, h.low, ho, h.mem⟩

/-- Goroutine 0 knows every touch. -/
theorem Still.knows {Sb : Nat → Prop} {J : Nat} {t : Trace} {sz : Nat} (h : Still Sb J t sz) {l : Loc} (hl : ¬ Shb Sb l) : Perm t 0 l := by
  intro i x hx e
  obtain ⟨op, ho, hox⟩ := touch_of hx
  by_cases hg : op.g = 0
  · have := knows_own ho
    rwa [hg] at this
  · rcases h.mem i op x ho hox with hm | hg'
    · obtain ⟨q, hq, hb⟩ := h.over i op.g (by simp [Trace.g?, ho]) hg ⟨x, hx, hm, .inl (h.pl i x hx (e ▸ hl))⟩
      obtain ⟨z, hz, hzg⟩ := Option.map_eq_some_iff.1 hq
      exact ⟨q, z, hz, hzg, .inr hb⟩
    · exact absurd hg' hg

theorem Still.ti {f : Plan} {M : Nat → Nat → Prop} {t : Trace} {sz : Nat} (h : Still f.Sb f.q0 t sz) : TI f M t 0 sz := by
  have no1 : ∀ i, i ≤ f.q0 → ∀ l, ¬ OwnL f M i l := by rintro i hi l ⟨hk, _⟩; omega
  have no2 : ∀ i, i ≤ f.q0 → ∀ l, ¬ RdL f i l := by rintro i hi l ⟨hk, _⟩; omega
  exact ⟨⟨h.quiet, fun i i1 ij l hl => absurd hl (no1 i ij l), fun i i1 ij l hl => absurd hl (no2 i ij l), fun l hs _ => h.knows hs, fun l hs _ => .of (h.knows hs), h.nr, h.gs⟩, h.pl, h.low, fun i g hg hne _ hc => h.over i g hg hne hc, h.mem⟩

/-- Fresh blocks may join those that are touched atomically alone. -/
theorem Still.shun {Sb Sb' : Nat → Prop} {J : Nat} {t : Trace} {sz : Nat} (h : Still Sb J t sz) (h1 : ∀ b, Sb b → Sb' b) (h2 : ∀ b, Sb' b → Sb b ∨ sz ≤ b) : Still Sb' J t sz := by
  refine ⟨fun i op x hi hx hs => ?_, h.nr, h.gs, fun i x hx hs => h.pl i x hx fun ⟨a, e, hb⟩ => hs ⟨a, e, h1 _ hb⟩, h.low, h.over, h.mem⟩
  obtain ⟨a, e, hb⟩ := hs
  rcases h2 _ hb with hb | hb
  · exact h.quiet i op x hi hx ⟨a, e, hb⟩
  · have := low_touch (h.low op (Array.mem_of_getElem? hi)) hx e
    omega
end Go.Proofs.Ytmhbjmkdekgmlaa.Sim
