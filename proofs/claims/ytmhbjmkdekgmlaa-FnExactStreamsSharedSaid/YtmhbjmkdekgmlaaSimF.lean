/-
  A run of one goroutine alone and its image in company: one step of a goroutine.
  Condition: 'Setup': the texts of the functions that are entered pass 'codeOk'.
-/
import Derived.Test.YtmhbjmkdekgmlaaSimE
set_option linter.unusedSimpArgs false
set_option linter.unusedVariables false
namespace Go.Proofs.Ytmhbjmkdekgmlaa.Sim
open Go Go.Conc
variable {P : Program} {ρ : Array Nat}

def codeOk (P : Program) (F : FuncId → Bool) (np : Nat → Bool) : Code → Bool
  | .skip | .label _ | .exit _ | .ret => true
  | .region _ ops _ => ops.all (opOk P F np)
  | .seq a b => codeOk P F np a && codeOk P F np b
  | .cond c a b => opd np c && codeOk P F np a && codeOk P F np b
  | .block _ c | .loop c | .scope c => codeOk P F np c
  | _ => false

def itemOk (P : Program) (F : FuncId → Bool) (np : Nat → Bool) : Item → Bool
  | .code c | .inLoop c | .inScope c => codeOk P F np c
  | .inBlock _ => true
  | .inRegion ops _ => ops.all (opOk P F np)
  | _ => false

def resOk (np : Nat → Bool) : ResultVar → Bool
  | .tmp t => np t
  | .cell .. => true

structure Setup (P : Program) (F B : FuncId → Bool) (np : FuncId → Nat → Bool) : Prop where
  call : Callees P F fun f => B f && F f
  body : ∀ f, B f = true → ∃ fn c, P.funcs[f]? = some fn ∧ fn.body = some c ∧ codeOk P F (np f) c = true ∧ (F f = true → fn.results.all (resOk (np f)) = true)
  free : ∀ f, F f = true → ptr1 P f = true → np f 0 = false

section
variable (P : Program) (F : FuncId → Bool) (np : FuncId → Nat → Bool)
structure FOk (a : Frame) : Prop where
  cl : ∀ (t : Nat) v, np a.fn t = true → a.tmps[t]? = some v → Closed v
  ok : ∀ it ∈ a.todo, itemOk P F (np a.fn) it = true
  defers : a.defers = []
  mode : a.mode = .run ∨ a.mode = .returning
  kind : a.kind = .normal
  round : a.roundOf = none
structure FRel (ρ : Array Nat) (a b : Frame) : Prop where
  ok : FOk P F np a
  eq : b = { a with tmps := b.tmps }
  tmps : CRel ρ a.tmps b.tmps
end
section
variable {F B : FuncId → Bool} {np : FuncId → Nat → Bool}

theorem FRel.ext {ρ' : Array Nat} (h : Ext ρ ρ') {a b : Frame} (k : FRel P F np ρ a b) : FRel P F np ρ' a b := ⟨k.ok, k.eq, k.tmps.ext h⟩

/-- The callers, and that each frame is one of a function of B. -/
def Chain (B F : FuncId → Bool) : Frame → List Frame → Prop
  | a, [] => B a.fn = true
  | a, c :: cs => (B a.fn && F a.fn) = true ∧ Chain B F c cs

inductive FsRel (P : Program) (F : FuncId → Bool) (np : FuncId → Nat → Bool) (ρ : Array Nat) : List Frame → List Frame → Prop
  | nil : FsRel P F np ρ [] []
  | cons {a b : Frame} {as bs : List Frame} (h : FRel P F np ρ a b) (hs : FsRel P F np ρ as bs) : FsRel P F np ρ (a :: as) (b :: bs)
theorem FsRel.ext {ρ' : Array Nat} (h : Ext ρ ρ') {as bs : List Frame} (k : FsRel P F np ρ as bs) : FsRel P F np ρ' as bs := by
  induction k with
  | nil => exact .nil
  | cons h' _ ih => exact .cons (h'.ext h) ih

/-- Both have gone one step on. -/
structure Image (P : Program) (F B : FuncId → Bool) (np : FuncId → Nat → Bool) (ρ : Array Nat) (u w u' : World) (g' : Goroutine) (KA KB : List Frame) (s : GStep) : Prop where
  out : ∃ (ρ' : Array Nat) (a' b' : Frame) (as' bs' : List Frame) (w' : World) (es : Array Event),
    g' = G a' (as' ++ KA) ∧ s = .go (G b' (bs' ++ KB)) w' es ∧ Ext ρ ρ' ∧ FRel P F np ρ' a' b' ∧ FsRel P F np ρ' as' bs' ∧ Chain B F a' as' ∧
    HRel ρ' u' w' ∧ w'.drawn + u.drawn = w.drawn + u'.drawn ∧ Far ρ ρ' w w' ∧ (∀ e ∈ es, EvOk ρ' e) ∧ u.drawn ≤ u'.drawn ∧ u'.tape = u.tape

theorem FRel.eval {a b : Frame} (h : FRel P F np ρ a b) (x : Operand) (hx : opr x = true) : VRel ρ (a.eval x) (b.eval x) := by
  cases x with
  | tmp t => exact h.tmps.getD t
  | const v => exact .same (closedB_closed hx)
  | global g => cases hx
  | func f => exact .same (.func f)
theorem FRel.evalD {a b : Frame} (h : FRel P F np ρ a b) (x : Operand) (hx : opd (np a.fn) x = true) : b.eval x = a.eval x ∧ Closed (a.eval x) := by
  have hc : Closed (a.eval x) := by
    cases x with
    | tmp t =>
      show Closed (a.tmps.getD t undef)
      rw [Array.getD_eq_getD_getElem?]
      cases hv : a.tmps[t]? with
      | none => exact .undef
      | some v => exact h.ok.cl t v hx hv
    | const v => exact closedB_closed hx
    | global g => cases hx
    | func f => exact .func f
  have hr : opr x = true := by cases x <;> first | rfl | exact hx
  exact ⟨(h.eval x hr).eq_of_closed hc, hc⟩

/-- A move of control: nothing but what is left to do. -/
theorem FRel.move {a b : Frame} (h : FRel P F np ρ a b) (todo : List Item) (mode : FrameMode) (hm : mode = .run ∨ mode = .returning) (hk : ∀ it ∈ todo, itemOk P F (np a.fn) it = true) : FRel P F np ρ { a with todo, mode } { b with todo, mode } :=
  ⟨⟨h.ok.cl, hk, h.ok.defers, hm, h.ok.kind, h.ok.round⟩, by rw [h.eq], h.tmps⟩

/-- An operation has come to its end with a value. -/
theorem FRel.finish {a b : Frame} (h : FRel P F np ρ a b) {ops : Array Oper} {i : Nat} {rest : List Nat} {k : List Item} (ht : a.todo = .inRegion ops (i :: rest) :: k) {v v' : Value} (hv : VRel ρ v v')
    (hc : ((ops[i]?).bind (·.dst)).any (np a.fn) = true → Closed v) : FRel P F np ρ (a.finish v) (b.finish v') := by
  have htb : b.todo = .inRegion ops (i :: rest) :: k := by rw [h.eq]; exact ht
  unfold Frame.finish
  rw [ht, htb]
  dsimp only
  have hk : ∀ it ∈ (Item.inRegion ops rest :: k), itemOk P F (np a.fn) it = true := by
    intro it hit
    have := h.ok.ok
    rw [ht] at this
    rcases List.mem_cons.1 hit with rfl | hit
    · exact this (.inRegion ops (i :: rest)) (by simp)
    · exact this it (by simp [hit])
  cases hd : (ops[i]?).bind (·.dst) with
  | none => exact ⟨⟨h.ok.cl, hk, h.ok.defers, h.ok.mode, h.ok.kind, h.ok.round⟩, by rw [h.eq], h.tmps⟩
  | some d =>
    rw [hd] at hc
    refine ⟨⟨fun t x ht' hx => ?_, hk, h.ok.defers, h.ok.mode, h.ok.kind, h.ok.round⟩, by rw [h.eq], h.tmps.set d hv⟩
    by_cases e : d = t
    · subst e
      by_cases hlt : d < a.tmps.size
      · rw [Array.getElem?_setIfInBounds_self_of_lt hlt] at hx
        cases hx
        exact hc (by simpa using ht')
      · have : (a.tmps.setIfInBounds d v)[d]? = none := Array.getElem?_eq_none (by rw [Array.size_setIfInBounds]; exact Nat.le_of_not_lt hlt)
        rw [this] at hx
        cases hx
    · rw [Array.getElem?_setIfInBounds_ne e] at hx
      exact h.ok.cl t x ht' hx
theorem finish_keeps {a : Frame} {ops : Array Oper} {i : Nat} {rest : List Nat} {k : List Item} (ht : a.todo = .inRegion ops (i :: rest) :: k) (v : Value) : (a.finish v).fn = a.fn := by
  unfold Frame.finish
  rw [ht]

theorem chain_fn {a a' : Frame} {as : List Frame} (h : a'.fn = a.fn) (k : Chain B F a as) : Chain B F a' as := by
  cases as with
  | nil => exact (congrArg B h).trans k
  | cons c cs => exact ⟨by rw [h]; exact k.1, k.2⟩

theorem exitTo_ok {q : Item → Bool} {id : Nat} : ∀ {k k' : List Item}, exitTo id k = some k' → (∀ it ∈ k, q it = true) → ∀ it ∈ k', q it = true
  | [], _, h, _ => by cases h
  | x :: k, k', h, hk => by
    have tail : ∀ it ∈ k, q it = true := fun it hit => hk it (by simp [hit])
    cases x <;> simp only [exitTo] at h <;> first | exact exitTo_ok h tail | skip
    split at h
    · cases h; exact tail
    · exact exitTo_ok h tail

/-- A step of control alone. -/
theorem image_move {a b a' : Frame} {as bs : List Frame} {u w u' : World} {KA KB : List Frame} {g' : Goroutine} {es : Array Event} (h : FRel P F np ρ a b) (hs : FsRel P F np ρ as bs) (hc : Chain B F a as) (H : HRel ρ u w)
    (todo : List Item) (mode : FrameMode) (hm : mode = .run ∨ mode = .returning) (hk : ∀ it ∈ todo, itemOk P F (np a.fn) it = true) (ha' : a' = { a with todo, mode })
    (hgo : GStep.go (G a' (as ++ KA)) u = .go g' u' es) {s : GStep} (hsb : s = .go (G { b with todo, mode } (bs ++ KB)) w) : Image P F B np ρ u w u' g' KA KB s := by
  cases hgo
  subst ha'
  exact ⟨ρ, _, _, as, bs, w, #[], rfl, hsb, .refl _, h.move todo mode hm hk, hs, chain_fn (a := a) rfl hc, H, rfl, .refl _ _, fun e he => by simp at he, Nat.le_refl _, rfl⟩

theorem stepG_run {a : Frame} {cs : List Frame} {w : World} {main : Bool} (hm : a.mode = .run) : stepG P main (G a cs) w = stepG.exec P main true a cs none w := by
  simp [G, stepG, hm]

theorem yielded_eq (ops : Array Oper) {ts ts' : Array Value} (h : CRel ρ ts ts') (j : Nat) : yielded ops ts' j = yielded ops ts j := by
  unfold yielded
  cases hd : (ops[j]?).bind (·.dst) with
  | none => rfl
  | some d =>
    simp only [Option.bind_some]
    cases hv : ts[d]? with
    | none => rw [h.getNone hv]
    | some v =>
      obtain ⟨v', hv', hr⟩ := h.get hv
      rw [hv']
      cases hr <;> rfl

/-- THE OPERATION THAT COMES UP. -/
theorem step_oper (S : Setup P F B np) {a b : Frame} {as bs : List Frame} {u w u' : World} {KA KB : List Frame} {g' : Goroutine} {es : Array Event} {main main' : Bool} (h : FRel P F np ρ a b) (hs : FsRel P F np ρ as bs) (hc : Chain B F a as) (H : HRel ρ u w)
    {ops : Array Oper} {i : Nat} {rest : List Nat} {k : List Item} (ht : a.todo = .inRegion ops (i :: rest) :: k) {o : Oper} (ho : ops[i]? = some o) (hok : opOk P F (np a.fn) o = true)
    (hgo : stepG.apply P true a (as ++ KA) none (execOp a.eval o) u = .go g' u' es) (hnp : ∀ ch, g'.frame.mode ≠ .panicking ch) (hT : Agree u u' w) :
    Image P F B np ρ u w u' g' KA KB (stepG.apply P true b (bs ++ KB) none (execOp b.eval o) w) := by
  have htb : b.todo = .inRegion ops (i :: rest) :: k := by rw [h.eq]; exact ht
  have hkb : b.kind = .normal := by rw [h.eq]; exact h.ok.kind
  have hka := h.ok.kind
  have hsr := srel_exec (P := P) (F := F) (B := fun f => B f && F f) (np := np a.fn) (ev := a.eval) (ev' := b.eval) (ρ := ρ) S.call (fun f => ⟨rfl, rfl⟩) h.eval h.evalD hok
  cases hr : (execOp a.eval o).run P u with
  | halt x u₁ =>
    exfalso
    have hd := hsr.halts u w x u₁ H hr
    simp only [stepG.apply, Sem.runT_eq, hr, ht, if_true] at hgo
    cases x <;> simp only [dead, Bool.false_eq_true] at hd
    · simp only [GStep.after, GStep.go.injEq] at hgo
      obtain ⟨rfl, _⟩ := hgo
      unfold Frame.raise at hnp
      split at hnp <;> exact hnp _ rfl
    · rename_i un
      cases un <;> simp only [Bool.false_eq_true] at hd <;> simp [GStep.after] at hgo
    · simp [GStep.after] at hgo
  | ok r u₁ =>
    have hu : u₁ = u' ∧ ((∃ v, r = .value v) ∨ r = .skip ∨ ∃ f args, r = .enter f args) → Image P F B np ρ u w u' g' KA KB (stepG.apply P true b (bs ++ KB) none (execOp b.eval o) w) := by
      rintro ⟨rfl, hcase⟩
      obtain ⟨ρ', r', w', es', e1, e2, e3, e4, e5, e6, e7⟩ := hsr.sound u w #[] r u₁ H hr hT
      have hd := hsr.drawn u w r u₁ H hr
      have hE : ∀ e ∈ seen P b.fn es', EvOk ρ' e := fun e he => by
        rcases e7 e (mem_seen he) with h | h
        · simp at h
        · exact h
      have hknd : (b.kind == CallKind.early) = false := by rw [hkb]; rfl
      rcases hcase with ⟨v, rfl⟩ | rfl | ⟨f, args, rfl⟩
      · cases r' <;> simp only [NOut] at e3
        rename_i v'
        simp only [stepG.apply, Sem.runT_eq, hr, ht, if_true, GStep.after, GStep.go.injEq] at hgo
        obtain ⟨rfl, -, -⟩ := hgo
        refine ⟨ρ', a.finish v, b.finish v', as, bs, w', seen P b.fn es' ++ #[], rfl, ?_, e1, (h.ext e1).finish ht e3.1 (fun hn => e3.2 (by rw [ho] at hn; simpa using hn)), hs.ext e1, chain_fn (finish_keeps ht v) hc, e4, e5, e6, fun e he => hE e (by simpa using he), hd.1, hd.2⟩
        simp only [stepG.apply, e2, htb, if_true, hknd, Bool.false_eq_true, if_false, GStep.after]
        rfl
      · cases r' <;> simp only [NOut] at e3
        simp only [stepG.apply, Sem.runT_eq, hr, ht, if_true, GStep.after, GStep.go.injEq] at hgo
        obtain ⟨rfl, -, -⟩ := hgo
        refine ⟨ρ', a.finish undef, b.finish undef, as, bs, w', seen P b.fn es' ++ #[], rfl, ?_, e1, (h.ext e1).finish ht (.same .undef) (fun _ => .undef), hs.ext e1, chain_fn (finish_keeps ht undef) hc, e4, e5, e6, fun e he => hE e (by simpa using he), hd.1, hd.2⟩
        simp only [stepG.apply, e2, htb, if_true, hknd, Bool.false_eq_true, if_false, GStep.after]
        rfl
      · cases r' <;> simp only [NOut] at e3
        rename_i f' args'
        obtain ⟨rfl, hcr, hcl, hB⟩ := e3
        simp only [stepG.apply, Sem.runT_eq, hr, ht, if_true, GStep.after, GStep.go.injEq] at hgo
        obtain ⟨rfl, -, -⟩ := hgo
        have hBF : B f' = true ∧ F f' = true := by simpa using hB
        obtain ⟨fn, c, hf, hb, hco, hre⟩ := S.body f' hBF.1
        have hen : ∀ xs : Array Value, Frame.enter P f' xs .normal = { fn := f', tmps := xs ++ Array.replicate (fn.ntmps - xs.size) undef, todo := [.code c], defers := [], mode := .run, kind := .normal } := fun xs => by
          simp [Frame.enter, hf, hb]
        have hrep : ∀ n, AllClosed (Array.replicate n undef) := fun n i hi => by rw [Array.getElem_replicate]; exact .undef
        have hcl' : ∀ (t : Nat) v, np f' t = true → (args ++ Array.replicate (fn.ntmps - args.size) undef)[t]? = some v → Closed v := by
          intro t v ht hv
          rcases hcl with hcl | ⟨h1, h2⟩
          · exact (hcl.append (hrep _)).get hv
          · rcases Nat.eq_zero_or_pos t with rfl | hpos
            · rw [S.free f' hBF.2 h2] at ht; cases ht
            · rw [Array.getElem?_append_right (by omega)] at hv
              exact (hrep _).get hv
        have hcr' : CRel ρ' (args ++ Array.replicate (fn.ntmps - args.size) undef) (args' ++ Array.replicate (fn.ntmps - args'.size) undef) := by
          rw [← hcr.1]
          exact hcr.append (CRel.of_closed (hrep _))
        refine ⟨ρ', Frame.enter P f' args .normal, Frame.enter P f' args' .normal, a :: as, b :: bs, w', seen P b.fn es' ++ #[], rfl, ?_, e1, ?_, .cons (h.ext e1) (hs.ext e1), ?_, e4, e5, e6, fun e he => hE e (by simpa using he), hd.1, hd.2⟩
        · simp only [stepG.apply, e2, htb, if_true, hknd, Bool.false_eq_true, if_false, GStep.after]
          rfl
        · rw [hen, hen]
          exact ⟨⟨hcl', fun it hit => by simp only [List.mem_singleton] at hit; subst hit; exact hco, rfl, .inl rfl, rfl, rfl⟩, rfl, hcr'⟩
        · rw [hen]
          exact ⟨hB, hc⟩
    obtain ⟨ρ', r', w', es', e1, e2, e3, -⟩ := hsr.sound u { w with tape := fun n q => u.tape (n - w.drawn + u.drawn) q } #[] r u₁ ⟨H.size, H.inj, H.low, H.row⟩ hr (fun i q _ => by simp [Nat.add_comm])
    cases r <;> cases r' <;> simp only [NOut] at e3 <;> refine hu ⟨?_, ?_⟩ <;> first | (simp only [stepG.apply, Sem.runT_eq, hr, ht, if_true, GStep.after, GStep.go.injEq] at hgo; exact hgo.2.1) | exact .inl ⟨_, rfl⟩ | exact .inr (.inl rfl) | exact .inr (.inr ⟨_, _, rfl⟩)

/-- ONE STEP IN THE MIDDLE OF A FUNCTION's TEXT. -/
theorem step_run (S : Setup P F B np) {a b : Frame} {as bs : List Frame} {u w u' : World} {KA KB : List Frame} {g' : Goroutine} {es : Array Event} {main main' : Bool} (h : FRel P F np ρ a b) (hs : FsRel P F np ρ as bs) (hc : Chain B F a as) (H : HRel ρ u w)
    (hm : a.mode = .run) (hgo : stepG P main (G a (as ++ KA)) u = .go g' u' es) (hnp : ∀ ch, g'.frame.mode ≠ .panicking ch) (hT : Agree u u' w) :
    Image P F B np ρ u w u' g' KA KB (stepG P main' (G b (bs ++ KB)) w) := by
  have hmb : b.mode = .run := by rw [h.eq]; exact hm
  have hrb : b.roundOf = none := by rw [h.eq]; exact h.ok.round
  have hra := h.ok.round
  rw [stepG_run hm] at hgo
  rw [stepG_run hmb]
  have hok := h.ok.ok
  obtain ⟨fn₀, tmps, todo₀, dfs₀, mode₀, kind₀, ro₀⟩ := a
  obtain ⟨fn, tmps', todo, dfs, mode, kind, ro⟩ := b
  have heq := h.eq
  simp only [Frame.mk.injEq] at heq
  obtain ⟨rfl, -, rfl, rfl, rfl, rfl, rfl⟩ := heq
  simp only at hm hra hok
  subst hm hra
  have tail : ∀ {x : Item} {k : List Item}, todo = x :: k → ∀ it ∈ k, itemOk P F (np fn) it = true := fun e it hit => hok it (by rw [e]; simp [hit])
  have both : ∀ {k : List Item} {x : Item}, itemOk P F (np fn) x = true → (∀ it ∈ k, itemOk P F (np fn) it = true) → ∀ it ∈ x :: k, itemOk P F (np fn) it = true := fun h1 h2 it hit => by
    rcases List.mem_cons.1 hit with rfl | hit
    · exact h1
    · exact h2 it hit
  cases todo with
  | nil =>
    simp only [stepG.exec] at hgo ⊢
    exact image_move h hs hc H [] .returning (.inr rfl) (by simp) rfl hgo rfl
  | cons x k =>
    have hx := hok x (by simp)
    have hk := tail rfl
    cases x with
    | code c =>
      cases c with
      | skip => simp only [stepG.exec] at hgo ⊢; exact image_move h hs hc H k .run (.inl rfl) hk rfl hgo rfl
      | label l => simp only [stepG.exec] at hgo ⊢; exact image_move h hs hc H k .run (.inl rfl) hk rfl hgo rfl
      | ret => simp only [stepG.exec] at hgo ⊢; exact image_move h hs hc H _ .returning (.inr rfl) hok rfl hgo rfl
      | seq p q =>
        simp only [itemOk, codeOk, Bool.and_eq_true] at hx
        simp only [stepG.exec] at hgo ⊢
        exact image_move h hs hc H (.code p :: .code q :: k) .run (.inl rfl) (both hx.1 (both hx.2 hk)) rfl hgo rfl
      | cond c p q =>
        simp only [itemOk, codeOk, Bool.and_eq_true] at hx
        have he := h.evalD c hx.1.1
        simp only [stepG.exec] at hgo ⊢
        rw [he.1]
        cases hv : Frame.eval { fn, tmps, todo := .code (.cond c p q) :: k, defers := dfs, mode := .run, kind, roundOf := none } c with
        | bool t =>
          rw [hv] at hgo
          exact image_move h hs hc H (.code (if t then p else q) :: k) .run (.inl rfl) (both (by cases t; exact hx.2; exact hx.1.2) hk) rfl hgo rfl
        | _ => rw [hv] at hgo; simp at hgo
      | block id c => simp only [stepG.exec] at hgo ⊢; exact image_move h hs hc H (.code c :: .inBlock id :: k) .run (.inl rfl) (both hx (both rfl hk)) rfl hgo rfl
      | loop c => simp only [stepG.exec] at hgo ⊢; exact image_move h hs hc H (.code c :: .inLoop c :: k) .run (.inl rfl) (both hx (both hx hk)) rfl hgo rfl
      | scope c => simp only [stepG.exec] at hgo ⊢; exact image_move h hs hc H (.code c :: .inScope c :: k) .run (.inl rfl) (both hx (both hx hk)) rfl hgo rfl
      | exit id =>
        simp only [stepG.exec] at hgo ⊢
        cases he : exitTo id k with
        | none => rw [he] at hgo; simp at hgo
        | some k' =>
          rw [he] at hgo
          exact image_move h hs hc H k' .run (.inl rfl) (exitTo_ok he hk) rfl hgo rfl
      | region id ops draw =>
        cases draw with
        | false => simp only [stepG.exec] at hgo ⊢; exact image_move h hs hc H (.inRegion ops (List.range ops.size) :: k) .run (.inl rfl) (both hx hk) rfl hgo rfl
        | true =>
          simp only [stepG.exec, choose, Sem.run, Question.forced, Bool.false_eq_true, if_false] at hgo ⊢
          have hgo := (GStep.go.injEq _ _ _ _ _ _).mp hgo
          obtain ⟨rfl, rfl, -⟩ := hgo
          have h0 := hT 0 (.order fn id) (by simp)
          simp only [Nat.add_zero] at h0
          rw [← h0]
          exact ⟨ρ, _, _, as, bs, _, #[], rfl, rfl, .refl _, h.move _ .run (.inl rfl) (both hx hk), hs, chain_fn (a := { fn, tmps, todo := .code (.region id ops true) :: k, defers := dfs, mode := .run, kind, roundOf := none }) rfl hc, ⟨H.size, H.inj, H.low, H.row⟩, by simp only; omega, ⟨rfl, rfl, rfl, by simp, fun i h1 h2 => by omega, fun _ _ _ => rfl⟩, fun e he => by simp at he, Nat.le_succ _, rfl⟩
      | rangeFunc _ _ _ _ => simp [itemOk, codeOk] at hx
      | goto _ => simp [itemOk, codeOk] at hx
      | refuse _ => simp [itemOk, codeOk] at hx
    | inBlock id => simp only [stepG.exec] at hgo ⊢; exact image_move h hs hc H k .run (.inl rfl) hk rfl hgo rfl
    | inLoop c => simp only [stepG.exec] at hgo ⊢; exact image_move h hs hc H (.code c :: .inLoop c :: k) .run (.inl rfl) (both hx (both hx hk)) rfl hgo rfl
    | inScope c => simp only [stepG.exec] at hgo ⊢; exact image_move h hs hc H k .run (.inl rfl) hk rfl hgo rfl
    | inRegion ops order =>
      cases order with
      | nil => simp only [stepG.exec] at hgo ⊢; exact image_move h hs hc H k .run (.inl rfl) hk rfl hgo rfl
      | cons i rest =>
        have hy := yielded_eq ops h.tmps
        simp only [itemOk] at hx
        simp only [stepG.exec] at hgo ⊢
        have hyf : yielded ops tmps' = yielded ops tmps := funext hy
        rw [hyf]
        by_cases hw : ((ops[i]?).map (Region.wanted · (yielded ops tmps))).getD false = true
        · rw [if_pos hw] at hgo ⊢
          cases ho : ops[i]? with
          | none => rw [ho] at hw; simp at hw
          | some o =>
            have hoo : opOk P F (np fn) o = true := by
              obtain ⟨hi, rfl⟩ := Array.getElem?_eq_some_iff.1 ho
              rw [Array.all_eq_true] at hx
              exact hx i hi
            simp only [stepG.oper, Frame.oper?, ho] at hgo ⊢
            exact step_oper (main := main) (main' := main') S h hs hc H rfl ho hoo hgo hnp hT
        · rw [if_neg hw] at hgo ⊢
          simp only [GStep.go.injEq] at hgo
          obtain ⟨rfl, rfl, -⟩ := hgo
          exact ⟨ρ, _, _, as, bs, _, #[], rfl, rfl, .refl _, h.finish rfl (.same .undef) (fun _ => .undef), hs, chain_fn (a := { fn, tmps, todo := .inRegion ops (i :: rest) :: k, defers := dfs, mode := .run, kind, roundOf := none }) (finish_keeps rfl undef) hc, H, rfl, .refl _ _, fun e he => by simp at he, Nat.le_refl _, rfl⟩
    | inRangeFunc _ => simp [itemOk] at hx
    | endRangeFunc _ => simp [itemOk] at hx
    | beginRound => simp [itemOk] at hx
    | call _ _ _ _ => simp [itemOk] at hx
    | extern _ _ => simp [itemOk] at hx

/-! ### the return to a caller -/
theorem FRel.finishAny {a b : Frame} (h : FRel P F np ρ a b) {v : Value} (hv : Closed v) : FRel P F np ρ (a.finish v) (b.finish v) := by
  have hb : b.todo = a.todo := by rw [h.eq]
  have hok := h.ok.ok
  cases ht : a.todo with
  | nil => unfold Frame.finish; rw [ht, hb, ht]; exact h
  | cons x k =>
    rw [ht] at hok
    have hx := hok x (by simp)
    cases x with
    | inRegion ops order =>
      cases order with
      | nil => unfold Frame.finish; rw [ht, hb, ht]; exact h
      | cons i rest => exact h.finish ht (.same hv) fun _ => hv
    | code c => unfold Frame.finish; rw [ht, hb, ht]; exact h
    | inBlock c => unfold Frame.finish; rw [ht, hb, ht]; exact h
    | inLoop c => unfold Frame.finish; rw [ht, hb, ht]; exact h
    | inScope c => unfold Frame.finish; rw [ht, hb, ht]; exact h
    | inRangeFunc _ => simp [itemOk] at hx
    | endRangeFunc _ => simp [itemOk] at hx
    | beginRound => simp [itemOk] at hx
    | call _ _ _ _ => simp [itemOk] at hx
    | extern _ _ => simp [itemOk] at hx
theorem finishAny_fn (a : Frame) (v : Value) : (a.finish v).fn = a.fn := by
  unfold Frame.finish
  split <;> rfl

theorem srel_mapM {α : Type} (xs : Array α) (f f' : α → Sem Value) (c : Bool) (h : ∀ x ∈ xs, ∀ ρ', Ext ρ ρ' → SRel P (Out c) ρ' (f x) (f' x)) :
    SRel P (fun ρ' a b => CRel ρ' a b ∧ (c = true → AllClosed a)) ρ (xs.mapM f) (xs.mapM f') := by
  rw [Array.mapM_eq_mapM_toList, Array.mapM_eq_mapM_toList]
  have key : ∀ (l : List α) (ρ' : Array Nat), Ext ρ ρ' → (∀ x ∈ l, ∀ ρ', Ext ρ ρ' → SRel P (Out c) ρ' (f x) (f' x)) → SRel P (fun ρ' (a b : List Value) => CRel ρ' a.toArray b.toArray ∧ (c = true → ∀ x ∈ a, Closed x)) ρ' (l.mapM f) (l.mapM f') := by
    intro l
    induction l with
    | nil => intro ρ' _ _; exact srel_pure ⟨⟨rfl, fun i hi _ => absurd hi (by simp)⟩, by simp⟩
    | cons x l ih =>
      intro ρ' e hl
      rw [List.mapM_cons, List.mapM_cons]
      refine srel_bind (hl x (by simp) ρ' e) fun ρ1 a b e1 hab => ?_
      refine srel_bind (ih ρ1 (e.trans e1) fun y hy => hl y (by simp [hy])) fun ρ2 as bs e2 hs => ?_
      refine srel_pure ⟨⟨by have := hs.1.1; simpa using this, fun i ha hb => ?_⟩, fun hc y hy => ?_⟩
      · cases i with
        | zero => exact hab.1.ext e2
        | succ i => exact hs.1.2 i (by simpa using ha) (by simpa using hb)
      · rcases List.mem_cons.1 hy with rfl | hy
        · exact hab.2 hc
        · exact hs.2 hc y hy
  refine srel_bind (key xs.toList ρ (.refl _) fun x hx => h x (by simpa using hx)) fun ρ' a b e hab => ?_
  refine srel_pure ⟨hab.1, fun hc i hi => ?_⟩
  exact hab.2 hc _ (by simp)

theorem srel_results {fn : Func} {npf : Nat → Bool} {c : Bool} (hc : c = true → fn.results.all (resOk npf) = true) {ts ts' : Array Value} (h : CRel ρ ts ts') (hcl : ∀ (t : Nat) v, npf t = true → ts[t]? = some v → Closed v) :
    SRel P (Out c) ρ (results fn ts) (results fn ts') := by
  unfold results
  refine srel_bind (srel_mapM fn.results _ _ c fun x hx ρ' e => ?_) fun ρ' a b e hab => ?_
  · cases x with
    | tmp t =>
      refine srel_pure ⟨(h.ext e).getD t, fun hct => ?_⟩
      have := hc hct
      rw [Array.all_eq_true] at this
      obtain ⟨i, hi, he⟩ := Array.mem_iff_getElem.1 hx
      have := this i hi
      rw [he] at this
      rw [Array.getD_eq_getD_getElem?]
      cases hv : ts[t]? with
      | none => exact .undef
      | some v => exact hcl t v this hv
    | cell t ty =>
      have hr := (h.ext e).getD t
      have ha : SRel P (fun ρ'' a b => AddrRel ρ'' a b) ρ' (asAddr (ts.getD t undef)) (asAddr (ts'.getD t undef)) := by
        generalize ts.getD t undef = v at hr
        generalize ts'.getD t undef = v' at hr
        cases hr with
        | same h =>
          cases h <;> first | exact srel_stuck | skip
          show SRel P _ ρ' (runtimePanic .nilDeref) _
          unfold runtimePanic
          exact srel_bind srel_program fun _ _ _ _ _ => srel_panic
        | ptr h => exact srel_pure h
        | slice n c h => exact srel_stuck
        | tuple _ _ => exact srel_stuck
      refine srel_bind ha fun ρ'' p q e' hpq => (srel_loadVar ty hpq).mono fun ρ3 x y _ hx => ?_
      obtain ⟨rfl, hx⟩ := hx
      exact ⟨.same hx, fun _ => hx⟩
  · have hsz := hab.1.1
    by_cases h1 : a.size = 1
    · have h2 : b.size = 1 := by omega
      rw [dif_pos h1, dif_pos h2]
      exact srel_pure ⟨hab.1.2 0 (by omega) (by omega), fun hct => hab.2 hct 0 (by omega)⟩
    · have h2 : b.size ≠ 1 := by omega
      rw [dif_neg h1, dif_neg h2]
      exact srel_pure ⟨.tuple hab.1.1 hab.1.2, fun hct => .tuple (hab.2 hct)⟩

/-- A FUNCTION HANDS ITS RESULTS TO THE ONE THAT CALLED IT. -/
theorem step_ret (S : Setup P F B np) {a b c d : Frame} {as bs : List Frame} {u w u' : World} {KA KB : List Frame} {g' : Goroutine} {es : Array Event} {main main' : Bool} (h : FRel P F np ρ a b) (hs : FsRel P F np ρ (c :: as) (d :: bs)) (hc : Chain B F a (c :: as)) (H : HRel ρ u w)
    (hm : a.mode = .returning) (hgo : stepG P main (G a (c :: as ++ KA)) u = .go g' u' es) (hT : Agree u u' w) :
    Image P F B np ρ u w u' g' KA KB (stepG P main' (G b (d :: bs ++ KB)) w) := by
  have hbf : B a.fn = true ∧ F a.fn = true := by simpa using hc.1
  obtain ⟨fn, cd, hf, _, _, hre⟩ := S.body a.fn hbf.1
  have hmb : b.mode = .returning := by rw [h.eq]; exact hm
  have hda := h.ok.defers
  have hdb : b.defers = [] := by rw [h.eq]; exact hda
  have hka := h.ok.kind
  have hkb : b.kind = .normal := by rw [h.eq]; exact hka
  have hfb : P.funcs[b.fn]? = some fn := by rw [h.eq]; exact hf
  have hfn : b.fn = a.fn := by rw [h.eq]
  have hsr := srel_results (P := P) (fn := fn) (npf := np a.fn) (c := true) (fun _ => hre hbf.2) h.tmps h.ok.cl
  simp only [G, stepG, hm, unwind, hda, hf, Sem.runT_eq] at hgo
  cases hr : (results fn a.tmps).run P u with
  | halt x u₁ =>
    exfalso
    rw [hr] at hgo
    cases x <;> simp [GStep.after] at hgo
  | ok v u₁ =>
    rw [hr] at hgo
    simp only [doReturn, hka, GStep.after, GStep.go.injEq, List.cons_append] at hgo
    obtain ⟨rfl, rfl, -⟩ := hgo
    obtain ⟨ρ', v', w', es', e1, e2, e3, e4, e5, e6, e7⟩ := hsr.sound u w #[] v u₁ H hr hT
    have hd := hsr.drawn u w v u₁ H hr
    have hv : v' = v := e3.1.eq_of_closed (e3.2 rfl)
    subst hv
    cases hs with
    | cons hcd hs =>
      refine ⟨ρ', c.finish v', d.finish v', as, bs, w', seen P b.fn es' ++ #[], rfl, ?_, e1, (hcd.ext e1).finishAny (e3.2 rfl), hs.ext e1, ?_, e4, e5, e6, fun e he => ?_, hd.1, hd.2⟩
      · simp only [G, stepG, hmb, unwind, hdb, hfb, e2, doReturn, hkb, GStep.after, List.cons_append]
      · exact chain_fn (finishAny_fn c v') hc.2
      · have he : e ∈ seen P b.fn es' := by simpa using he
        rcases e7 e (mem_seen he) with h | h
        · simp at h
        · exact h
end
end Go.Proofs.Ytmhbjmkdekgmlaa.Sim
