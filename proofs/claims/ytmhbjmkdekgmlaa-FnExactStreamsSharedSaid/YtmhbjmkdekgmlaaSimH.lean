/-
  A run of one goroutine alone and its image in company: what is said of a call on every tape, step by step ('Fin').
  Condition: 'Setup'.
-/
import Derived.Test.YtmhbjmkdekgmlaaSimG
set_option linter.unusedSimpArgs false
set_option linter.unusedVariables false
namespace Go.Proofs.Ytmhbjmkdekgmlaa.Sim
open Go Go.Conc
variable {P : Program} {F B : FuncId → Bool} {np : FuncId → Nat → Bool}

/-! ### the lone machine's step -/
theorem lone_go {a a' : Frame} {cs cs' : List Frame} {u u' : World} {es : Array Event} (h : stepG P true (G a cs) u = .go (G a' cs') u' es) : step P (lone a cs u) = .next (lone a' cs' u') :=
  step_lone_go (by
    show (stepG P true (G a cs) u).bare = _
    rw [h]; rfl)
theorem lone_ended {a : Frame} {cs : List Frame} {u u' : World} {o : Outcome} {es : Array Event} (h : stepG P true (G a cs) u = .ended o u' es) : step P (lone a cs u) = .ended o u' :=
  step_lone_ended (by
    show (stepG P true (G a cs) u).bare = _
    rw [h]; rfl)
theorem lone_inj {a a' : Frame} {cs cs' : List Frame} {u u' : World} (h : lone a cs u = lone a' cs' u') : a = a' ∧ cs = cs' ∧ u = u' := by
  simp only [lone, Machine.mk.injEq, Array.mk.injEq, List.cons.injEq, Goroutine.mk.injEq] at h
  exact ⟨h.2.1.1.1, h.2.1.1.2.1, h.1⟩

/-- What a step of such a goroutine can be. -/
def Kind (a : Frame) (cs : List Frame) (s : GStep) : Prop :=
  (∃ a' cs' u' es, s = .go (G a' cs') u' es ∧ ((∀ ch, a'.mode ≠ .panicking ch) ∨ (∃ ch, a' = a.raise ch ∧ cs' = cs))) ∨ ∃ o w es, s = .ended o w es

theorem kind_run (S : Setup P F B np) {a : Frame} {cs : List Frame} {u : World} {main : Bool} (h : FRel P F np (idT u.heap.size) a a) (H : HRel (idT u.heap.size) u u) (hm : a.mode = .run) : Kind a cs (stepG P main (G a cs) u) := by
  rw [stepG_run hm]
  have hok := h.ok.ok
  have hra := h.ok.round
  have hka := h.ok.kind
  have hev := h.eval
  have hevD := h.evalD
  obtain ⟨fn, tmps, todo, dfs, mode, kind, ro⟩ := a
  simp only at hm hra hok hka
  subst hm hra hka
  have go1 : ∀ {a' : Frame} {u' : World} {es : Array Event} {s : GStep}, (∀ ch, a'.mode ≠ .panicking ch) → s = .go (G a' cs) u' es → Kind { fn, tmps, todo, defers := dfs, mode := .run, kind := .normal, roundOf := none } cs s := fun h1 h2 => .inl ⟨_, _, _, _, h2, .inl h1⟩
  cases todo with
  | nil => exact go1 (by simp) rfl
  | cons x k =>
    have hx := hok x (by simp)
    cases x with
    | code c =>
      cases c with
      | skip => exact go1 (by simp) rfl
      | label l => exact go1 (by simp) rfl
      | ret => exact go1 (by simp) rfl
      | seq p q => exact go1 (by simp) rfl
      | cond c p q =>
        simp only [stepG.exec]
        cases hv : Frame.eval { fn, tmps, todo := .code (.cond c p q) :: k, defers := dfs, mode := .run, kind := .normal, roundOf := none } c with
        | bool t => exact go1 (by simp) rfl
        | _ => exact .inr ⟨_, _, _, rfl⟩
      | block id c => exact go1 (by simp) rfl
      | loop c => exact go1 (by simp) rfl
      | scope c => exact go1 (by simp) rfl
      | exit id =>
        simp only [stepG.exec]
        cases he : exitTo id k with
        | none => exact .inr ⟨_, _, _, rfl⟩
        | some k' => exact go1 (by simp) rfl
      | region id ops draw =>
        cases draw with
        | false => exact go1 (by simp) rfl
        | true =>
          simp only [stepG.exec, choose, Sem.run, Question.forced, Bool.false_eq_true, if_false]
          exact go1 (by simp) rfl
      | rangeFunc _ _ _ _ => simp [itemOk, codeOk] at hx
      | goto _ => simp [itemOk, codeOk] at hx
      | refuse _ => simp [itemOk, codeOk] at hx
    | inBlock id => exact go1 (by simp) rfl
    | inLoop c => exact go1 (by simp) rfl
    | inScope c => exact go1 (by simp) rfl
    | inRegion ops order =>
      cases order with
      | nil => exact go1 (by simp) rfl
      | cons i rest =>
        simp only [itemOk] at hx
        simp only [stepG.exec]
        split
        · rename_i hw
          cases ho : ops[i]? with
          | none => rw [ho] at hw; simp at hw
          | some o =>
            have hoo : opOk P F (np fn) o = true := by
              obtain ⟨hi, rfl⟩ := Array.getElem?_eq_some_iff.1 ho
              rw [Array.all_eq_true] at hx
              exact hx i hi
            simp only [stepG.oper, Frame.oper?, ho]
            generalize hev0 : Frame.eval { fn, tmps, todo := .inRegion ops (i :: rest) :: k, defers := dfs, mode := .run, kind := .normal, roundOf := none } = ev at hev hevD
            have hsr := srel_exec (P := P) (F := F) (B := fun f => B f && F f) (np := np fn) (ev := ev) (ev' := ev) (ρ := idT u.heap.size) S.call (fun f => by subst hev0; exact ⟨rfl, rfl⟩) hev hevD hoo
            cases hr : (execOp ev o).run P u with
            | halt x u₁ =>
              have hd := hsr.halts u u x u₁ H hr
              simp only [stepG.apply, Sem.runT_eq, hr, if_true]
              cases x <;> simp only [dead, Bool.false_eq_true] at hd
              · exact .inl ⟨_, _, _, _, rfl, .inr ⟨_, rfl, rfl⟩⟩
              · rename_i un
                cases un <;> simp only [Bool.false_eq_true] at hd <;> exact .inr ⟨_, _, _, rfl⟩
              · exact .inr ⟨_, _, _, rfl⟩
            | ok r u₁ =>
              obtain ⟨ρ', r', w', es', e1, e2, e3, -⟩ := hsr.sound u { u with tape := fun n q => u.tape (n - u.drawn + u.drawn) q } #[] r u₁ ⟨H.size, H.inj, H.low, H.row⟩ hr (fun i q _ => by simp [Nat.add_comm])
              simp only [stepG.apply, Sem.runT_eq, hr, if_true]
              cases r <;> cases r' <;> simp only [NOut] at e3
              · exact go1 (by simp [Frame.finish]) rfl
              · exact go1 (by simp [Frame.finish]) rfl
              · refine .inl ⟨_, _, _, _, rfl, .inl ?_⟩
                simp [Frame.enter]
        · exact go1 (by simp [Frame.finish]) rfl
    | inRangeFunc _ => simp [itemOk] at hx
    | endRangeFunc _ => simp [itemOk] at hx
    | beginRound => simp [itemOk] at hx
    | call _ _ _ _ => simp [itemOk] at hx
    | extern _ _ => simp [itemOk] at hx

theorem kind_ret {a c : Frame} {cs : List Frame} {u : World} {main : Bool} (h : FOk P F np a) (hm : a.mode = .returning) :
    (∃ v u' es, stepG P main (G a (c :: cs)) u = .go (G (c.finish v) cs) u' es) ∨ ∃ o w es, stepG P main (G a (c :: cs)) u = .ended o w es := by
  simp only [G, stepG, hm, unwind, h.defers]
  cases hf : P.funcs[a.fn]? with
  | none => exact .inl ⟨_, _, _, by simp only [doReturn, h.kind]; rfl⟩
  | some fn =>
    simp only [Sem.runT_eq]
    cases hr : (results fn a.tmps).run P u with
    | halt x u₁ => cases x <;> exact .inr ⟨_, _, _, rfl⟩
    | ok v u₁ => exact .inl ⟨_, _, _, by simp only [doReturn, h.kind]; rfl⟩

/-! ### no way back out of a panic -/
def Calm (P : Program) (a : Frame) : Prop := a.defers = [] ∧ a.catches P = false
theorem FOk.calm {a : Frame} (h : FOk P F np a) : Calm P a := by
  refine ⟨h.defers, ?_⟩
  unfold Frame.catches
  split
  · rename_i k _ _ _ _ ht
    have := h.ok (.call ..) (by rw [ht]; exact List.mem_cons_self ..)
    simp [itemOk] at this
  · rfl
theorem Calm.raise {a : Frame} (h : Calm P a) (ch : List PanicEntry) : Calm P (a.raise ch) := by
  unfold Frame.raise
  split <;> exact h
theorem raise_mode (a : Frame) (ch : List PanicEntry) : ∃ ch', (a.raise ch).mode = .panicking ch' := by
  unfold Frame.raise
  split <;> exact ⟨_, rfl⟩

theorem trap_catches (ch : List PanicEntry) : ((trap P).raise ch).catches P = true := by
  have : P.funcs[P.funcs.size]? = none := Array.getElem?_eq_none (Nat.le_refl _)
  unfold Frame.raise trap Frame.catches
  simp only [this]
  decide +kernel
theorem trap_raised (ch : List PanicEntry) (u : World) : ∃ o w es, stepG P true (G ((trap P).raise ch) []) u = .ended o w es := by
  obtain ⟨ch', hm⟩ := raise_mode (trap P) ch
  have hd : ((trap P).raise ch).defers = [] := by unfold Frame.raise; split <;> rfl
  simp only [G, stepG, hm, unwind, hd, trap_catches, if_true]
  exact ⟨_, _, _, rfl⟩
theorem trap_back (v : Value) (u : World) : ∃ o w es, stepG P true (G ((trap P).finish v) []) u = .ended o w es := by
  have : (trap P).finish v = { fn := P.funcs.size, tmps := #[], todo := [.extern "fmt's door, shut" #[v]], defers := [], mode := .run, kind := .normal } := rfl
  rw [this, stepG_run rfl]
  simp only [stepG.exec]
  exact ⟨_, _, _, by rw [next_shut]; rfl⟩

theorem doom : ∀ (n : Nat) (a : Frame) (l : List Frame) (u : World), (∃ ch, a.mode = .panicking ch) → Calm P a → (∀ c ∈ l, Calm P c) → ∀ (fr : Frame) (w : World), fr.mode = .returning → runN P n (lone a (l ++ [trap P]) u) ≠ .next (lone fr [trap P] w) := by
  intro n
  induction n with
  | zero =>
    intro a l u ⟨ch, hm⟩ _ _ fr w hr he
    simp only [runN, Stepped.next.injEq] at he
    obtain ⟨rfl, _, _⟩ := lone_inj he
    rw [hr] at hm; cases hm
  | succ n ih =>
    intro a l u ⟨ch, hm⟩ hc hl fr w hr he
    have hgo : ∀ (c : Frame) (cs : List Frame), stepG P true (G a (c :: cs)) u = .go (G (c.raise ch) cs) u #[] := by
      intro c cs
      simp only [G, stepG, hm, unwind, hc.1, hc.2, Bool.false_eq_true, if_false]
    cases l with
    | nil =>
      simp only [List.nil_append] at he
      rw [runN, lone_go (hgo _ _)] at he
      cases n with
      | zero =>
        simp only [runN, Stepped.next.injEq] at he
        obtain ⟨_, h, _⟩ := lone_inj he
        simp at h
      | succ n =>
        obtain ⟨o, w', es, h⟩ := trap_raised (P := P) ch u
        simp only at he
        rw [runN, lone_ended h] at he
        cases he
    | cons c l =>
      simp only [List.cons_append] at he
      rw [runN, lone_go (hgo _ _)] at he
      exact ih _ l u (raise_mode c ch) ((hl c (by simp)).raise ch) (fun x hx => hl x (by simp [hx])) fr w hr he

/-- Nor behind the return of the lowest. -/
theorem past_base {n : Nat} {v : Value} {u w : World} {fr : Frame} : runN P n (lone ((trap P).finish v) [] u) ≠ .next (lone fr [trap P] w) := by
  intro he
  cases n with
  | zero =>
    simp only [runN, Stepped.next.injEq] at he
    obtain ⟨_, h, _⟩ := lone_inj he
    simp at h
  | succ n =>
    obtain ⟨o, w', es, h⟩ := trap_back (P := P) v u
    rw [runN, lone_ended h] at he
    cases he

/-! ### one step on, on this tape and on those that agree with it -/
/-- ONE STEP AND ITS IMAGE: the lowest frame's return alone is left out. -/
theorem step_any (S : Setup P F B np) {ρ : Array Nat} {a b : Frame} {as bs : List Frame} {u w u' : World} {KA KB : List Frame} {g' : Goroutine} {es : Array Event} {main main' : Bool} (h : FRel P F np ρ a b) (hs : FsRel P F np ρ as bs) (hc : Chain B F a as) (H : HRel ρ u w)
    (hn : ¬ (a.mode = .returning ∧ as = [])) (hgo : stepG P main (G a (as ++ KA)) u = .go g' u' es) (hnp : ∀ ch, g'.frame.mode ≠ .panicking ch) (hT : Agree u u' w) :
    Image P F B np ρ u w u' g' KA KB (stepG P main' (G b (bs ++ KB)) w) := by
  rcases h.ok.mode with hm | hm
  · exact step_run S h hs hc H hm hgo hnp hT
  · cases as with
    | nil => exact absurd ⟨hm, rfl⟩ hn
    | cons c as =>
      cases hs with
      | cons hcd hs => exact step_ret S h (.cons hcd hs) hc H hm hgo hT

theorem self_step (S : Setup P F B np) {a : Frame} {as : List Frame} {u u' : World} {g' : Goroutine} {es : Array Event} (hs : Self P F B np a as u) (hn : ¬ (a.mode = .returning ∧ as = [])) (hgo : stepG P true (G a (as ++ [trap P])) u = .go g' u' es) (hnp : ∀ ch, g'.frame.mode ≠ .panicking ch) :
    ∃ a' as', g' = G a' (as' ++ [trap P]) ∧ Self P F B np a' as' u' ∧ u.drawn ≤ u'.drawn ∧ u'.tape = u.tape ∧
      ∀ τ, (∀ i q, u.drawn ≤ i → i < u'.drawn → u.tape i q = τ i q) → ∃ es, stepG P true (G a (as ++ [trap P])) (tp u τ) = .go (G a' (as' ++ [trap P])) (tp u' τ) es := by
  have hI := step_any (main' := true) (KB := [trap P]) S hs.fr hs.frs hs.chain hs.heap hn hgo hnp (fun i q _ => rfl)
  have hu : u'.os = u.os ∧ u'.output = u.output := by
    obtain ⟨ρ', a', b', as', bs', w', es', h1, h2, h3, h4, h5, h6, h7, h8, h9, _⟩ := hI.out
    rw [hgo] at h2
    simp only [GStep.go.injEq] at h2
    obtain ⟨_, rfl, _⟩ := h2
    exact ⟨h9.os, h9.output⟩
  obtain ⟨a', as', es', h1, h2, h3, h4, h5⟩ := image_self rfl rfl rfl rfl hu hI
  refine ⟨a', as', h1, h3, h4, h5, fun τ hτ => ?_⟩
  have hH : HRel (idT u.heap.size) u (tp u τ) := ⟨hs.heap.size, hs.heap.inj, hs.heap.low, hs.heap.row⟩
  have hJ := step_any (w := tp u τ) (main' := true) (KB := [trap P]) S hs.fr hs.frs hs.chain hH hn hgo hnp (fun i q hi => hτ _ q (Nat.le_add_right _ _) hi)
  obtain ⟨a₂, as₂, es₂, k1, k2, -⟩ := image_self (u := u) (w := tp u τ) rfl rfl rfl rfl hu hJ
  have e := h1.symm.trans k1
  simp only [G, Goroutine.mk.injEq] at e
  obtain ⟨rfl, e, -⟩ := e
  obtain rfl := List.append_cancel_right e
  exact ⟨es₂, k2⟩

/-! ### what a contract says of every tape -/
def Back (P : Program) (R : Value → World → Prop) (fr : Frame) (w : World) : Prop := ∃ v, fr.leaving P w (.returned v) ∧ R v w
/-- Where the lowest frame is about to hand its results back. -/
def Low (P : Program) (R : Value → World → Prop) (fr : Frame) (w : World) : Prop := ∃ τ, Back P R fr (tp w τ)

theorem advance (S : Setup P F B np) {n : Nat} {a fr : Frame} {as : List Frame} {u w' : World} (hs : Self P F B np a as u) (hr : runN P n (lone a (as ++ [trap P]) u) = .next (lone fr [trap P] w')) (hfr : fr.mode = .returning) :
    (n = 0 ∧ as = [] ∧ a = fr ∧ u = w') ∨ ∃ m a' as' u', n = m + 1 ∧ ¬ (a.mode = .returning ∧ as = []) ∧ (∃ es, stepG P true (G a (as ++ [trap P])) u = .go (G a' (as' ++ [trap P])) u' es) ∧ Self P F B np a' as' u' ∧ u.drawn ≤ u'.drawn ∧ u'.tape = u.tape ∧
      (∀ τ, (∀ i q, u.drawn ≤ i → i < u'.drawn → u.tape i q = τ i q) → ∃ es, stepG P true (G a (as ++ [trap P])) (tp u τ) = .go (G a' (as' ++ [trap P])) (tp u' τ) es) ∧
      runN P m (lone a' (as' ++ [trap P]) u') = .next (lone fr [trap P] w') := by
  cases n with
  | zero =>
    simp only [runN, Stepped.next.injEq] at hr
    obtain ⟨rfl, h, rfl⟩ := lone_inj hr
    refine .inl ⟨rfl, ?_, rfl, rfl⟩
    cases as with
    | nil => rfl
    | cons c l => simp at h
  | succ m =>
    right
    have fin : ∀ g' u' es, stepG P true (G a (as ++ [trap P])) u = .go g' u' es → (∃ a' cs', g' = G a' cs') → ¬ (a.mode = .returning ∧ as = []) → (∀ ch, g'.frame.mode ≠ .panicking ch) → ∃ m₁ a' as' u', m + 1 = m₁ + 1 ∧ ¬ (a.mode = .returning ∧ as = []) ∧ (∃ es, stepG P true (G a (as ++ [trap P])) u = .go (G a' (as' ++ [trap P])) u' es) ∧ Self P F B np a' as' u' ∧ u.drawn ≤ u'.drawn ∧ u'.tape = u.tape ∧
      (∀ τ, (∀ i q, u.drawn ≤ i → i < u'.drawn → u.tape i q = τ i q) → ∃ es, stepG P true (G a (as ++ [trap P])) (tp u τ) = .go (G a' (as' ++ [trap P])) (tp u' τ) es) ∧
      runN P m₁ (lone a' (as' ++ [trap P]) u') = .next (lone fr [trap P] w') := by
      intro g' u' es hgo hg hn hnp
      obtain ⟨a', as', rfl, k1, k2, k3, k4⟩ := self_step S hs hn hgo hnp
      refine ⟨m, a', as', u', rfl, hn, ⟨es, hgo⟩, k1, k2, k3, k4, ?_⟩
      rw [runN, lone_go hgo] at hr
      exact hr
    have calm : ∀ l, FsRel P F np (idT u.heap.size) l l → ∀ c ∈ l, Calm P c := by
      intro l
      induction l with
      | nil => simp
      | cons x l ih =>
        intro h c hc
        cases h with
        | cons h1 h2 =>
          rcases List.mem_cons.1 hc with rfl | hc
          · exact h1.ok.calm
          · exact ih h2 c hc
    rcases hs.fr.ok.mode with hm | hm
    · have hn : ¬ (a.mode = .returning ∧ as = []) := fun h => by rw [hm] at h; cases h.1
      rcases kind_run (main := true) (cs := as ++ [trap P]) S hs.fr hs.heap hm with ⟨a', cs', u', es, hgo, hk⟩ | ⟨o, w, es, hgo⟩
      · rcases hk with hk | ⟨ch, rfl, rfl⟩
        · exact fin _ _ _ hgo ⟨_, _, rfl⟩ hn hk
        · rw [runN, lone_go hgo] at hr
          exact absurd hr (doom m _ as u' (raise_mode a ch) (hs.fr.ok.calm.raise ch) (calm as hs.frs) fr w' hfr)
      · rw [runN, lone_ended hgo] at hr
        cases hr
    · cases as with
      | nil =>
        exfalso
        rcases kind_ret (main := true) (c := trap P) (cs := []) (u := u) hs.fr.ok hm with ⟨v, u', es, hgo⟩ | ⟨o, w, es, hgo⟩
        · rw [List.nil_append, runN, lone_go hgo] at hr
          exact past_base hr
        · rw [List.nil_append, runN, lone_ended hgo] at hr
          cases hr
      | cons c l =>
        have hn : ¬ (a.mode = .returning ∧ c :: l = []) := fun h => by cases h.2
        rcases kind_ret (main := true) (c := c) (cs := l ++ [trap P]) (u := u) hs.fr.ok hm with ⟨v, u', es, hgo⟩ | ⟨o, w, es, hgo⟩
        · refine fin _ _ _ hgo ⟨_, _, rfl⟩ hn ?_
          cases hs.frs with
          | cons h1 h2 =>
            intro ch hch
            have : (c.finish v).mode = c.mode := by unfold Frame.finish; split <;> rfl
            simp only [G, this] at hch
            rcases h1.ok.mode with h | h <;> rw [h] at hch <;> cases hch
        · rw [List.cons_append, runN, lone_ended hgo] at hr
          cases hr

theorem future (S : Setup P F B np) : ∀ (n : Nat) {a fr : Frame} {as : List Frame} {u w' : World} (τ : Nat → Question → Nat), Self P F B np a as u → runN P n (lone a (as ++ [trap P]) u) = .next (lone fr [trap P] w') → fr.mode = .returning → (∀ i q, u.drawn ≤ i → u.tape i q = τ i q) →
    runN P n (lone a (as ++ [trap P]) (tp u τ)) = .next (lone fr [trap P] (tp w' τ)) := by
  intro n
  induction n with
  | zero =>
    intro a fr as u w' τ hs hr hfr hτ
    simp only [runN, Stepped.next.injEq] at hr ⊢
    obtain ⟨rfl, h, rfl⟩ := lone_inj hr
    rw [h]
  | succ n ih =>
    intro a fr as u w' τ hs hr hfr hτ
    rcases advance S hs hr hfr with ⟨h, _⟩ | ⟨m, a', as', u', hm, hn, hgo, hs', hd, ht, hall, hr'⟩
    · cases h
    · obtain rfl : n = m := by omega
      obtain ⟨es, hgo'⟩ := hall τ fun i q h1 _ => hτ i q h1
      rw [runN, lone_go hgo']
      exact ih τ hs' hr' hfr fun i q h => by rw [ht]; exact hτ i q (Nat.le_trans hd h)

/-- On every tape the run comes to where the lowest frame hands its results back. -/
def Well (P : Program) (R : Value → World → Prop) (a : Frame) (as : List Frame) (u : World) : Prop := ∀ τ, ∃ n fr w', runN P n (lone a (as ++ [trap P]) (tp u τ)) = .next (lone fr [trap P] w') ∧ fr.mode = .returning ∧ Low P R fr w'

/-- THE TREE OF ALL RUNS: after whatever answers of the tape, one step on, and it has no endless branch. -/
inductive Fin (P : Program) (F B : FuncId → Bool) (np : FuncId → Nat → Bool) (R : Value → World → Prop) : Frame → List Frame → World → Prop
  | done {a : Frame} {u : World} (hs : Self P F B np a [] u) (hm : a.mode = .returning) (h : Low P R a u) : Fin P F B np R a [] u
  | step {a : Frame} {as : List Frame} {u : World} (hs : Self P F B np a as u) (hn : ¬ (a.mode = .returning ∧ as = [])) (nx : (Nat → Question → Nat) → Frame × List Frame × World)
      (h1 : ∀ τ, ∃ es, stepG P true (G a (as ++ [trap P])) (tp u τ) = .go (G (nx τ).1 ((nx τ).2.1 ++ [trap P])) (nx τ).2.2 es) (h2 : ∀ τ, Fin P F B np R (nx τ).1 (nx τ).2.1 (nx τ).2.2) : Fin P F B np R a as u

theorem Fin.self {R : Value → World → Prop} {a : Frame} {as : List Frame} {u : World} (h : Fin P F B np R a as u) : Self P F B np a as u := by cases h <;> assumption

theorem Low.tp {R : Value → World → Prop} {fr : Frame} {w : World} (h : Low P R fr w) (τ : Nat → Question → Nat) : Low P R fr (Sim.tp w τ) := h

theorem fin_of_well (S : Setup P F B np) {R : Value → World → Prop} {a : Frame} {as : List Frame} {u : World} (hs : Self P F B np a as u) (hw : Well P R a as u) : Fin P F B np R a as u := by
  refine Classical.byContradiction fun hne => ?_
  let Bad : Frame × List Frame × World → Prop := fun σ => Self P F B np σ.1 σ.2.1 σ.2.2 ∧ Well P R σ.1 σ.2.1 σ.2.2 ∧ ¬ Fin P F B np R σ.1 σ.2.1 σ.2.2
  have next : ∀ σ : {σ // Bad σ}, ¬ (σ.1.1.mode = .returning ∧ σ.1.2.1 = []) ∧ ∃ (σ' : {σ // Bad σ}) (τ : Nat → Question → Nat), σ.1.2.2.drawn ≤ σ'.1.2.2.drawn ∧
      (∀ τ', (∀ i q, σ.1.2.2.drawn ≤ i → i < σ'.1.2.2.drawn → τ i q = τ' i q) → ∃ es, stepG P true (G σ.1.1 (σ.1.2.1 ++ [trap P])) (tp σ.1.2.2 τ') = .go (G σ'.1.1 (σ'.1.2.1 ++ [trap P])) (tp σ'.1.2.2 τ') es) := by
    rintro ⟨⟨a, as, u⟩, hs, hw, hne⟩
    simp only at hs hw hne ⊢
    by_cases hn : a.mode = .returning ∧ as = []
    · exfalso
      obtain ⟨n, fr, w', hr, hfr, hlow⟩ := hw u.tape
      rcases advance S (hs.tp _) hr hfr with ⟨_, rfl, rfl, hu⟩ | ⟨_, _, _, _, _, h, _⟩
      · refine hne (.done hs hn.1 ?_)
        rw [← hu] at hlow
        exact hlow
      · exact h hn
    · refine ⟨hn, Classical.byContradiction fun hno => ?_⟩
      have key : ∀ τ, ∃ nx : Frame × List Frame × World, (∃ es, stepG P true (G a (as ++ [trap P])) (tp u τ) = .go (G nx.1 (nx.2.1 ++ [trap P])) nx.2.2 es) ∧ Fin P F B np R nx.1 nx.2.1 nx.2.2 := by
        intro τ
        obtain ⟨n, fr, w', hr, hfr, hlow⟩ := hw τ
        rcases advance S (hs.tp _) hr hfr with ⟨_, h1, h2, _⟩ | ⟨m, a', as', u', _, _, hgo, hs', hd, ht, hall, hr'⟩
        · exact absurd ⟨h2 ▸ hfr, h1⟩ hn
        · refine ⟨⟨a', as', u'⟩, hgo, Classical.byContradiction fun hnf => hno ?_⟩
          refine ⟨⟨⟨a', as', u'⟩, hs', fun τ₂ => ?_, hnf⟩, τ, hd, hall⟩
          obtain ⟨es', hgo'⟩ := hall (fun i q => if i < u'.drawn then τ i q else τ₂ i q) fun i q _ h => by simp only [h, if_true]; rfl
          obtain ⟨n₂, fr₂, w₂, hr₂, hfr₂, hlow₂⟩ := hw (fun i q => if i < u'.drawn then τ i q else τ₂ i q)
          rcases advance S (hs.tp _) hr₂ hfr₂ with ⟨_, h1, h2, _⟩ | ⟨m₂, a₂, as₂, u₂, _, _, hgo₂, hs₂, hd₂, ht₂, hall₂, hr₂'⟩
          · exact absurd ⟨h2 ▸ hfr₂, h1⟩ hn
          · obtain ⟨es₂, hgo₂⟩ := hgo₂
            have hgo'' : stepG P true (G a (as ++ [trap P])) (tp u fun i q => if i < u'.drawn then τ i q else τ₂ i q) = .go (G a' (as' ++ [trap P])) (tp u' fun i q => if i < u'.drawn then τ i q else τ₂ i q) es' := hgo'
            have e := hgo₂.symm.trans hgo''
            simp only [GStep.go.injEq, G, Goroutine.mk.injEq] at e
            obtain ⟨⟨rfl, e, -⟩, rfl, -⟩ := e
            obtain rfl := List.append_cancel_right e
            have := future S m₂ τ₂ hs₂ hr₂' hfr₂ fun i q hi => by
              have : ¬ i < u'.drawn := Nat.not_lt.2 hi
              simp only [tp, this, if_false]
            exact ⟨m₂, fr₂, _, this, hfr₂, hlow₂.tp τ₂⟩
      exact hne (.step hs hn (fun τ => (key τ).choose) (fun τ => (key τ).choose_spec.1) fun τ => (key τ).choose_spec.2)
  let nx : {σ // Bad σ} → {σ // Bad σ} := fun σ => (next σ).2.choose
  let seq : Nat → {σ // Bad σ} := fun n => Nat.rec ⟨⟨a, as, u⟩, hs, hw, hne⟩ (fun _ σ => nx σ) n
  let tau : Nat → Nat → Question → Nat := fun n => (next (seq n)).2.choose_spec.choose
  have hmono : ∀ n, (seq n).1.2.2.drawn ≤ (seq (n + 1)).1.2.2.drawn := fun n => (next (seq n)).2.choose_spec.choose_spec.1
  have hstep : ∀ n τ', (∀ i q, (seq n).1.2.2.drawn ≤ i → i < (seq (n + 1)).1.2.2.drawn → tau n i q = τ' i q) → ∃ es, stepG P true (G (seq n).1.1 ((seq n).1.2.1 ++ [trap P])) (tp (seq n).1.2.2 τ') = .go (G (seq (n + 1)).1.1 ((seq (n + 1)).1.2.1 ++ [trap P])) (tp (seq (n + 1)).1.2.2 τ') es := fun n => (next (seq n)).2.choose_spec.choose_spec.2
  have hle : ∀ m n, m ≤ n → (seq m).1.2.2.drawn ≤ (seq n).1.2.2.drawn := by
    intro m n h
    induction h with
    | refl => exact Nat.le_refl _
    | step _ ih => exact Nat.le_trans ih (hmono _)
  classical
  let T : Nat → Question → Nat := fun i q => if h : ∃ n, (seq n).1.2.2.drawn ≤ i ∧ i < (seq (n + 1)).1.2.2.drawn then tau h.choose i q else 0
  have hT : ∀ n i q, (seq n).1.2.2.drawn ≤ i → i < (seq (n + 1)).1.2.2.drawn → tau n i q = T i q := by
    intro n i q h1 h2
    have hex : ∃ n, (seq n).1.2.2.drawn ≤ i ∧ i < (seq (n + 1)).1.2.2.drawn := ⟨n, h1, h2⟩
    have hf : hex.choose = n := by
      have := hex.choose_spec
      rcases Nat.lt_trichotomy hex.choose n with h | h | h
      · have : (seq (_ + 1)).1.2.2.drawn ≤ _ := hle _ _ (Nat.succ_le_of_lt h); omega
      · exact h
      · have : (seq (_ + 1)).1.2.2.drawn ≤ _ := hle _ _ (Nat.succ_le_of_lt h); omega
    simp only [T, hex, dif_pos]
    rw [hf]
  have hrun : ∀ n, runN P n (lone a (as ++ [trap P]) (tp u T)) = .next (lone (seq n).1.1 ((seq n).1.2.1 ++ [trap P]) (tp (seq n).1.2.2 T)) := by
    intro n
    induction n with
    | zero => rfl
    | succ n ih =>
      rw [runN_add, ih]
      obtain ⟨es, h⟩ := hstep n T (hT n)
      simp only [runN, lone_go h]
  obtain ⟨n, fr, w', hr, hfr, hlow⟩ := hw T
  have := (hrun n).symm.trans hr
  simp only [Stepped.next.injEq] at this
  obtain ⟨h1, h2, -⟩ := lone_inj this
  refine (next (seq n)).1 ⟨by rw [h1]; exact hfr, ?_⟩
  cases hh : (seq n).1.2.1 with
  | nil => rfl
  | cons x l => rw [hh] at h2; simp at h2

end Go.Proofs.Ytmhbjmkdekgmlaa.Sim
