/-
  A run of one goroutine alone and its image in company: one operation of a function's text, whichever 'opOk' lets by.
  Condition of each law: 'opOk', and what is asked of each function that is called ('Callees').
-/
import Derived.Test.YtmhbjmkdekgmlaaSimD
set_option linter.unusedSimpArgs false
set_option linter.unusedVariables false
namespace Go.Proofs.Ytmhbjmkdekgmlaa.Sim
open Go
variable {P : Program} {ρ : Array Nat}

/-- An operand that is closed for certain: 'np' tells the temporaries that only ever hold closed values. -/
def opd (np : Nat → Bool) : Operand → Bool
  | .tmp t => np t
  | .const v => closedB v
  | .func _ => true
  | .global _ => false
/-- An operand that can be read at all. -/
def opr : Operand → Bool
  | .tmp _ => true
  | .const v => closedB v
  | .func _ => true
  | .global _ => false

def fieldOk (P : Program) (s : TypeId) (f : Nat) : Bool :=
  match P.underlying s with
  | some (.struct fs) => (fs[f]?).all fun fd => ((P.info? fd.type).map (·.size)).any (· != 0)
  | _ => true

/-- A function of one parameter, a pointer. -/
def ptr1 (P : Program) (f : FuncId) : Bool :=
  match P.funcs[f]? with
  | some fn => fn.params.size == 1 && (match (fn.params[0]?).bind P.underlying with | some (.pointer _) => true | _ => false)
  | none => false
def elemOk (P : Program) (t : TypeId) : Bool := (sliceElem P t).isSome

def opOk (P : Program) (F : FuncId → Bool) (np : Nat → Bool) (o : Oper) : Bool :=
  let dn := o.dst.any np
  match o.op with
  | .move x | .assign x => opr x && (!dn || opd np x)
  | .pick c a b => opd np c && opr a && opr b && (!dn || (opd np a && opd np b))
  | .alloc e => zeroOk P e && !dn
  | .box _ x => opd np x && !dn
  | .build t parts => zeroOk P t && parts.all fun p => opd np p.2
  | .buildSlice t _ parts => ((sliceElem P t).any (zeroOk P)) && (parts.all fun p => opd np p.2) && !dn
  | .load _ a => opr a
  | .store _ a x => opr a && opd np x
  | .binOp _ t x y _ => scalarT P t && opd np x && opd np y
  | .unOp _ _ x => opd np x
  | .convert s d x => scalarT P s && scalarT P d && opd np x
  | .fieldAddr s x f => opr x && !dn && fieldOk P s f
  | .extract t _ => opd np t
  | .nilCheck x => opr x && !dn
  | .indexAddr t x i => opr x && opd np i && !dn && elemOk P t
  | .call { callee := .value (.func f), args, .. } => F f && (args.all (opd np) || (args.size == 1 && ptr1 P f && args.all opr))
  | .call { callee := .builtin .len, args, argTypes } => args.all opr && ((argTypes[0]?).bind (sliceElem P)).isSome
  | .call { callee := .builtin .append, args, argTypes } => args.all opr && !dn && ((argTypes[0]?).bind (sliceElem P)).any (zeroOk P) && ((argTypes[1]?).bind (sliceElem P)).isSome
  | .call { callee := .builtin .real, args, .. } | .call { callee := .builtin .imag, args, .. } | .call { callee := .builtin .complex, args, .. } => args.all (opd np)
  | _ => false

/-- How what two operations yield is related. -/
def NOut (P : Program) (B : FuncId → Bool) (c : Bool) : Array Nat → Next → Next → Prop := fun ρ a b =>
  match a, b with
  | .value v, .value v' => VRel ρ v v' ∧ (c = true → Closed v)
  | .skip, .skip => True
  | .enter f args, .enter f' args' => f' = f ∧ CRel ρ args args' ∧ (AllClosed args ∨ (args.size = 1 ∧ ptr1 P f = true)) ∧ B f = true
  | _, _ => False

/-- What is asked of the functions that are called: a call of closed arguments yields a closed value, or enters a function of B. -/
def Callees (P : Program) (F B : FuncId → Bool) : Prop := ∀ f, F f = true → ∀ ρ args args', CRel ρ args args' → (AllClosed args ∨ (args.size = 1 ∧ ptr1 P f = true)) → SRel P (NOut P B true) ρ (callFunc f args) (callFunc f args')

/-- A function that has a Go body and no name that means more. -/
theorem callee_body {B : FuncId → Bool} {f : FuncId} {fn : Func} (hf : P.funcs[f]? = some fn) (hn : (fn.name == "runtime.NumGoroutine") = false) (hb : fn.body.isNone = false) (hB : B f = true) (ρ : Array Nat) (args args' : Array Value) (hr : CRel ρ args args') (ha : AllClosed args ∨ (args.size = 1 ∧ ptr1 P f = true)) :
    SRel P (NOut P B true) ρ (callFunc f args) (callFunc f args') := by
  unfold callFunc
  refine srel_bind srel_program fun ρ' a b x h => ?_
  obtain ⟨rfl, rfl⟩ := h
  rw [hf]
  simp only [hn, hb, Bool.false_eq_true, if_false]
  exact srel_pure ⟨rfl, hr.ext x, ha, hB⟩

section
variable {F B : FuncId → Bool} {np : Nat → Bool} {ev ev' : Operand → Value}

theorem srel_v {m m' : Sem Value} {c : Bool} (h : SRel P (Out c) ρ m m') : SRel P (NOut P B c) ρ (do Pure.pure (.value (← m))) (do Pure.pure (.value (← m'))) :=
  srel_bind h fun ρ' a b _ r => srel_pure r
theorem srel_u {m m' : Sem Unit} {c : Bool} (h : SRel P (fun _ _ _ => True) ρ m m') : SRel P (NOut P B c) ρ (do m; Pure.pure .skip) (do m'; Pure.pure .skip) :=
  srel_bind h fun ρ' a b _ r => srel_pure trivial

theorem srel_fieldAt {s : TypeId} {f : Nat} (hf : fieldOk P s f = true) {v v' : Value} (h : VRel ρ v v') : SRel P (Out false) ρ (Instr.fieldAt s v f) (Instr.fieldAt s v' f) := by
  unfold Instr.fieldAt
  refine srel_bind (same_underlying s ρ) fun ρ1 d d' x1 hd => ?_
  obtain ⟨rfl, hd⟩ := hd
  unfold fieldOk at hf
  rw [hd] at hf
  cases d' <;> first | exact srel_stuck | skip
  rename_i fs
  dsimp only at hf ⊢
  cases hfs : fs[f]? with
  | none => exact srel_stuck
  | some fd =>
    rw [hfs] at hf
    simp only [Option.all_some] at hf
    refine srel_bind (srel_sureAddr (h.ext x1)) fun ρ2 a b x2 hab => ?_
    have : SRel P (fun ρ' a b => AddrRel ρ' a b) ρ2 (fieldPlace a fd) (fieldPlace b fd) := by
      unfold fieldPlace
      refine srel_bind (same_sizeOf fd.type ρ2) fun ρ3 n n' x3 hn => ?_
      obtain ⟨rfl, i, hi, hn⟩ := hn
      rw [hi] at hf
      have : n' ≠ 0 := by simpa [hn] using hf
      rw [if_neg this, if_neg this]
      exact srel_pure ((hab.ext x3).add _)
    refine srel_bind this fun ρ3 a b x3 hab => ?_
    exact srel_pure ⟨.ptr hab, fun h => by cases h⟩

theorem same_extract {v : Value} (h : Closed v) (i : Nat) : Same P Closed (Instr.extract v i) := by
  unfold Instr.extract
  cases h <;> first | exact same_stuck | skip
  rename_i as h
  dsimp only
  split
  · exact same_pure (AllClosed.get h ‹_›)
  · exact same_stuck

theorem closed_all {args : Array Operand} (h : ∀ x, opd np x = true → ev' x = ev x ∧ Closed (ev x)) (ha : args.all (opd np) = true) : args.map ev' = args.map ev ∧ AllClosed (args.map ev) := by
  rw [Array.all_eq_true] at ha
  refine ⟨Array.ext (by simp) fun i h1 h2 => ?_, fun i hi => ?_⟩
  · rw [Array.getElem_map, Array.getElem_map]
    exact (h _ (ha i (by simpa using h1))).1
  · rw [Array.getElem_map]
    exact (h _ (ha i (by simpa using hi))).2

theorem same_real (ts : Array TypeId) (t : TypeId) (a : Array Value) : Same P Closed (Builtin.real_ ts t a) := by
  obtain ⟨l⟩ := a
  rcases l with _ | ⟨x, _ | ⟨y, l⟩⟩ <;> first | exact same_stuck | skip
  cases x <;> first | exact same_stuck | exact same_pure (.float _ _)
theorem same_imag (ts : Array TypeId) (t : TypeId) (a : Array Value) : Same P Closed (Builtin.imag_ ts t a) := by
  obtain ⟨l⟩ := a
  rcases l with _ | ⟨x, _ | ⟨y, l⟩⟩ <;> first | exact same_stuck | skip
  cases x <;> first | exact same_stuck | exact same_pure (.float _ _)
theorem same_complex (ts : Array TypeId) (t : TypeId) (a : Array Value) : Same P Closed (Builtin.complex_ ts t a) := by
  obtain ⟨l⟩ := a
  rcases l with _ | ⟨x, _ | ⟨y, _ | ⟨z, l⟩⟩⟩ <;> first | exact same_stuck | (cases x <;> exact same_stuck) | skip
  cases x <;> first | exact same_stuck | skip
  cases y <;> first | exact same_stuck | skip
  rename_i k a k' b
  show Same P Closed (if k = k' then Pure.pure (Value.complex k a b) else stuck "complex: parts of different kinds")
  split
  · exact same_pure (.complex _ _ _)
  · exact same_stuck

theorem closed_parts {parts : Array (Nat × Operand)} (h : ∀ x, opd np x = true → ev' x = ev x ∧ Closed (ev x)) (ha : (parts.all fun p => opd np p.2) = true) : (parts.map fun p => (p.1, ev' p.2)) = (parts.map fun p => (p.1, ev p.2)) ∧ ∀ x ∈ (parts.map fun p => (p.1, ev p.2)), Closed x.2 := by
  rw [Array.all_eq_true] at ha
  refine ⟨Array.ext (by simp) fun i h1 h2 => ?_, fun x hx => ?_⟩
  · rw [Array.getElem_map, Array.getElem_map, (h _ (ha i (by simpa using h1))).1]
  · obtain ⟨p, hp, rfl⟩ := Array.mem_map.1 hx
    obtain ⟨i, hi, rfl⟩ := Array.mem_iff_getElem.1 hp
    exact (h _ (ha i hi)).2

theorem rel_all {args : Array Operand} (h : ∀ x, opr x = true → VRel ρ (ev x) (ev' x)) (ha : args.all opr = true) : CRel ρ (args.map ev) (args.map ev') := by
  rw [Array.all_eq_true] at ha
  refine ⟨by simp, fun i h1 h2 => ?_⟩
  rw [Array.getElem_map, Array.getElem_map]
  exact h _ (ha i (by simpa using h1))

theorem srel_nil {α β : Type} {Φ : Array Nat → α → β → Prop} : SRel P Φ ρ (runtimePanic .nilDeref : Sem α) (runtimePanic .nilDeref : Sem β) := by
  unfold runtimePanic
  exact srel_bind srel_program fun ρ' a b _ _ => srel_panic
theorem srel_bounds {α β : Type} {Φ : Array Nat → α → β → Prop} {k : IntKind} {x y : Int} {code : BoundsCode} : SRel P Φ ρ (boundsPanic k x y code : Sem α) (boundsPanic k x y code : Sem β) := by
  unfold boundsPanic
  have hp : ∀ (ρ : Array Nat) (e : RuntimeError), (∃ x y s c, e = .bounds x y s c) → SRel P Φ ρ (runtimePanic e : Sem α) (runtimePanic e : Sem β) := by
    rintro ρ e ⟨x, y, s, c, rfl⟩
    unfold runtimePanic
    exact srel_bind srel_program fun ρ' a b _ _ => srel_panic
  dsimp only
  split
  · refine srel_bind ((same_bind (same_choose _) fun _ _ => same_pure (Φ := fun _ : Bool => True) trivial) ρ) fun ρ1 a b _ h => ?_
    obtain ⟨rfl, -⟩ := h
    exact hp _ _ ⟨_, _, _, _, rfl⟩
  · exact srel_bind (same_pure (Φ := fun _ : Bool => True) trivial ρ) fun ρ1 a b _ h => by
      obtain ⟨rfl, -⟩ := h
      exact hp _ _ ⟨_, _, _, _, rfl⟩
theorem elemOk_slice {t : TypeId} (ht : elemOk P t = true) : ∃ e, P.underlying t = some (.slice e) := by
  unfold elemOk sliceElem at ht
  split at ht
  · exact ⟨_, ‹_›⟩
  · simp at ht
theorem same_asIntOf {v : Value} (h : Closed v) : Same P (fun _ => True) (asIntOf v) := by
  unfold asIntOf
  cases h <;> first | exact same_stuck | exact same_observed | exact same_pure trivial
theorem srel_indexAt {t : TypeId} (ht : elemOk P t = true) {v v' i : Value} (h : VRel ρ v v') (hi : Closed i) : SRel P (Out false) ρ (Instr.indexAt t v i) (Instr.indexAt t v' i) := by
  obtain ⟨e, he⟩ := elemOk_slice ht
  unfold Instr.indexAt
  refine srel_bind (same_asIntOf hi ρ) fun ρ1 a b x1 hab => ?_
  obtain ⟨rfl, -⟩ := hab
  refine srel_bind (same_underlying t ρ1) fun ρ2 d d' x2 hd => ?_
  obtain ⟨rfl, hd⟩ := hd
  rw [he] at hd
  cases hd
  have tail : ∀ (ρ3 : Array Nat) (base base' : Option Addr) (n : Nat) (el : TypeId), (∀ p, base = some p → ∃ q, base' = some q ∧ AddrRel ρ3 p q) → (base = none → base' = none) →
      SRel P (Out false) ρ3 (do
        let tiny := n ≤ 1 && (match ← underlying t with | .array .. => true | _ => false)
        match base with
        | some p => if 0 ≤ b.2 ∧ b.2 < n then Pure.pure (.pointer (some (p.add (b.2.toNat * (← sizeOf el))))) else if tiny then unsupported (.noEntry "op/indexAddr.an index out of range at an array of length 0 or 1 (ledger 616)") else boundsPanic b.1 b.2 n .index
        | none => boundsPanic b.1 b.2 0 .index) (do
        let tiny := n ≤ 1 && (match ← underlying t with | .array .. => true | _ => false)
        match base' with
        | some p => if 0 ≤ b.2 ∧ b.2 < n then Pure.pure (.pointer (some (p.add (b.2.toNat * (← sizeOf el))))) else if tiny then unsupported (.noEntry "op/indexAddr.an index out of range at an array of length 0 or 1 (ledger 616)") else boundsPanic b.1 b.2 n .index
        | none => boundsPanic b.1 b.2 0 .index) := by
    intro ρ3 base base' n el h1 h2
    refine srel_bind (same_underlying t ρ3) fun ρ4 d d' x4 hd => ?_
    obtain ⟨rfl, hd⟩ := hd
    cases base with
    | none => rw [h2 rfl]; exact srel_bounds
    | some p =>
      obtain ⟨q, rfl, hpq⟩ := h1 p rfl
      dsimp only
      split
      · refine srel_bind (same_sizeOf el ρ4) fun ρ5 m m' x5 hm => ?_
        obtain ⟨rfl, -⟩ := hm
        exact srel_pure ⟨.ptr (((hpq.ext x4).ext x5).add _), fun h => by cases h⟩
      · split
        all_goals
          split
          · exact srel_noEntry
          · exact srel_bounds
  cases h with
  | same h =>
    cases h <;> first | exact srel_stuck | skip
    rename_i n0 _
    exact tail ρ2 none none n0 e (fun p hp => by cases hp) (fun _ => rfl)
  | ptr h => exact srel_stuck
  | slice n c h => exact tail ρ2 (some _) (some _) n e (fun p hp => by cases hp; exact ⟨_, rfl, (h.ext x1).ext x2⟩) (fun h => by cases h)
  | tuple a b => exact srel_stuck
theorem srel_len {ts : Array TypeId} {t : TypeId} (ht : ((ts[0]?).bind (sliceElem P)).isSome = true) {a a' : Array Value} (h : CRel ρ a a') (c : Bool) : SRel P (Out c) ρ (Builtin.len_ ts t a) (Builtin.len_ ts t a') := by
  unfold Builtin.len_
  cases hts : ts[0]? with
  | none => rw [hts] at ht; simp at ht
  | some t0 =>
    rw [hts] at ht
    simp only [Option.bind_some] at ht
    obtain ⟨e, he⟩ := elemOk_slice ht
    cases ha : a[0]? with
    | none => exact srel_stuck
    | some x =>
      obtain ⟨hlt, rfl⟩ := Array.getElem?_eq_some_iff.1 ha
      have hlt' : 0 < a'.size := h.1 ▸ hlt
      rw [Array.getElem?_eq_getElem hlt']
      have hx := h.2 0 hlt hlt'
      generalize a[0] = x at hx ⊢
      generalize a'[0] = x' at hx ⊢
      refine srel_bind (same_underlying t0 ρ) fun ρ2 d d' x2 hd => ?_
      obtain ⟨rfl, hd⟩ := hd
      rw [he] at hd
      cases hd
      cases hx with
      | same h =>
        cases h <;> first | exact srel_stuck | skip
        exact srel_pure ⟨.same (.int _ _), fun _ => .int _ _⟩
      | ptr h => exact srel_stuck
      | slice n c h => exact srel_pure ⟨.same (.int _ _), fun _ => .int _ _⟩
      | tuple a b => exact srel_stuck

/-- ONE OPERATION. -/
theorem srel_exec (hC : Callees P F B) (hfn : ∀ f, ev (.func f) = .func (.func f) #[] #[] ∧ ev' (.func f) = .func (.func f) #[] #[]) (hr : ∀ x, opr x = true → VRel ρ (ev x) (ev' x)) (hd : ∀ x, opd np x = true → ev' x = ev x ∧ Closed (ev x)) {o : Oper} (ho : opOk P F np o = true) :
    SRel P (NOut P B (o.dst.any np)) ρ (execOp ev o) (execOp ev' o) := by
  obtain ⟨dst, op, ty, ps, af, gd⟩ := o
  unfold opOk at ho
  unfold execOp
  dsimp only at ho ⊢
  cases op <;> simp only [Bool.false_eq_true] at ho <;> try dsimp only
  all_goals try simp only [Bool.and_eq_true, Bool.not_eq_true', Bool.or_eq_true] at ho
  case move x => exact srel_pure ⟨hr x ho.1, fun h => by
    rcases ho.2 with h' | h'
    · rw [h] at h'; cases h'
    · exact (hd x h').2⟩
  case assign x => exact srel_pure ⟨hr x ho.1, fun h => by
    rcases ho.2 with h' | h'
    · rw [h] at h'; cases h'
    · exact (hd x h').2⟩
  case pick c a b =>
    obtain ⟨⟨⟨h1, h2⟩, h3⟩, h4⟩ := ho
    rw [(hd c h1).1]
    refine srel_bind (same_asBool (hd c h1).2 ρ) fun ρ' x y e hx => ?_
    obtain ⟨rfl, _⟩ := hx
    refine srel_pure ⟨?_, fun h => ?_⟩
    · split
      · exact (hr a h2).ext e
      · exact (hr b h3).ext e
    · rcases h4 with h' | h'
      · rw [h] at h'; cases h'
      · split
        · exact (hd a h'.1).2
        · exact (hd b h'.2).2
  case alloc e =>
    rw [ho.2]
    refine srel_v (m := Instr.alloc e true (.tuple #[])) (m' := Instr.alloc e true (.tuple #[])) ?_
    unfold Instr.alloc
    refine srel_bind (same_zeroValue ho.1 ρ) fun ρ' a b _ hx => ?_
    obtain ⟨rfl, hx⟩ := hx
    exact srel_bind (srel_newVar e hx) fun ρ'' p q _ h => srel_pure ⟨.ptr h.1, fun h => by cases h⟩
  case box e x =>
    rw [ho.2, (hd x ho.1).1]
    refine srel_v (m := Instr.box e (ev x)) (m' := Instr.box e (ev x)) ?_
    unfold Instr.box
    exact srel_bind (srel_newVar e (hd x ho.1).2) fun ρ'' p q _ h => srel_pure ⟨.ptr h.1, fun h => by cases h⟩
  case build t parts =>
    obtain ⟨h1, h2⟩ := closed_parts (ev := ev) (ev' := ev') hd ho.2
    rw [h1]
    exact srel_v (srel_of_same (same_build ho.1 h2) _)
  case buildSlice t len parts =>
    obtain ⟨⟨h0, h1⟩, h2⟩ := ho
    obtain ⟨h3, h4⟩ := closed_parts (ev := ev) (ev' := ev') hd h1
    rw [h3, h2]
    cases hs : sliceElem P t with
    | none => rw [hs] at h0; simp at h0
    | some e =>
      rw [hs] at h0
      exact srel_v (srel_buildSlice hs (by simpa using h0) len h4)
  case load t a =>
    have h := hr a ho
    refine srel_v (m := Instr.loadAt t (ev a)) (m' := Instr.loadAt t (ev' a)) ?_
    unfold Instr.loadAt
    refine srel_bind (srel_sureAddr h) fun ρ' p q e hpq => (srel_loadVar t hpq).mono fun ρ'' x y _ hx => ?_
    obtain ⟨rfl, hx⟩ := hx
    exact ⟨.same hx, fun _ => hx⟩
  case store t a x =>
    have h := hr a ho.1
    rw [(hd x ho.2).1]
    refine srel_u (m := Instr.storeAt t (ev a) (ev x)) (m' := Instr.storeAt t (ev' a) (ev x)) ?_
    unfold Instr.storeAt
    exact srel_bind (srel_sureAddr h) fun ρ' p q e hpq => srel_storeVar t hpq (hd x ho.2).2
  case binOp bop t x y yt =>
    obtain ⟨⟨h0, h1⟩, h2⟩ := ho
    rw [(hd x h1).1, (hd y h2).1]
    exact srel_v (srel_of_same (same_bind (same_eqGuard h0 x y _ _) fun _ _ => same_binOp h0 (hd x h1).2 (hd y h2).2) _)
  case unOp uop t x =>
    rw [(hd x ho).1]
    exact srel_v (srel_of_same (same_unary uop (hd x ho).2) _)
  case convert s d x =>
    rw [(hd x ho.2).1]
    exact srel_v (srel_of_same (same_convert ho.1.1 ho.1.2 (hd x ho.2).2) _)
  case fieldAddr s x f =>
    rw [ho.1.2]
    exact srel_v (srel_fieldAt ho.2 (hr x ho.1.1))
  case extract t i =>
    rw [(hd t ho).1]
    exact srel_v (srel_of_same (same_extract (hd t ho).2 i) _)
  case nilCheck x =>
    rw [ho.2]
    have h := hr x ho.1
    generalize ev x = v at h ⊢
    generalize ev' x = v' at h ⊢
    cases h with
    | same h =>
      have hc := h
      cases h <;> first | exact srel_nil | exact srel_pure (Φ := NOut P B false) ⟨.same hc, fun h => by cases h⟩
    | ptr h => exact srel_pure ⟨.ptr h, fun h => by cases h⟩
    | slice n c h => exact srel_pure ⟨.slice n c h, fun h => by cases h⟩
    | tuple a b => exact srel_pure ⟨.tuple a b, fun h => by cases h⟩
  case indexAddr t x i =>
    obtain ⟨⟨⟨h0, h1⟩, h2⟩, h3⟩ := ho
    rw [h2, (hd i h1).1]
    exact srel_v (srel_indexAt h3 (hr x h0) (hd i h1).2)
  case call c =>
    obtain ⟨callee, args, ts⟩ := c
    unfold resolve
    cases callee with
    | invoke r n => simp at ho
    | builtin b =>
      dsimp only
      cases b <;> simp only [Bool.false_eq_true] at ho <;> try simp only [Bool.and_eq_true, Bool.not_eq_true'] at ho
      case append =>
        obtain ⟨⟨⟨h0, h1⟩, h2⟩, h3⟩ := ho
        rw [h1]
        cases hs : (ts[0]?).bind (sliceElem P) with
        | none => rw [hs] at h2; simp at h2
        | some e =>
          rw [hs] at h2
          exact srel_v (srel_append hs h3 (by simpa using h2) (rel_all hr h0))
      case len =>
        have ho := ho
        exact srel_v (srel_len ho.2 (rel_all hr ho.1) _)
      case real =>
        obtain ⟨h1, h2⟩ := closed_all (ev := ev) (ev' := ev') hd ho
        rw [h1]
        exact srel_v (srel_of_same (same_real _ _ _) _)
      case imag =>
        obtain ⟨h1, h2⟩ := closed_all (ev := ev) (ev' := ev') hd ho
        rw [h1]
        exact srel_v (srel_of_same (same_imag _ _ _) _)
      case complex =>
        obtain ⟨h1, h2⟩ := closed_all (ev := ev) (ev' := ev') hd ho
        rw [h1]
        exact srel_v (srel_of_same (same_complex _ _ _) _)
    | value x =>
      dsimp only
      cases x with
      | func f =>
        simp only [Bool.and_eq_true] at ho
        rw [(hfn f).1, (hfn f).2]
        have hargs : CRel ρ (args.map ev) (args.map ev') ∧ (AllClosed (args.map ev) ∨ ((args.map ev).size = 1 ∧ ptr1 P f = true)) := by
          rcases (by simpa [Bool.or_eq_true] using ho.2 : args.all (opd np) = true ∨ (args.size == 1 && ptr1 P f && args.all opr) = true) with h | h
          · obtain ⟨h1, h2⟩ := closed_all (ev := ev) (ev' := ev') hd h
            rw [h1]
            exact ⟨CRel.of_closed h2, .inl h2⟩
          · simp only [Bool.and_eq_true] at h
            exact ⟨rel_all hr h.2, .inr ⟨by simpa using h.1.1, h.1.2⟩⟩
        have e : ∀ a : Array Value, (do let d ← (Deferred.ofValue (.func (.func f) #[] #[]) a : Sem Deferred); invoke d.target d.args) = callFunc f a := by
          intro a
          show callFunc f (#[] ++ a ++ #[]) = callFunc f a
          simp
        rw [e, e]
        refine (hC f ho.1 ρ _ _ hargs.1 hargs.2).mono fun ρ' a b _ h => ?_
        unfold NOut at h ⊢
        split at h
        · exact ⟨h.1, fun _ => h.2 rfl⟩
        · trivial
        · exact h
        · exact h.elim
      | tmp _ => simp at ho
      | const _ => simp at ho
      | global _ => simp at ho
end

end Go.Proofs.Ytmhbjmkdekgmlaa.Sim
