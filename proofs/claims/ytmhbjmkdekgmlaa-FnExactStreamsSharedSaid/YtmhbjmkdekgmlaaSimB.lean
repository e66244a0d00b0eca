/-
  A run of one goroutine alone and its image in company: the operations, one by one.
  Condition of each law: what 'opOk' looks at in the program's tables.
-/
import Derived.Test.YtmhbjmkdekgmlaaSimA
import Derived.Laws.Sem
set_option linter.unusedSimpArgs false
set_option linter.unusedVariables false
namespace Go.Proofs.Ytmhbjmkdekgmlaa.Sim
open Go
variable {P : Program} {ρ : Array Nat}

/-! ### what stands in the program's tables -/
def atomB : Value → Bool
  | .bool _ | .int .. | .float .. | .complex .. | .string _ | .pointer none | .slice none _ _ | .map none | .chan none | .nilFunc | .nilIface => true
  | .func (.func _) f c => f.isEmpty && c.isEmpty
  | _ => false
def closedB : Value → Bool
  | .agg cs | .tuple cs => cs.all atomB
  | v => atomB v

theorem atom_closed {v : Value} (h : atomB v = true) : Closed v := by
  unfold atomB at h
  split at h <;> first | constructor | skip
  · rename_i f g c
    simp only [Bool.and_eq_true, Array.isEmpty_iff] at h
    obtain ⟨rfl, rfl⟩ := h
    exact .func _
  · cases h
theorem closedB_closed {v : Value} (h : closedB v = true) : Closed v := by
  unfold closedB at h
  split at h
  · exact .agg fun i hi => atom_closed (by rw [Array.all_eq_true] at h; exact h i hi)
  · exact .tuple fun i hi => atom_closed (by rw [Array.all_eq_true] at h; exact h i hi)
  · exact atom_closed h

def zeroOk (P : Program) (t : TypeId) : Bool := ((P.info? t).bind (·.zero)).any closedB
def scalarT (P : Program) (t : TypeId) : Bool := match P.underlying t with | some (.int _) | some (.float _) => true | _ => false

/-! ### small laws -/
theorem srel_bind {α β γ δ : Type} {Φ : Array Nat → α → β → Prop} {Ψ : Array Nat → γ → δ → Prop} {m : Sem α} {m' : Sem β} {f : α → Sem γ} {f' : β → Sem δ}
    (h : SRel P Φ ρ m m') (hf : ∀ ρ' a b, Ext ρ ρ' → Φ ρ' a b → SRel P Ψ ρ' (f a) (f' b)) : SRel P Ψ ρ (m >>= f) (m' >>= f') := SRel.bind h hf
theorem srel_pure {α β : Type} {Φ : Array Nat → α → β → Prop} {a : α} {b : β} (h : Φ ρ a b) : SRel P Φ ρ (Pure.pure a) (Pure.pure b) := .pure h
theorem srel_stuck {α β : Type} {Φ : Array Nat → α → β → Prop} {s : String} {m : Sem β} : SRel P Φ ρ (stuck s : Sem α) m := .stop _ _ rfl
theorem srel_panic {α β : Type} {Φ : Array Nat → α → β → Prop} {v : Value} {m : Sem β} : SRel P Φ ρ (goPanic v : Sem α) m := .stop _ _ rfl
theorem srel_observed {α β : Type} {Φ : Array Nat → α → β → Prop} {m : Sem β} : SRel P Φ ρ (unsupported .addressObserved : Sem α) m := .stop _ _ rfl
theorem srel_noEntry {α β : Type} {Φ : Array Nat → α → β → Prop} {s : String} {m : Sem β} : SRel P Φ ρ (unsupported (.noEntry s) : Sem α) m := .stop _ _ rfl
theorem srel_limit {α β : Type} {Φ : Array Nat → α → β → Prop} {s : String} {m : Sem β} : SRel P Φ ρ (unsupported (.resourceLimit s) : Sem α) m := .stop _ _ rfl
theorem srel_unsafe {α β : Type} {Φ : Array Nat → α → β → Prop} {s : String} {m : Sem β} : SRel P Φ ρ (unsupported (.unsafePointer s) : Sem α) m := .stop _ _ rfl
theorem srel_program : SRel P (fun _ a b => a = P ∧ b = P) ρ program program := .program (.pure ⟨rfl, rfl⟩)

/-- The same on both sides, whatever the table. -/
def Same (P : Program) {α : Type} (Φ : α → Prop) (m : Sem α) : Prop := ∀ ρ, SRel P (fun _ a b => b = a ∧ Φ a) ρ m m

theorem same_pure {α : Type} {Φ : α → Prop} {a : α} (h : Φ a) : Same P Φ (Pure.pure a : Sem α) := fun _ => srel_pure ⟨rfl, h⟩
theorem same_stuck {α : Type} {Φ : α → Prop} {s : String} : Same P Φ (stuck s : Sem α) := fun _ => srel_stuck
theorem same_observed {α : Type} {Φ : α → Prop} : Same P Φ (unsupported .addressObserved : Sem α) := fun _ => srel_observed
theorem same_noEntry {α : Type} {Φ : α → Prop} {s : String} : Same P Φ (unsupported (.noEntry s) : Sem α) := fun _ => srel_noEntry
theorem same_limit {α : Type} {Φ : α → Prop} {s : String} : Same P Φ (unsupported (.resourceLimit s) : Sem α) := fun _ => srel_limit
theorem same_unsafe {α : Type} {Φ : α → Prop} {s : String} : Same P Φ (unsupported (.unsafePointer s) : Sem α) := fun _ => srel_unsafe
theorem same_bind {α β : Type} {Φ : α → Prop} {Ψ : β → Prop} {m : Sem α} {f : α → Sem β} (h : Same P Φ m) (hf : ∀ a, Φ a → Same P Ψ (f a)) : Same P Ψ (m >>= f) := fun ρ =>
  srel_bind (h ρ) fun ρ' a b _ e => by obtain ⟨rfl, x⟩ := e; exact hf b x ρ'
theorem same_program : Same P (fun p => p = P) program := fun _ => srel_program.mono fun _ _ _ _ h => ⟨h.2.trans h.1.symm, h.1⟩
theorem same_choose (q : Question) : Same P (fun _ => True) (choose q) := fun _ => .choose q fun _ => .pure ⟨rfl, trivial⟩
theorem same_mono {α : Type} {Φ Ψ : α → Prop} {m : Sem α} (h : Same P Φ m) (k : ∀ a, Φ a → Ψ a) : Same P Ψ m := fun ρ => (h ρ).mono fun _ _ _ _ x => ⟨x.1, k _ x.2⟩

theorem same_typeInfo (t : TypeId) : Same P (fun i => P.info? t = some i) (typeInfo t) := by
  unfold typeInfo
  refine same_bind same_program fun a h => ?_
  subst h
  cases hi : a.info? t with
  | none => exact same_stuck
  | some i => exact same_pure rfl
theorem same_underlying (t : TypeId) : Same P (fun d => P.underlying t = some d) (underlying t) := by
  unfold underlying
  refine same_bind same_program fun a h => ?_
  subst h
  cases hi : a.underlying t with
  | none => exact same_stuck
  | some i => exact same_pure rfl
theorem same_sizeOf (t : TypeId) : Same P (fun n => ∃ i, P.info? t = some i ∧ i.size = n) (sizeOf t) := by
  unfold sizeOf
  exact same_bind (same_typeInfo t) fun a h => same_pure ⟨_, h, rfl⟩
theorem same_isAgg (t : TypeId) : Same P (fun _ => True) (isAgg t) := by
  unfold isAgg
  refine same_bind (same_underlying t) fun a h => ?_
  split <;> exact same_pure trivial
theorem same_zeroValue {t : TypeId} (hz : zeroOk P t = true) : Same P (fun v => Closed v) (zeroValue t) := by
  unfold zeroValue
  refine same_bind (same_typeInfo t) fun a h => ?_
  unfold zeroOk at hz
  rw [h] at hz
  simp only [Option.bind_some] at hz
  cases hv : a.zero with
  | none => rw [hv] at hz; simp at hz
  | some v =>
    rw [hv] at hz
    exact same_pure (closedB_closed (by simpa using hz))
theorem same_mapM {α β : Type} (xs : Array α) (f : α → Sem β) (hf : ∀ x, Same P (fun _ => True) (f x)) : Same P (fun _ => True) (xs.mapM f) := by
  rw [Array.mapM_eq_mapM_toList]
  suffices h : ∀ (l : List α), Same P (fun _ => True) (l.mapM f) from same_bind (h _) fun a _ => same_pure trivial
  intro l
  induction l with
  | nil => exact same_pure trivial
  | cons x l ih =>
    rw [List.mapM_cons]
    exact same_bind (hf x) fun a _ => same_bind ih fun b _ => same_pure trivial
/-- A run-time panic of the make that arithmetic raises. -/
theorem same_runtimeError {α : Type} {Φ : α → Prop} {s : String} : Same P Φ (runtimePanic (.error s) : Sem α) := by
  unfold runtimePanic
  exact same_bind same_program fun a _ => fun _ => srel_panic

/-! ### memory -/
theorem srel_load {a b : Addr} (h : AddrRel ρ a b) : SRel P (fun _ v v' => v' = v ∧ Closed v) ρ (load a) (load b) := .load h fun _ c => .pure ⟨rfl, c⟩
theorem AddrRel.add {a b : Addr} (h : AddrRel ρ a b) (n : Nat) : AddrRel ρ (a.add n) (b.add n) := by
  unfold Addr.add
  split
  · exact h
  · exact ⟨h.1, by simp [h.2.1], rfl⟩
theorem srel_loadCells {a b : Addr} (h : AddrRel ρ a b) (n : Nat) : SRel P (fun _ v v' => v' = v ∧ AllClosed v) ρ (loadCells a n) (loadCells b n) := by
  unfold loadCells
  suffices H : ∀ (n i : Nat) (ρ : Array Nat) (acc : Array Value), AddrRel ρ a b → AllClosed acc → SRel P (fun _ v v' => v' = v ∧ AllClosed v) ρ (loadCellsFrom a i n acc) (loadCellsFrom b i n acc) from
    H n 0 ρ _ h AllClosed.nil
  intro n
  induction n with
  | zero => intro i ρ acc _ hc; exact srel_pure ⟨rfl, hc⟩
  | succ n ih =>
    intro i ρ acc h hc
    unfold loadCellsFrom
    exact srel_bind (srel_load (h.add i)) fun ρ' v v' e r => by obtain ⟨rfl, c⟩ := r; exact ih _ _ _ (h.ext e) (hc.push c)
theorem srel_storeCells {a b : Addr} {l : List Value} (h : AddrRel ρ a b) (hl : ∀ v ∈ l, Closed v) (i : Nat) : SRel P (fun _ _ _ => True) ρ (storeCells a l i) (storeCells b l i) := by
  induction l generalizing i with
  | nil => unfold storeCells; exact srel_pure trivial
  | cons v l ih =>
    unfold storeCells
    exact .store (h.add i) (hl v (by simp)) (ih (fun x hx => hl x (by simp [hx])) (i + 1))

theorem srel_sureAddr {v v' : Value} (h : VRel ρ v v') : SRel P (fun ρ' a b => AddrRel ρ' a b) ρ (Instr.sureAddr v) (Instr.sureAddr v') := by
  cases h with
  | same h => cases h <;> exact srel_stuck
  | ptr h => exact srel_pure h
  | slice n c h => exact srel_stuck
  | tuple _ _ => exact srel_stuck

theorem srel_loadVar (t : TypeId) {a b : Addr} (h : AddrRel ρ a b) : SRel P (fun _ v v' => v' = v ∧ Closed v) ρ (loadVar t a) (loadVar t b) := by
  unfold loadVar
  refine srel_bind (same_isAgg t ρ) fun ρ' x y e hx => ?_
  obtain ⟨rfl, _⟩ := hx
  split
  · refine srel_bind (same_sizeOf t ρ') fun ρ'' n m e' hn => ?_
    obtain ⟨rfl, _⟩ := hn
    refine srel_bind (srel_loadCells ((h.ext e).ext e') m) fun ρ3 c d _ r => ?_
    obtain ⟨rfl, r⟩ := r
    exact srel_pure ⟨rfl, .agg r⟩
  · exact srel_load (h.ext e)
theorem srel_storeVar (t : TypeId) {a b : Addr} (h : AddrRel ρ a b) {v : Value} (hv : Closed v) : SRel P (fun _ _ _ => True) ρ (storeVar t a v) (storeVar t b v) := by
  unfold storeVar
  refine srel_bind (same_sizeOf t ρ) fun ρ' x y e hx => ?_
  obtain ⟨rfl, _⟩ := hx
  split
  · exact srel_stuck
  · refine srel_storeCells (h.ext e) (fun x hx => ?_) 0
    obtain ⟨i, hi, rfl⟩ := List.mem_iff_getElem.1 hx
    have := hv.cells i (by simpa using hi)
    simpa using this
theorem srel_newRow (e : TypeId) {c : Array Value} (h : AllClosed c) : SRel P (fun ρ' a b => AddrRel ρ' a b ∧ a.off = 0) ρ (newRow e c) (newRow e c) := by
  unfold newRow newObj
  exact .new h fun b => .pure ⟨⟨by simp, rfl, rfl⟩, rfl⟩
theorem srel_newVar (e : TypeId) {v : Value} (h : Closed v) : SRel P (fun ρ' a b => AddrRel ρ' a b ∧ a.off = 0) ρ (newVar e v) (newVar e v) := srel_newRow e h.cells
theorem srel_shape {r r' : Nat} (h : ρ[r]? = some r') : SRel P (fun _ a b => b = a ∧ ∃ e n, a = some (e, n)) ρ (shape r) (shape r') := .shape h fun e n => .pure ⟨rfl, e, n, rfl⟩
theorem srel_frozen {a b : Addr} (h : AddrRel ρ a b) : SRel P (fun _ x y => y = x) ρ (frozen a) (frozen b) := .frozen h fun _ => .pure rfl

/-! ### arithmetic over closed values -/
theorem same_asInt {v : Value} (h : Closed v) : Same P (fun _ => True) (asInt v) := by
  unfold asInt asIntOf
  refine same_bind (Φ := fun _ => True) ?_ fun _ _ => same_pure trivial
  cases h <;> first | exact same_stuck | exact same_observed | exact same_pure trivial
theorem same_asBool {v : Value} (h : Closed v) : Same P (fun _ => True) (asBool v) := by
  cases h <;> first | exact same_stuck | exact same_pure trivial

theorem same_shift (op : BinOp) (k : IntKind) (x : Int) (yk : IntKind) (y : Int) : Same P Closed (Op.shift op k x yk y) := by
  unfold Op.shift
  split
  · exact same_runtimeError
  · dsimp only
    split
    · exact same_pure (.int _ _)
    · exact same_pure (.int _ _)
    · exact same_stuck
theorem same_intArith (op : BinOp) (k : IntKind) (x y : Int) : Same P Closed (Op.intArith op k x y) := by
  unfold Op.intArith
  split <;> first | exact same_pure (.int _ _) | exact same_stuck
theorem same_intDiv (op : BinOp) (k : IntKind) (x y : Int) : Same P Closed (Op.intDiv op k x y) := by
  unfold Op.intDiv
  split
  · exact same_runtimeError
  · split <;> first | exact same_pure (.int _ _) | exact same_stuck
theorem same_intBits (op : BinOp) (k : IntKind) (x y : Int) : Same P Closed (Op.intBits op k x y) := by
  unfold Op.intBits
  dsimp only
  split <;> first | exact same_pure (.int _ _) | exact same_stuck
theorem same_intCmp (op : BinOp) (x y : Int) : Same P Closed (Op.intCmp op x y) := by
  unfold Op.intCmp
  split <;> first | exact same_pure (.bool _) | exact same_stuck
theorem same_floatArith (op : BinOp) (k : FloatKind) (x y : Nat) : Same P Closed (Op.floatArith op k x y) := by
  unfold Op.floatArith
  have key : ∀ (r : Option Nat), Same P Closed (match r with | some r => (Pure.pure (Value.float k r) : Sem Value) | none => do Pure.pure (.float k (← choose (.nanBits k x y)))) := by
    intro r
    split
    · exact same_pure (.float _ _)
    · exact same_bind (same_choose _) fun a _ => same_pure (.float _ _)
  dsimp only
  split <;> first | exact key _ | exact same_bind (Φ := fun _ => False) same_stuck fun _ h => h.elim
theorem same_floatCmp (op : BinOp) (k : FloatKind) (x y : Nat) : Same P Closed (Op.floatCmp op k x y) := by
  unfold Op.floatCmp
  dsimp only
  split <;> first | exact same_pure (.bool _) | exact same_stuck
theorem same_stringOp (op : BinOp) (x y : ByteArray) : Same P Closed (Op.stringOp op x y) := by
  unfold Op.stringOp
  dsimp only
  split
  · split
    · exact same_limit
    · exact same_pure (.string _)
  all_goals first | exact same_pure (.bool _) | exact same_stuck
theorem same_floatToFloat (s : FloatKind) (b : Nat) (d : FloatKind) : Same P Closed (Conv.floatToFloat s b d) := by
  unfold Conv.floatToFloat
  split
  · exact same_pure (.float _ _)
  · split
    · exact same_bind (same_choose _) fun a _ => same_pure (.float _ _)
    · exact same_pure (.float _ _)
    · dsimp only
      split
      · exact same_bind (same_choose _) fun a _ => same_pure (.float _ _)
      · exact same_pure (.float _ _)
theorem same_floatToInt (s : FloatKind) (b : Nat) (d : IntKind) : Same P Closed (Conv.floatToInt s b d) := by
  unfold Conv.floatToInt
  dsimp only
  split
  · split
    · exact same_pure (.int _ _)
    · exact same_bind (same_choose _) fun a _ => same_pure (.int _ _)
  · exact same_bind (same_choose _) fun a _ => same_pure (.int _ _)
theorem same_unary (op : UnOp) {v : Value} (h : Closed v) : Same P Closed (Op.unary op v) := by
  cases h <;> cases op <;> first | exact same_stuck | (unfold Op.unary; exact same_intArith _ _ _ _) | (unfold Op.unary; exact same_intBits _ _ _ _) | exact same_pure (.float _ _) | exact same_pure (.complex _ _ _) | exact same_pure (.bool _) | exact same_observed
/-- A conversion among numbers. -/
theorem same_convert {s d : TypeId} (hs : scalarT P s = true) (hd : scalarT P d = true) {v : Value} (h : Closed v) : Same P Closed (convert s d v) := by
  unfold convert
  refine same_bind (same_underlying s) fun a h1 => ?_
  refine same_bind (same_underlying d) fun c h2 => ?_
  unfold scalarT at hs hd
  rw [h1] at hs
  rw [h2] at hd
  cases a <;> simp only [Bool.false_eq_true] at hs <;> cases c <;> simp only [Bool.false_eq_true] at hd <;> cases h <;>
    first | exact same_noEntry | exact same_observed | exact same_pure (.int _ _) | exact same_pure (.float _ _) | exact same_floatToInt _ _ _ | exact same_floatToFloat _ _ _

/-- '==' at a type of numbers. -/
theorem same_equal {t : TypeId} (ht : scalarT P t = true) {a b : Value} (h : Closed a) (k : Closed b) : Same P (fun _ => True) (Op.equal t a b) := by
  unfold Op.equal Op.maxDepth Op.equalIn
  refine same_bind (same_underlying t) fun d h1 => ?_
  unfold scalarT at ht
  rw [h1] at ht
  cases d <;> simp only [Bool.false_eq_true] at ht
  · cases h <;> cases k <;> dsimp only <;> first | exact same_stuck | exact same_observed | exact same_pure trivial | skip
    split
    · exact same_pure trivial
    · exact same_stuck
  · cases h <;> cases k <;> dsimp only <;> first | exact same_stuck | exact same_observed | exact same_pure trivial | skip
    split
    · exact same_pure trivial
    · exact same_stuck

end Go.Proofs.Ytmhbjmkdekgmlaa.Sim
