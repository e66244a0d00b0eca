/-
  A run of one goroutine alone and its image in company: values, meanings and memory related by a table of block numbers.
  No conditions: general laws on the model's own terms.
-/
import Derived.Conc.Own5
import Derived.Conc.Neutral
set_option linter.unusedSimpArgs false
set_option linter.unusedVariables false
namespace Go.Proofs.Ytmhbjmkdekgmlaa.Sim
open Go

/-! ### values -/
/-- Values that name no place. -/
inductive Closed : Value → Prop
  | bool (b : Bool) : Closed (.bool b)
  | int (k : IntKind) (n : Int) : Closed (.int k n)
  | float (k : FloatKind) (b : Nat) : Closed (.float k b)
  | complex (k : FloatKind) (a b : Nat) : Closed (.complex k a b)
  | string (s : ByteArray) : Closed (.string s)
  | ptrNil : Closed (.pointer none)
  | sliceNil (n c : Nat) : Closed (.slice none n c)
  | mapNil : Closed (.map none)
  | chanNil : Closed (.chan none)
  | nilFunc : Closed .nilFunc
  | nilIface : Closed .nilIface
  | func (f : FuncId) : Closed (.func (.func f) #[] #[])
  | agg {as : Array Value} (h : ∀ i (ha : i < as.size), Closed as[i]) : Closed (.agg as)
  | tuple {as : Array Value} (h : ∀ i (ha : i < as.size), Closed as[i]) : Closed (.tuple as)

def AllClosed (as : Array Value) : Prop := ∀ i (ha : i < as.size), Closed as[i]

theorem AllClosed.get {as : Array Value} (h : AllClosed as) {i : Nat} {v : Value} (hi : as[i]? = some v) : Closed v := by
  obtain ⟨hlt, rfl⟩ := Array.getElem?_eq_some_iff.1 hi
  exact h i hlt
theorem AllClosed.set {as : Array Value} (h : AllClosed as) (i : Nat) {v : Value} (hv : Closed v) : AllClosed (as.setIfInBounds i v) := by
  intro j hj
  have hj' : j < as.size := by simpa using hj
  rw [Array.getElem_setIfInBounds hj']
  split
  · exact hv
  · exact h j hj'
theorem AllClosed.push {as : Array Value} (h : AllClosed as) {v : Value} (hv : Closed v) : AllClosed (as.push v) := by
  intro j hj
  rw [Array.getElem_push]
  split
  · exact h j _
  · exact hv
theorem AllClosed.nil : AllClosed #[] := fun i hi => absurd hi (by simp)
theorem AllClosed.one {v : Value} (hv : Closed v) : AllClosed #[v] := AllClosed.nil.push hv
theorem AllClosed.append {as bs : Array Value} (h : AllClosed as) (k : AllClosed bs) : AllClosed (as ++ bs) := by
  intro j hj
  by_cases hlt : j < as.size
  · rw [Array.getElem_append_left hlt]; exact h j hlt
  · rw [Array.getElem_append_right (by omega)]; exact k _ _
theorem AllClosed.map {α : Type} (xs : Array α) (f : α → Value) (h : ∀ x ∈ xs, Closed (f x)) : AllClosed (xs.map f) := fun i hi => by
  rw [Array.getElem_map]
  exact h _ (Array.getElem_mem _)
theorem Closed.cells {v : Value} (h : Closed v) : AllClosed v.cells := by
  cases h <;> simp only [Value.cells] <;> first | exact ‹_› | exact AllClosed.one (by constructor <;> assumption)
theorem Closed.undef : Closed undef := .tuple fun i hi => absurd hi (by simp)

/-- The lone run's block number i is block ρ[i] in company. -/
def AddrRel (ρ : Array Nat) (a b : Addr) : Prop := ρ[a.block]? = some b.block ∧ b.off = a.off ∧ b.spot = a.spot

inductive VRel (ρ : Array Nat) : Value → Value → Prop
  | same {v : Value} (h : Closed v) : VRel ρ v v
  | ptr {a b : Addr} (h : AddrRel ρ a b) : VRel ρ (.pointer (some a)) (.pointer (some b))
  | slice {a b : Addr} (n c : Nat) (h : AddrRel ρ a b) : VRel ρ (.slice (some a) n c) (.slice (some b) n c)
  | tuple {as bs : Array Value} (hs : as.size = bs.size) (h : ∀ i (ha : i < as.size) (hb : i < bs.size), VRel ρ as[i] bs[i]) : VRel ρ (.tuple as) (.tuple bs)

/-- Rows of values, place by place. -/
def CRel (ρ : Array Nat) (as bs : Array Value) : Prop := as.size = bs.size ∧ ∀ i (ha : i < as.size) (hb : i < bs.size), VRel ρ as[i] bs[i]

theorem VRel.eq_of_closed {ρ : Array Nat} {v v' : Value} (h : VRel ρ v v') (hc : Closed v) : v' = v := by
  induction h with
  | same _ => rfl
  | ptr _ => cases hc
  | slice _ _ _ => cases hc
  | tuple hs _ ih =>
    cases hc with
    | tuple h =>
      congr 1
      exact Array.ext hs.symm fun i h1 h2 => ih i h2 h1 (h i h2)

def Ext (ρ ρ' : Array Nat) : Prop := ∃ t, ρ' = ρ ++ t

theorem Ext.refl (ρ : Array Nat) : Ext ρ ρ := ⟨#[], by simp⟩
theorem Ext.trans {a b c : Array Nat} (h : Ext a b) (k : Ext b c) : Ext a c := by
  obtain ⟨t, rfl⟩ := h
  obtain ⟨u, rfl⟩ := k
  exact ⟨t ++ u, by simp [Array.append_assoc]⟩
theorem Ext.push (ρ : Array Nat) (b : Nat) : Ext ρ (ρ.push b) := ⟨#[b], by simp⟩
theorem Ext.get {ρ ρ' : Array Nat} (h : Ext ρ ρ') {i b : Nat} (hi : ρ[i]? = some b) : ρ'[i]? = some b := by
  obtain ⟨t, rfl⟩ := h
  have := (Array.getElem?_eq_some_iff.1 hi).1
  rw [Array.getElem?_append_left this]; exact hi
theorem Ext.size {ρ ρ' : Array Nat} (h : Ext ρ ρ') : ρ.size ≤ ρ'.size := by
  obtain ⟨t, rfl⟩ := h
  simp

theorem AddrRel.ext {ρ ρ' : Array Nat} (h : Ext ρ ρ') {a b : Addr} (k : AddrRel ρ a b) : AddrRel ρ' a b := ⟨h.get k.1, k.2⟩
theorem VRel.ext {ρ ρ' : Array Nat} (h : Ext ρ ρ') {a b : Value} (k : VRel ρ a b) : VRel ρ' a b := by
  induction k with
  | same h => exact .same h
  | ptr x => exact .ptr (x.ext h)
  | slice n c x => exact .slice n c (x.ext h)
  | tuple hs _ ih => exact .tuple hs ih
theorem CRel.ext {ρ ρ' : Array Nat} (h : Ext ρ ρ') {a b : Array Value} (k : CRel ρ a b) : CRel ρ' a b := ⟨k.1, fun i ha hb => (k.2 i ha hb).ext h⟩

theorem CRel.get {ρ : Array Nat} {a b : Array Value} (k : CRel ρ a b) {i : Nat} {v : Value} (h : a[i]? = some v) : ∃ v', b[i]? = some v' ∧ VRel ρ v v' := by
  obtain ⟨hi, rfl⟩ := Array.getElem?_eq_some_iff.1 h
  have hb : i < b.size := by rw [← k.1]; exact hi
  exact ⟨b[i], Array.getElem?_eq_getElem hb, k.2 i hi hb⟩
theorem CRel.getNone {ρ : Array Nat} {a b : Array Value} (k : CRel ρ a b) {i : Nat} (h : a[i]? = none) : b[i]? = none := by
  rw [Array.getElem?_eq_none_iff] at h ⊢
  rw [← k.1]; exact h
theorem CRel.set {ρ : Array Nat} {a b : Array Value} (k : CRel ρ a b) (i : Nat) {v v' : Value} (h : VRel ρ v v') : CRel ρ (a.setIfInBounds i v) (b.setIfInBounds i v') := by
  refine ⟨by simp [k.1], fun j ha hb => ?_⟩
  have ha' : j < a.size := by simpa using ha
  have hb' : j < b.size := by simpa using hb
  rw [Array.getElem_setIfInBounds ha', Array.getElem_setIfInBounds hb']
  split
  · exact h
  · exact k.2 j ha' hb'
theorem CRel.of_closed {ρ : Array Nat} {a : Array Value} (h : AllClosed a) : CRel ρ a a := ⟨rfl, fun i ha _ => .same (h i ha)⟩
theorem CRel.append {ρ : Array Nat} {a b c d : Array Value} (k : CRel ρ a b) (l : CRel ρ c d) : CRel ρ (a ++ c) (b ++ d) := by
  refine ⟨by simp [k.1, l.1], fun j ha hb => ?_⟩
  by_cases h : j < a.size
  · rw [Array.getElem_append_left h, Array.getElem_append_left (by rw [← k.1]; exact h)]
    exact k.2 j _ _
  · rw [Array.getElem_append_right (by omega), Array.getElem_append_right (by rw [← k.1]; omega)]
    have e := k.1
    simp only [← e]
    exact l.2 _ _ _
theorem CRel.getD {ρ : Array Nat} {a b : Array Value} (k : CRel ρ a b) (i : Nat) : VRel ρ (a.getD i undef) (b.getD i undef) := by
  rw [Array.getD_eq_getD_getElem?, Array.getD_eq_getD_getElem?]
  cases h : a[i]? with
  | none => rw [k.getNone h]; exact .same .undef
  | some v => obtain ⟨v', h', r⟩ := k.get h; rw [h']; exact r

/-! ### meanings -/
/-- Ways to stop that no goroutine comes back from without a panic. -/
def dead : Halt → Bool
  | .panic _ | .stuck _ => true
  | .unsupported (.initOrder _) => false
  | .unsupported _ => true
  | _ => false

/-- Marks that hand nothing over and touch nothing. -/
def idleMark : Mark → Bool
  | .noRoom | .extern _ => true
  | _ => false

inductive SRel (P : Program) {α β : Type} (Φ : Array Nat → α → β → Prop) : Array Nat → Sem α → Sem β → Prop
  | pure {ρ : Array Nat} {a : α} {b : β} (h : Φ ρ a b) : SRel P Φ ρ (.pure a) (.pure b)
  | load {ρ : Array Nat} {a b : Addr} {k : Value → Sem α} {k' : Value → Sem β} (h : AddrRel ρ a b) (hk : ∀ v, Closed v → SRel P Φ ρ (k v) (k' v)) : SRel P Φ ρ (.load .plain a k) (.load .plain b k')
  | store {ρ : Array Nat} {a b : Addr} {v : Value} {k : Sem α} {k' : Sem β} (h : AddrRel ρ a b) (hv : Closed v) (hk : SRel P Φ ρ k k') : SRel P Φ ρ (.store .plain a v k) (.store .plain b v k')
  | new {ρ : Array Nat} {c : Array Value} {e : TypeId} {k : Nat → Sem α} {k' : Nat → Sem β} (h : AllClosed c) (hk : ∀ b, SRel P Φ (ρ.push b) (k ρ.size) (k' b)) : SRel P Φ ρ (.new (.cells c e) k) (.new (.cells c e) k')
  | shape {ρ : Array Nat} {r r' : Nat} {k : Option (TypeId × Nat) → Sem α} {k' : Option (TypeId × Nat) → Sem β} (h : ρ[r]? = some r') (hk : ∀ e n, SRel P Φ ρ (k (some (e, n))) (k' (some (e, n)))) : SRel P Φ ρ (.shape r k) (.shape r' k')
  | frozen {ρ : Array Nat} {a b : Addr} {k : Bool → Sem α} {k' : Bool → Sem β} (h : AddrRel ρ a b) (hk : ∀ s, SRel P Φ ρ (k s) (k' s)) : SRel P Φ ρ (.frozen a k) (.frozen b k')
  | choose {ρ : Array Nat} (q : Question) {k : Nat → Sem α} {k' : Nat → Sem β} (hk : ∀ n, SRel P Φ ρ (k n) (k' n)) : SRel P Φ ρ (.choose q k) (.choose q k')
  | program {ρ : Array Nat} {k : Program → Sem α} {k' : Program → Sem β} (hk : SRel P Φ ρ (k P) (k' P)) : SRel P Φ ρ (.program k) (.program k')
  | mark {ρ : Array Nat} (m : Mark) {k : Sem α} {k' : Sem β} (hm : idleMark m = true) (hk : SRel P Φ ρ k k') : SRel P Φ ρ (.mark m k) (.mark m k')
  | stop {ρ : Array Nat} (h : Halt) (m : Sem β) (hh : dead h = true) : SRel P Φ ρ (.halt h) m
  | peekShape {ρ : Array Nat} {r : Nat} {k : Option (TypeId × Nat) → Sem α} {m : Sem β} (hk : ∀ s, SRel P Φ ρ (k s) m) : SRel P Φ ρ (.shape r k) m
  | peekFrozen {ρ : Array Nat} {a : Addr} {k : Bool → Sem α} {m : Sem β} (hk : ∀ s, SRel P Φ ρ (k s) m) : SRel P Φ ρ (.frozen a k) m
  | peekMark {ρ : Array Nat} {x : Mark} {k : Sem α} {m : Sem β} (hk : SRel P Φ ρ k m) : SRel P Φ ρ (.mark x k) m

theorem SRel.mono {P : Program} {α β : Type} {Φ Ψ : Array Nat → α → β → Prop} {ρ : Array Nat} {m : Sem α} {m' : Sem β} (h : SRel P Φ ρ m m') : (∀ ρ' a b, Ext ρ ρ' → Φ ρ' a b → Ψ ρ' a b) → SRel P Ψ ρ m m' := by
  induction h with
  | pure h => exact fun hi => .pure (hi _ _ _ (.refl _) h)
  | load h _ ih => exact fun hi => .load h fun v r => ih v r hi
  | store h hv _ ih => exact fun hi => .store h hv (ih hi)
  | new h _ ih => exact fun hi => .new h fun b => ih b fun ρ' a b x y => hi ρ' a b ((Ext.push _ _).trans x) y
  | shape h _ ih => exact fun hi => .shape h fun e n => ih e n hi
  | frozen h _ ih => exact fun hi => .frozen h fun s => ih s hi
  | choose q _ ih => exact fun hi => .choose q fun n => ih n hi
  | program _ ih => exact fun hi => .program (ih hi)
  | mark m hm _ ih => exact fun hi => .mark m hm (ih hi)
  | stop h m hh => exact fun _ => .stop h m hh
  | peekShape _ ih => exact fun hi => .peekShape fun s => ih s hi
  | peekFrozen _ ih => exact fun hi => .peekFrozen fun s => ih s hi
  | peekMark _ ih => exact fun hi => .peekMark (ih hi)

theorem SRel.bind {P : Program} {α β γ δ : Type} {Φ : Array Nat → α → β → Prop} {Ψ : Array Nat → γ → δ → Prop} {ρ : Array Nat} {m : Sem α} {m' : Sem β} {f : α → Sem γ} {f' : β → Sem δ}
    (h : SRel P Φ ρ m m') : (∀ ρ' a b, Ext ρ ρ' → Φ ρ' a b → SRel P Ψ ρ' (f a) (f' b)) → SRel P Ψ ρ (m.bind f) (m'.bind f') := by
  induction h with
  | pure h => exact fun hf => hf _ _ _ (.refl _) h
  | load h _ ih => exact fun hf => .load h fun v r => ih v r hf
  | store h hv _ ih => exact fun hf => .store h hv (ih hf)
  | new h _ ih => exact fun hf => .new h fun b => ih b fun ρ' a b x y => hf ρ' a b ((Ext.push _ _).trans x) y
  | shape h _ ih => exact fun hf => .shape h fun e n => ih e n hf
  | frozen h _ ih => exact fun hf => .frozen h fun s => ih s hf
  | choose q _ ih => exact fun hf => .choose q fun n => ih n hf
  | program _ ih => exact fun hf => .program (ih hf)
  | mark m hm _ ih => exact fun hf => .mark m hm (ih hf)
  | stop h m hh => exact fun _ => .stop h _ hh
  | peekShape _ ih => exact fun hf => .peekShape fun s => ih s hf
  | peekFrozen _ ih => exact fun hf => .peekFrozen fun s => ih s hf
  | peekMark _ ih => exact fun hf => .peekMark (ih hf)

/-! ### worlds -/
structure HRel (ρ : Array Nat) (u w : World) : Prop where
  size : ρ.size = u.heap.size
  inj : ∀ (i j b : Nat), ρ[i]? = some b → ρ[j]? = some b → i = j
  low : ∀ (i b : Nat), ρ[i]? = some b → b < w.heap.size
  row : ∀ (i b : Nat), ρ[i]? = some b → ∃ (c : Array Value) (e : TypeId) (f : Nat × Nat), u.heap[i]? = some (.cells c e f) ∧ w.heap[b]? = some (.cells c e f) ∧ AllClosed c

/-- What the step in company leaves alone. -/
structure Far (ρ ρ' : Array Nat) (w w' : World) : Prop where
  tape : w'.tape = w.tape
  os : w'.os = w.os
  output : w'.output = w.output
  size : w'.heap.size = w.heap.size + (ρ'.size - ρ.size)
  fresh : ∀ i, ρ.size ≤ i → i < ρ'.size → ρ'[i]? = some (w.heap.size + (i - ρ.size))
  old : ∀ b, b < w.heap.size → (∀ i : Nat, ρ[i]? ≠ some b) → w'.heap[b]? = w.heap[b]?

theorem Far.refl (ρ : Array Nat) (w : World) : Far ρ ρ w w := ⟨rfl, rfl, rfl, by simp, fun i h1 h2 => by omega, fun _ _ _ => rfl⟩

theorem Far.trans {a b c : Array Nat} {w₀ w₁ w₂ : World} (hab : Ext a b) (hbc : Ext b c) (h : Far a b w₀ w₁) (k : Far b c w₁ w₂) : Far a c w₀ w₂ := by
  have e1 := hab.size
  have e2 := hbc.size
  refine ⟨k.tape.trans h.tape, k.os.trans h.os, k.output.trans h.output, by rw [k.size, h.size]; omega, fun i h1 h2 => ?_, fun x hx hn => ?_⟩
  · rcases Nat.lt_or_ge i b.size with hi | hi
    · exact hbc.get (h.fresh i h1 hi)
    · rw [k.fresh i hi h2, h.size]
      exact congrArg some (by omega)
  · rw [k.old x (by rw [h.size]; omega) (fun i hi => ?_), h.old x hx hn]
    rcases Nat.lt_or_ge i a.size with hlt | hge
    · obtain ⟨y, hy⟩ : ∃ y, a[i]? = some y := ⟨a[i], Array.getElem?_eq_getElem hlt⟩
      have := hab.get hy
      rw [this] at hi
      cases hi
      exact hn i hy
    · have hib : i < b.size := (Array.getElem?_eq_some_iff.1 hi).1
      rw [h.fresh i hge hib] at hi
      cases hi
      omega

/-- What it lists: plain accesses of its own blocks, and idle marks. -/
def EvOk (ρ : Array Nat) (e : Event) : Prop :=
  (∃ (a : Addr) (wr : Bool) (i : Nat), e = ⟨.cell a, wr, false⟩ ∧ ρ[i]? = some a.block) ∨ (∃ m, e = ⟨.mark m, false, true⟩ ∧ idleMark m = true)
theorem EvOk.ext {ρ ρ' : Array Nat} (h : Ext ρ ρ') {e : Event} (k : EvOk ρ e) : EvOk ρ' e := by
  rcases k with ⟨a, wr, i, rfl, hi⟩ | hm
  · exact .inl ⟨a, wr, i, rfl, h.get hi⟩
  · exact .inr hm

theorem HRel.cell {ρ : Array Nat} {u w : World} (H : HRel ρ u w) {a b : Addr} (h : AddrRel ρ a b) : w.cell? b = u.cell? a ∧ ∀ v, u.cell? a = some v → Closed v := by
  obtain ⟨c, e, f, h1, h2, h3⟩ := H.row _ _ h.1
  unfold World.cell?
  rw [h1, h2]
  simp only [h.2.2, h.2.1]
  refine ⟨trivial, fun v hv => ?_⟩
  split at hv
  · cases hv
  · exact h3.get hv

theorem HRel.frozen {ρ : Array Nat} {u w : World} (H : HRel ρ u w) {a b : Addr} (h : AddrRel ρ a b) : w.frozen? b = u.frozen? a := by
  obtain ⟨c, e, f, h1, h2, h3⟩ := H.row _ _ h.1
  unfold World.frozen?
  rw [h1, h2]
  simp only [h.2.1]

theorem HRel.shape {ρ : Array Nat} {u w : World} (H : HRel ρ u w) {r r' : Nat} (h : ρ[r]? = some r') : ∃ e n, u.shape? r = some (e, n) ∧ w.shape? r' = some (e, n) := by
  obtain ⟨c, e, f, h1, h2, h3⟩ := H.row _ _ h
  unfold World.shape?
  rw [h1, h2]
  exact ⟨e, c.size, rfl, rfl⟩

theorem HRel.set {ρ : Array Nat} {u w : World} (H : HRel ρ u w) {a b : Addr} (h : AddrRel ρ a b) {v : Value} (hv : Closed v) : HRel ρ (u.setCell a v) (w.setCell b v) := by
  refine ⟨by simp [World.setCell, H.size], H.inj, fun i x hx => by simpa [World.setCell] using H.low i x hx, fun i x hx => ?_⟩
  obtain ⟨c, e, f, h1, h2, h3⟩ := H.row i x hx
  by_cases hi : i = a.block
  · subst hi
    have : x = b.block := by have := h.1; rw [this] at hx; cases hx; rfl
    subst this
    refine ⟨if a.spot.isSome then c else c.setIfInBounds a.off v, e, f, ?_, ?_, ?_⟩
    · simp [World.setCell, Array.getElem?_modify, h1]
    · simp [World.setCell, Array.getElem?_modify, h2, h.2.1, h.2.2]
    · split
      · exact h3
      · exact h3.set _ hv
  · have hx' : x ≠ b.block := fun e => hi (H.inj _ _ x hx (e ▸ h.1))
    refine ⟨c, e, f, ?_, ?_, h3⟩
    · simp [World.setCell, Array.getElem?_modify, h1, Ne.symm hi]
    · simp [World.setCell, Array.getElem?_modify, h2, Ne.symm hx']

theorem HRel.push {ρ : Array Nat} {u w : World} (H : HRel ρ u w) {c : Array Value} (e : TypeId) (h : AllClosed c) :
    HRel (ρ.push w.heap.size) { u with heap := u.heap.push (.cells c e) } { w with heap := w.heap.push (.cells c e) } := by
  have split : ∀ {i b : Nat}, (ρ.push w.heap.size)[i]? = some b → (i < ρ.size ∧ ρ[i]? = some b) ∨ (i = ρ.size ∧ b = w.heap.size) := by
    intro i b h
    rw [Array.getElem?_push] at h
    split at h
    · cases h; exact .inr ⟨‹_›, rfl⟩
    · exact .inl ⟨(Array.getElem?_eq_some_iff.1 h).1, h⟩
  refine ⟨by simp [H.size], fun i j b hi hj => ?_, fun i b hi => ?_, fun i b hi => ?_⟩
  · rcases split hi with ⟨_, h1⟩ | ⟨h1, rfl⟩ <;> rcases split hj with ⟨_, h2⟩ | ⟨h2, h3⟩
    · exact H.inj i j b h1 h2
    · have := H.low i b h1; omega
    · have := H.low j _ h2; omega
    · omega
  · simp only [Array.size_push]
    rcases split hi with ⟨_, h1⟩ | ⟨h1, rfl⟩
    · have := H.low i b h1; omega
    · omega
  · rcases split hi with ⟨hlt, h1⟩ | ⟨rfl, rfl⟩
    · obtain ⟨d, t, f, x1, x2, x3⟩ := H.row i b h1
      have l1 := (Array.getElem?_eq_some_iff.1 x1).1
      have l2 := (Array.getElem?_eq_some_iff.1 x2).1
      refine ⟨d, t, f, ?_, ?_, x3⟩
      · rw [Array.getElem?_push_lt l1]; simpa [Array.getElem?_eq_getElem l1] using x1
      · rw [Array.getElem?_push_lt l2]; simpa [Array.getElem?_eq_getElem l2] using x2
    · exact ⟨c, e, (0, 0), by simp [H.size], by simp, h⟩

/-- The others' doing: the blocks of the table stand, nothing goes. -/
theorem HRel.rely {ρ : Array Nat} {u w w₁ : World} (H : HRel ρ u w) (hs : w.heap.size ≤ w₁.heap.size) (h : ∀ (i b : Nat), ρ[i]? = some b → w₁.heap[b]? = w.heap[b]?) : HRel ρ u w₁ :=
  ⟨H.size, H.inj, fun i b hi => Nat.lt_of_lt_of_le (H.low i b hi) hs, fun i b hi => by rw [h i b hi]; exact H.row i b hi⟩
/-- Another tape for the lone run. -/
theorem HRel.tape {ρ : Array Nat} {u u₁ w : World} (H : HRel ρ u w) (h : u₁.heap = u.heap) : HRel ρ u₁ w := ⟨by rw [h]; exact H.size, H.inj, H.low, by rw [h]; exact H.row⟩

/-- The lone run's count of answers goes up, its tape stands. -/
theorem SRel.drawn {P : Program} {α β : Type} {Φ : Array Nat → α → β → Prop} {ρ : Array Nat} {m : Sem α} {m' : Sem β} (h : SRel P Φ ρ m m') :
    ∀ (u w : World) (x : α) (u' : World), HRel ρ u w → m.run P u = .ok x u' → u.drawn ≤ u'.drawn ∧ u'.tape = u.tape := by
  induction h with
  | pure _ =>
    intro u w x u' _ hr
    simp only [Sem.run, Result.ok.injEq] at hr
    obtain ⟨_, rfl⟩ := hr
    exact ⟨Nat.le_refl _, rfl⟩
  | @load ρ a b k k' h hk ih =>
    intro u w x u' H hr
    simp only [Sem.run] at hr
    obtain ⟨hc', hcl⟩ := H.cell h
    cases hc : u.cell? a with
    | none =>
      rw [hc] at hr
      obtain ⟨c, e, f, h1, h2, h3⟩ := H.row _ _ h.1
      simp [World.farLoad, h1, World.noCell] at hr
    | some v =>
      rw [hc] at hr
      exact ih v (hcl v hc) u w x u' H hr
  | @store ρ a b v k k' h hv hk ih =>
    intro u w x u' H hr
    by_cases h1 : ∃ c, v = .agg c
    · obtain ⟨c, rfl⟩ := h1
      simp [Sem.run] at hr
    by_cases h2 : ∃ c, v = .tuple c
    · obtain ⟨c, rfl⟩ := h2
      simp [Sem.run] at hr
    have hr' : (match u.cell? a with
      | some _ => if u.frozen? a then Result.halt (.unsupported (.unsafePointer "a write to bytes that a string shares")) u else k.run P (u.setCell a v)
      | none => match u.farStore P a v false with
        | .ok (w, _) => k.run P w
        | .error h => .halt h u) = .ok x u' := by
      rw [← hr]
      cases v <;> first | exact absurd ⟨_, rfl⟩ h1 | exact absurd ⟨_, rfl⟩ h2 | rfl
    cases hc : u.cell? a with
    | none =>
      rw [hc] at hr'
      obtain ⟨c, e, f, h1, h2, h3⟩ := H.row _ _ h.1
      simp [World.farStore, h1, World.noCell] at hr'
    | some y =>
      rw [hc] at hr'
      simp only at hr'
      split at hr'
      · cases hr'
      · exact ih (u.setCell a v) (w.setCell b v) x u' (H.set h hv) hr'
  | @new ρ c e k k' h hk ih =>
    intro u w x u' H hr
    simp only [Sem.run] at hr
    rw [← H.size] at hr
    exact ih w.heap.size { u with heap := u.heap.push (.cells c e) } { w with heap := w.heap.push (.cells c e) } x u' (H.push e h) hr
  | @shape ρ r r' k k' h hk ih =>
    intro u w x u' H hr
    simp only [Sem.run] at hr
    obtain ⟨e0, n0, s1, s2⟩ := H.shape h
    rw [s1] at hr
    exact ih e0 n0 u w x u' H hr
  | @frozen ρ a b k k' h hk ih =>
    intro u w x u' H hr
    simp only [Sem.run] at hr
    exact ih _ u w x u' H hr
  | @choose ρ q k k' hk ih =>
    intro u w x u' H hr
    simp only [Sem.run] at hr
    split at hr
    · exact ih 0 u w x u' H hr
    · have := ih _ { u with drawn := u.drawn + 1 } w x u' (H.tape rfl) hr
      exact ⟨Nat.le_trans (Nat.le_succ _) this.1, this.2⟩
  | program hk ih =>
    intro u w x u' H hr
    simp only [Sem.run] at hr
    exact ih u w x u' H hr
  | mark m hm hk ih =>
    intro u w x u' H hr
    simp only [Sem.run] at hr
    exact ih u w x u' H hr
  | stop h m hh =>
    intro u w x u' H hr
    simp [Sem.run] at hr
  | peekShape _ ih => intro u w x u' H hr; exact ih _ u w x u' H hr
  | peekFrozen _ ih => intro u w x u' H hr; exact ih _ u w x u' H hr
  | peekMark _ ih => intro u w x u' H hr; exact ih u w x u' H hr

/-- The tape in company answers, from now on and as long as the lone run asks till u', what the lone run's tape answers. -/
def Agree (u u' w : World) : Prop := ∀ (i : Nat) (q : Question), u.drawn + i < u'.drawn → u.tape (u.drawn + i) q = w.tape (w.drawn + i) q

/-- A STEP OF MEANING: whatever the lone run comes to, the run in company comes to its image. -/
theorem SRel.sound {P : Program} {α β : Type} {Φ : Array Nat → α → β → Prop} {ρ : Array Nat} {m : Sem α} {m' : Sem β} (h : SRel P Φ ρ m m') :
    ∀ (u w : World) (es : Array Event) (a : α) (u' : World), HRel ρ u w → m.run P u = .ok a u' → Agree u u' w →
      ∃ (ρ' : Array Nat) (b : β) (w' : World) (es' : Array Event), Ext ρ ρ' ∧ m'.runT P w es = (.ok b w', es') ∧ Φ ρ' a b ∧ HRel ρ' u' w' ∧ w'.drawn + u.drawn = w.drawn + u'.drawn ∧ Far ρ ρ' w w' ∧ (∀ e ∈ es', e ∈ es ∨ EvOk ρ' e) := by
  induction h with
  | @pure ρ a b h =>
    intro u w es x u' H hr T
    simp only [Sem.run, Result.ok.injEq] at hr
    obtain ⟨rfl, rfl⟩ := hr
    exact ⟨ρ, b, w, es, .refl _, rfl, h, H, rfl, .refl _ _, fun e he => .inl he⟩
  | @load ρ a b k k' h hk ih =>
    intro u w es x u' H hr T
    simp only [Sem.run] at hr
    obtain ⟨hc', hcl⟩ := H.cell h
    cases hc : u.cell? a with
    | none =>
      rw [hc] at hr
      obtain ⟨c, e, f, h1, h2, h3⟩ := H.row _ _ h.1
      simp [World.farLoad, h1] at hr
    | some v =>
      rw [hc] at hr hc'
      obtain ⟨ρ', y, w', es', e1, e2, e3, e4, e5, e6, e7⟩ := ih v (hcl v hc) u w (es.push ⟨.cell b, false, false⟩) x u' H hr T
      refine ⟨ρ', y, w', es', e1, ?_, e3, e4, e5, e6, fun e he => ?_⟩
      · simp only [Sem.runT, hc']; exact e2
      · rcases e7 e he with he | he
        · rcases Array.mem_push.1 he with he | rfl
          · exact .inl he
          · exact .inr (.inl ⟨b, false, a.block, rfl, e1.get h.1⟩)
        · exact .inr he
  | @store ρ a b v k k' h hv hk ih =>
    intro u w es x u' H hr T
    have hone : (∀ c, v ≠ .agg c) ∧ (∀ c, v ≠ .tuple c) := by
      constructor <;> (intro c e; subst e; simp [Sem.run] at hr)
    have hr' : (match u.cell? a with
      | some _ => if u.frozen? a then Result.halt (.unsupported (.unsafePointer "a write to bytes that a string shares")) u else k.run P (u.setCell a v)
      | none => match u.farStore P a v false with
        | .ok (w, _) => k.run P w
        | .error h => .halt h u) = .ok x u' := by
      rw [← hr]
      cases v <;> first | exact absurd rfl (hone.1 _) | exact absurd rfl (hone.2 _) | rfl
    have hrT : ∀ es, (Sem.store Mode.plain b v k').runT P w es = (match w.cell? b with
      | some _ =>
        if w.frozen? b then (Result.halt (.unsupported (.unsafePointer "a write to bytes that a string shares")) w, es)
        else k'.runT P (w.setCell b v) (es.push ⟨.cell b, true, false⟩)
      | none => match w.farStore P b v false with
        | .ok (w, touched) => k'.runT P w (es ++ touched.toArray.map (⟨.cell ·, true, false⟩))
        | .error h => (.halt h w, es)) := by
      intro es
      cases v <;> first | exact absurd rfl (hone.1 _) | exact absurd rfl (hone.2 _) | rfl
    obtain ⟨hc', _⟩ := H.cell h
    cases hc : u.cell? a with
    | none =>
      rw [hc] at hr'
      obtain ⟨c, e, f, h1, h2, h3⟩ := H.row _ _ h.1
      simp [World.farStore, h1] at hr'
    | some y =>
      rw [hc] at hr' hc'
      simp only at hr'
      cases hf : u.frozen? a with
      | true => rw [hf] at hr'; simp at hr'
      | false =>
        rw [hf] at hr'
        simp only [Bool.false_eq_true, if_false] at hr'
        obtain ⟨ρ', z, w', es', e1, e2, e3, e4, e5, e6, e7⟩ := ih (u.setCell a v) (w.setCell b v) (es.push ⟨.cell b, true, false⟩) x u' (H.set h hv) hr' T
        refine ⟨ρ', z, w', es', e1, ?_, e3, e4, e5, ⟨e6.tape, e6.os, e6.output, by rw [e6.size]; simp [World.setCell], fun i h1 h2 => by rw [e6.fresh i h1 h2]; simp [World.setCell], fun j hj hn => ?_⟩, fun e he => ?_⟩
        · rw [hrT, hc']
          simp only [H.frozen h, hf, Bool.false_eq_true, if_false]
          exact e2
        · rw [e6.old j (by simpa [World.setCell] using hj) hn]
          have : b.block ≠ j := fun e => hn _ (e ▸ h.1)
          simp [World.setCell, Array.getElem?_modify, this]
        · rcases e7 e he with he | he
          · rcases Array.mem_push.1 he with he | rfl
            · exact .inl he
            · exact .inr (.inl ⟨b, true, a.block, rfl, e1.get h.1⟩)
          · exact .inr he
  | @new ρ c e k k' h hk ih =>
    intro u w es x u' H hr T
    simp only [Sem.run] at hr
    rw [← H.size] at hr
    obtain ⟨ρ', y, w', es', e1, e2, e3, e4, e5, e6, e7⟩ := ih w.heap.size { u with heap := u.heap.push (.cells c e) } { w with heap := w.heap.push (.cells c e) } es x u' (H.push e h) hr T
    have f0 : Far ρ (ρ.push w.heap.size) w { w with heap := w.heap.push (.cells c e) } := by
      refine ⟨rfl, rfl, rfl, by simp, fun i h1 h2 => ?_, fun b hb _ => ?_⟩
      · simp only [Array.size_push] at h2
        have : i = ρ.size := by omega
        subst this
        simp
      · rw [Array.getElem?_push_lt hb, Array.getElem?_eq_getElem hb]
    exact ⟨ρ', y, w', es', (Ext.push _ _).trans e1, by simp only [Sem.runT]; exact e2, e3, e4, e5, f0.trans (Ext.push _ _) e1 e6, e7⟩
  | @shape ρ r r' k k' h hk ih =>
    intro u w es x u' H hr T
    simp only [Sem.run] at hr
    obtain ⟨e0, n0, s1, s2⟩ := H.shape h
    rw [s1] at hr
    obtain ⟨ρ', y, w', es', e1, e2, e3⟩ := ih e0 n0 u w es x u' H hr T
    exact ⟨ρ', y, w', es', e1, by simp only [Sem.runT, s2]; exact e2, e3⟩
  | @frozen ρ a b k k' h hk ih =>
    intro u w es x u' H hr T
    simp only [Sem.run] at hr
    obtain ⟨ρ', y, w', es', e1, e2, e3⟩ := ih _ u w es x u' H hr T
    exact ⟨ρ', y, w', es', e1, by simp only [Sem.runT, H.frozen h]; exact e2, e3⟩
  | @choose ρ q k k' hk ih =>
    intro u w es x u' H hr T
    simp only [Sem.run] at hr
    cases hq : q.forced with
    | true =>
      simp only [hq, if_true] at hr
      obtain ⟨ρ', y, w', es', e1, e2, e3⟩ := ih 0 u w es x u' H hr T
      exact ⟨ρ', y, w', es', e1, by simp only [Sem.runT, hq, if_true]; exact e2, e3⟩
    | false =>
      simp only [hq, Bool.false_eq_true, if_false] at hr
      have H' : HRel ρ { u with drawn := u.drawn + 1 } { w with drawn := w.drawn + 1 } := ⟨H.size, H.inj, H.low, H.row⟩
      have hlt : u.drawn + 1 ≤ u'.drawn := ((hk _).drawn _ _ x u' H' hr).1
      have ht := T 0 q (by omega)
      simp only [Nat.add_zero] at ht
      have T' : Agree { u with drawn := u.drawn + 1 } u' { w with drawn := w.drawn + 1 } := fun i q hi => by
        have := T (1 + i) q (by simp only at hi; omega)
        simpa [Nat.add_assoc] using this
      obtain ⟨ρ', y, w', es', e1, e2, e3, e4, e5, e6, e7⟩ := ih _ _ _ es x u' H' hr T'
      exact ⟨ρ', y, w', es', e1, by simp only [Sem.runT, hq, Bool.false_eq_true, if_false, ← ht]; exact e2, e3, e4, by simp only at e5; omega, ⟨e6.tape, e6.os, e6.output, e6.size, e6.fresh, e6.old⟩, e7⟩
  | program hk ih =>
    intro u w es x u' H hr T
    simp only [Sem.run] at hr
    obtain ⟨ρ', y, w', es', e1, e2, e3⟩ := ih u w es x u' H hr T
    exact ⟨ρ', y, w', es', e1, by simp only [Sem.runT]; exact e2, e3⟩
  | mark m hm hk ih =>
    intro u w es x u' H hr T
    simp only [Sem.run] at hr
    obtain ⟨ρ', y, w', es', e1, e2, e3, e4, e5, e6, e7⟩ := ih u w (es.push ⟨.mark m, false, true⟩) x u' H hr T
    refine ⟨ρ', y, w', es', e1, by simp only [Sem.runT]; exact e2, e3, e4, e5, e6, fun e he => ?_⟩
    rcases e7 e he with he | he
    · rcases Array.mem_push.1 he with he | rfl
      · exact .inl he
      · exact .inr (.inr ⟨m, rfl, hm⟩)
    · exact .inr he
  | stop h m hh =>
    intro u w es x u' H hr T
    simp [Sem.run] at hr
  | peekShape _ ih => intro u w es x u' H hr T; exact ih _ u w es x u' H hr T
  | peekFrozen _ ih => intro u w es x u' H hr T; exact ih _ u w es x u' H hr T
  | peekMark _ ih => intro u w es x u' H hr T; exact ih u w es x u' H hr T

/-- Where the lone run halts, it halts dead. -/
theorem SRel.halts {P : Program} {α β : Type} {Φ : Array Nat → α → β → Prop} {ρ : Array Nat} {m : Sem α} {m' : Sem β} (h : SRel P Φ ρ m m') :
    ∀ (u w : World) (x : Halt) (u' : World), HRel ρ u w → m.run P u = .halt x u' → dead x = true := by
  induction h with
  | pure _ => intro u w x u' _ hr; simp [Sem.run] at hr
  | @load ρ a b k k' h hk ih =>
    intro u w x u' H hr
    simp only [Sem.run] at hr
    obtain ⟨hc', hcl⟩ := H.cell h
    cases hc : u.cell? a with
    | none =>
      rw [hc] at hr
      obtain ⟨c, e, f, h1, h2, h3⟩ := H.row _ _ h.1
      simp [World.farLoad, h1, World.noCell] at hr
      obtain ⟨rfl, _⟩ := hr
      rfl
    | some v =>
      rw [hc] at hr
      exact ih v (hcl v hc) u w x u' H hr
  | @store ρ a b v k k' h hv hk ih =>
    intro u w x u' H hr
    by_cases h1 : ∃ c, v = .agg c
    · obtain ⟨c, rfl⟩ := h1
      simp [Sem.run] at hr
      obtain ⟨rfl, _⟩ := hr
      rfl
    by_cases h2 : ∃ c, v = .tuple c
    · obtain ⟨c, rfl⟩ := h2
      simp [Sem.run] at hr
      obtain ⟨rfl, _⟩ := hr
      rfl
    have hr' : (match u.cell? a with
      | some _ => if u.frozen? a then Result.halt (.unsupported (.unsafePointer "a write to bytes that a string shares")) u else k.run P (u.setCell a v)
      | none => match u.farStore P a v false with
        | .ok (w, _) => k.run P w
        | .error h => .halt h u) = .halt x u' := by
      rw [← hr]
      cases v <;> first | exact absurd ⟨_, rfl⟩ h1 | exact absurd ⟨_, rfl⟩ h2 | rfl
    cases hc : u.cell? a with
    | none =>
      rw [hc] at hr'
      obtain ⟨c, e, f, h1, h2, h3⟩ := H.row _ _ h.1
      simp [World.farStore, h1, World.noCell] at hr'
      obtain ⟨rfl, _⟩ := hr'
      rfl
    | some y =>
      rw [hc] at hr'
      simp only at hr'
      split at hr'
      · cases hr'
        rfl
      · exact ih (u.setCell a v) (w.setCell b v) x u' (H.set h hv) hr'
  | @new ρ c e k k' h hk ih =>
    intro u w x u' H hr
    simp only [Sem.run] at hr
    rw [← H.size] at hr
    exact ih w.heap.size _ _ x u' (H.push e h) hr
  | @shape ρ r r' k k' h hk ih =>
    intro u w x u' H hr
    simp only [Sem.run] at hr
    obtain ⟨e0, n0, s1, s2⟩ := H.shape h
    rw [s1] at hr
    exact ih e0 n0 u w x u' H hr
  | @frozen ρ a b k k' h hk ih =>
    intro u w x u' H hr
    simp only [Sem.run] at hr
    exact ih _ u w x u' H hr
  | @choose ρ q k k' hk ih =>
    intro u w x u' H hr
    simp only [Sem.run] at hr
    split at hr
    · exact ih 0 u w x u' H hr
    · exact ih _ { u with drawn := u.drawn + 1 } w x u' (H.tape rfl) hr
  | program hk ih =>
    intro u w x u' H hr
    simp only [Sem.run] at hr
    exact ih u w x u' H hr
  | mark m hm hk ih =>
    intro u w x u' H hr
    simp only [Sem.run] at hr
    exact ih u w x u' H hr
  | stop h m hh =>
    intro u w x u' H hr
    simp [Sem.run] at hr
    obtain ⟨rfl, _⟩ := hr
    exact hh
  | peekShape _ ih => intro u w x u' H hr; exact ih _ u w x u' H hr
  | peekFrozen _ ih => intro u w x u' H hr; exact ih _ u w x u' H hr
  | peekMark _ ih => intro u w x u' H hr; exact ih u w x u' H hr

end Go.Proofs.Ytmhbjmkdekgmlaa.Sim
