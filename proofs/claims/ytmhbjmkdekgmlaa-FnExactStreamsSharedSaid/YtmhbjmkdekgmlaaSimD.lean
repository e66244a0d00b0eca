/-
  A run of one goroutine alone and its image in company: literals, append, calls: every operation that 'opOk' lets by.
  Condition of each law: what 'opOk' looks at in the program's tables.
-/
import Derived.Test.YtmhbjmkdekgmlaaSimC
set_option linter.unusedSimpArgs false
set_option linter.unusedVariables false
namespace Go.Proofs.Ytmhbjmkdekgmlaa.Sim
open Go
variable {P : Program} {ρ : Array Nat}

/-! ### literals -/
theorem foldl_closed (off : Nat) : ∀ (l : List (Value × Nat)) (cs : Array Value), AllClosed cs → (∀ x ∈ l, Closed x.1) → AllClosed (l.foldl (fun cs (x : Value × Nat) => cs.setIfInBounds (off + x.2) x.1) cs)
  | [], cs, h, _ => h
  | x :: l, cs, h, hl => foldl_closed off l _ (h.set _ (hl x (by simp))) fun y hy => hl y (by simp [hy])

theorem fill_closed (place : Nat → Option (Nat × Nat)) : ∀ (l : List (Nat × Value)) (cs r : Array Value), AllClosed cs → (∀ x ∈ l, Closed x.2) → Instr.fill place cs l = some r → AllClosed r
  | [], cs, r, h, _, e => by simp only [Instr.fill, Option.some.injEq] at e; subst e; exact h
  | (i, v) :: l, cs, r, h, hl, e => by
    unfold Instr.fill at e
    split at e
    · cases e
    · split at e
      · cases e
      · rename_i off size _ _
        refine fill_closed place l _ r ?_ (fun y hy => hl y (by simp [hy])) e
        rw [← Array.foldl_toList]
        refine foldl_closed off _ cs h fun x hx => ?_
        have hv := (hl (i, v) (by simp)).cells
        obtain ⟨j, hj, rfl⟩ := List.mem_iff_getElem.1 hx
        have hj' : j < v.cells.size := by simpa using hj
        have := hv j hj'
        simpa using this

theorem zeros_closed {z : Array Value} (hz : AllClosed z) (n : Nat) : AllClosed ((Array.range n).map fun i => z[i % z.size]!) := by
  refine AllClosed.map _ _ fun i _ => ?_
  by_cases h : z.size = 0
  · have : z[i % z.size]! = default := by simp [h]
    rw [this]
    exact .bool _
  · have hlt : i % z.size < z.size := Nat.mod_lt _ (by omega)
    rw [getElem!_pos z _ hlt]
    exact hz _ hlt

theorem same_build {t : TypeId} (hz : zeroOk P t = true) {parts : Array (Nat × Value)} (hp : ∀ x ∈ parts, Closed x.2) : Same P Closed (Instr.build t parts) := by
  unfold Instr.build
  refine same_bind (same_zeroValue hz) fun z hzc => ?_
  dsimp only
  refine same_bind (same_underlying t) fun d _ => ?_
  have hp' : ∀ x ∈ parts.toList, Closed x.2 := fun x hx => hp x (by simpa using hx)
  split
  · refine same_bind (same_mapM _ _ fun f => same_bind (same_sizeOf _) fun _ _ => same_pure trivial) fun places _ => ?_
    split
    · exact same_pure (.agg (fill_closed _ _ _ _ hzc.cells hp' ‹_›))
    · exact same_stuck
  · refine same_bind (same_sizeOf _) fun n _ => ?_
    split
    · exact same_pure (.agg (fill_closed _ _ _ _ hzc.cells hp' ‹_›))
    · exact same_stuck
  · exact same_stuck

/-- What an operation yields: related; closed where it must be. -/
def Out (c : Bool) : Array Nat → Value → Value → Prop := fun ρ v v' => VRel ρ v v' ∧ (c = true → Closed v)

theorem srel_of_same {m : Sem Value} (h : Same P Closed m) (c : Bool) : SRel P (Out c) ρ m m := (h ρ).mono fun ρ' a b _ x => by
  obtain ⟨rfl, x⟩ := x
  exact ⟨.same x, fun _ => x⟩

def sliceElem (P : Program) (t : TypeId) : Option TypeId := match P.underlying t with | some (.slice e) => some e | _ => none

theorem srel_buildSlice {t : TypeId} {e : TypeId} (ht : sliceElem P t = some e) (hz : zeroOk P e = true) (len : Nat) {parts : Array (Nat × Value)} (hp : ∀ x ∈ parts, Closed x.2) : SRel P (Out false) ρ (Instr.buildSlice t len parts) (Instr.buildSlice t len parts) := by
  unfold Instr.buildSlice
  refine srel_bind (same_underlying t ρ) fun ρ1 d d' e1 h => ?_
  obtain ⟨rfl, h⟩ := h
  unfold sliceElem at ht
  rw [h] at ht
  split at ht
  · rename_i e' he
    simp only [Option.some.injEq] at he ht
    subst he ht
    dsimp only
    refine srel_bind (same_sizeOf _ ρ1) fun ρ2 n n' e2 h2 => ?_
    obtain ⟨rfl, _⟩ := h2
    have hp' : ∀ x ∈ parts.toList, Closed x.2 := fun x hx => hp x (by simpa using hx)
    have body : ∀ (ρ : Array Nat) (z : Array Value), AllClosed z → SRel P (Out false) ρ
        (match Instr.fill (fun i => some (i * n', n')) ((Array.range (len * n')).map (z[· % z.size]!)) parts.toList with
          | some cells => do pure (.slice (some (← newRow e' cells)) len len)
          | _ => stuck "buildSlice: a part of the wrong size" : Sem Value)
        (match Instr.fill (fun i => some (i * n', n')) ((Array.range (len * n')).map (z[· % z.size]!)) parts.toList with
          | some cells => do pure (.slice (some (← newRow e' cells)) len len)
          | _ => stuck "buildSlice: a part of the wrong size" : Sem Value) := by
      intro ρ z hzc
      split
      · rename_i cells hf
        refine srel_bind (srel_newRow e' (fill_closed _ _ _ _ (zeros_closed hzc _) hp' hf)) fun ρ3 a b _ hab => ?_
        exact srel_pure ⟨.slice _ _ hab.1, fun h => by cases h⟩
      · exact srel_stuck
    split
    · exact srel_bind (Φ := fun _ _ _ => False) srel_limit fun _ _ _ _ h => h.elim
    · split
      · exact srel_bind (Φ := fun _ a b => b = a ∧ AllClosed a) (srel_pure ⟨rfl, AllClosed.nil⟩) fun ρ3 a b _ hx => by obtain ⟨rfl, hx⟩ := hx; exact body ρ3 b hx
      · refine srel_bind (same_zeroValue hz ρ2) fun ρ3 a b _ hx => ?_
        obtain ⟨rfl, hx⟩ := hx
        exact body ρ3 _ hx.cells
  · cases ht


/-! ### append -/
theorem srel_firstCells (size n : Nat) {v v' : Value} (h : VRel ρ v v') : SRel P (fun _ a b => b = a ∧ AllClosed a) ρ (Builtin.firstCells size n v) (Builtin.firstCells size n v') := by
  cases h with
  | same h =>
    cases h <;> first | exact srel_stuck | skip
    · exact srel_pure ⟨rfl, AllClosed.map _ _ fun x _ => .int _ _⟩
    · exact srel_pure ⟨rfl, AllClosed.nil⟩
  | ptr h => exact srel_stuck
  | slice n c h => exact srel_loadCells h _
  | tuple _ _ => exact srel_stuck
theorem srel_lenOf {v v' : Value} (h : VRel ρ v v') : SRel P (fun _ a b => b = a) ρ (Builtin.lenOf v) (Builtin.lenOf v') := by
  cases h with
  | same h => cases h <;> first | exact srel_stuck | exact srel_pure rfl
  | ptr h => exact srel_stuck
  | slice n c h => exact srel_pure rfl
  | tuple _ _ => exact srel_stuck
theorem srel_askRoom (b : Nat) : SRel P (fun _ _ _ => True) ρ (askRoom b) (askRoom b) := by
  unfold askRoom
  split
  · exact .mark _ rfl (.pure trivial)
  · exact srel_pure trivial
theorem peek_holdsCells {α β : Type} {Φ : Array Nat → α → β → Prop} (a : Addr) (n : Nat) (f : Bool → Sem α) {m : Sem β} (h : ∀ b, SRel P Φ ρ (f b) m) : SRel P Φ ρ (Builtin.holdsCells a n >>= f) m := by
  unfold Builtin.holdsCells
  refine .peekShape fun s => ?_
  cases s with
  | none => exact h _
  | some x => exact h _
theorem peek_mayShare {α β : Type} {Φ : Array Nat → α → β → Prop} (size sLen n : Nat) (s : Option Addr) (x : Value) (f : Bool → Sem α) {m : Sem β} (h : ∀ b, SRel P Φ ρ (f b) m) : SRel P Φ ρ (Builtin.mayShare size sLen n s x >>= f) m := by
  have jp : ∀ there : Bool, SRel P Φ ρ ((if (!there) = true then pure true else match x with
      | .slice (some b) _ _ => do pure (!(← Builtin.holdsCells b (n * size)) || s.any (·.block == b.block))
      | _ => pure false : Sem Bool) >>= f) m := by
    intro there
    split
    · exact h _
    · split
      · rw [bind_assoc]
        exact peek_holdsCells _ _ _ fun b => h _
      · exact h _
  unfold Builtin.mayShare
  cases s with
  | none => exact jp true
  | some a =>
    simp only [bind_assoc]
    exact peek_holdsCells _ _ _ fun b => .peekFrozen fun c => jp _

theorem srel_append {ts : Array TypeId} {t : TypeId} {e : TypeId} (ht : (ts[0]?).bind (sliceElem P) = some e) (ht1 : ((ts[1]?).bind (sliceElem P)).isSome = true) (hz : zeroOk P e = true) {a a' : Array Value} (h : CRel ρ a a') :
    SRel P (Out false) ρ (Builtin.append_ ts t a) (Builtin.append_ ts t a') := by
  obtain ⟨t0, h0, ht⟩ := Option.bind_eq_some_iff.1 ht
  obtain ⟨e1, ht1⟩ := Option.isSome_iff_exists.1 ht1
  obtain ⟨t1, h1, ht1⟩ := Option.bind_eq_some_iff.1 ht1
  unfold Builtin.append_
  rw [h0, h1]
  cases ha0 : a[0]? with
  | none => exact srel_stuck
  | some s =>
  obtain ⟨s', ha0', hs⟩ := h.get ha0
  cases ha1 : a[1]? with
  | none => exact srel_stuck
  | some x =>
  obtain ⟨x', ha1', hx⟩ := h.get ha1
  rw [ha0', ha1']
  dsimp only
  refine srel_bind (same_underlying t0 ρ) fun ρ1 d d' x1 hd => ?_
  obtain ⟨rfl, hd⟩ := hd
  unfold sliceElem at ht
  rw [hd] at ht
  split at ht
  · rename_i e' he
    simp only [Option.some.injEq] at he ht
    subst he ht
    dsimp only
    have hs := hs.ext x1
    have hx := hx.ext x1
    obtain ⟨base, base', n, c, rfl, rfl, hb⟩ | hns : (∃ base base' n c, s = .slice base n c ∧ s' = .slice base' n c ∧ ((base = none ∧ base' = none) ∨ ∃ p q, base = some p ∧ base' = some q ∧ AddrRel ρ1 p q)) ∨ (∀ b n c, s ≠ .slice b n c) := by
      cases hs with
      | same h => cases h <;> first | exact .inl ⟨_, _, _, _, rfl, rfl, .inl ⟨rfl, rfl⟩⟩ | exact .inr nofun
      | ptr h => exact .inr nofun
      | slice n c h => exact .inl ⟨_, _, _, _, rfl, rfl, .inr ⟨_, _, rfl, rfl, h⟩⟩
      | tuple _ _ => exact .inr nofun
    · dsimp only
      refine srel_bind (same_sizeOf _ ρ1) fun ρ2 size size' x2 h2 => ?_
      obtain ⟨rfl, _⟩ := h2
      refine srel_bind (same_underlying t1 ρ2) fun ρ3 d d' x3 hd => ?_
      obtain ⟨rfl, hd1⟩ := hd
      unfold sliceElem at ht1
      rw [hd1] at ht1
      split at ht1
      · rename_i he1
        simp only [Option.some.injEq] at he1
        subst he1
        refine srel_bind (Φ := fun _ a b => a = false ∧ b = false) (srel_pure ⟨rfl, rfl⟩) fun ρ4 z z' x4 hzz => ?_
        obtain ⟨rfl, rfl⟩ := hzz
        simp only [Bool.false_eq_true, if_false, Bool.not_false, if_true, false_or]
        have hx := (((hx.ext x2).ext x3).ext x4)
        refine srel_bind (srel_lenOf hx) fun ρ5 m m' x5 hm => ?_
        subst hm
        have hx := hx.ext x5
        have hb : (base = none ∧ base' = none) ∨ ∃ p q, base = some p ∧ base' = some q ∧ AddrRel ρ5 p q := by
          rcases hb with h | ⟨p, q, h1, h2, h3⟩
          · exact .inl h
          · exact .inr ⟨p, q, h1, h2, (((h3.ext x2).ext x3).ext x4).ext x5⟩
        have hss : VRel ρ5 (.slice base n c) (.slice base' n c) := (((hs.ext x2).ext x3).ext x4).ext x5
        split
        · refine srel_bind (srel_firstCells _ _ hx) fun ρ6 r r' x6 hr => ?_
          obtain ⟨rfl, hr⟩ := hr
          rcases hb with ⟨rfl, rfl⟩ | ⟨p, q, rfl, rfl, hpq⟩
          · exact srel_pure ⟨.same (.sliceNil _ _), fun h => by cases h⟩
          · refine srel_bind (srel_storeCells ((hpq.ext x6).add _) (fun v hv => ?_) 0) fun ρ7 _ _ x7 _ => ?_
            · obtain ⟨i, hi, rfl⟩ := List.mem_iff_getElem.1 hv
              have := hr i (by simpa using hi)
              simpa using this
            · exact srel_pure ⟨.slice _ _ ((hpq.ext x6).ext x7), fun h => by cases h⟩
        · have grow : ∀ ρ6, Ext ρ5 ρ6 → SRel P (Out false) ρ6 (do
              let newCap ← choose (.appendCap (n + m') c e')
              askRoom (newCap * (← typeInfo e').bytes)
              let old ← Builtin.firstCells size' n (.slice base n c)
              let new ← Builtin.firstCells size' m' x
              let rest := Builtin.zeroCells (← zeroValue e').cells (newCap - (n + m'))
              pure (.slice (some (← newRow e' (old ++ new ++ rest))) (n + m') newCap) : Sem Value) (do
              let newCap ← choose (.appendCap (n + m') c e')
              askRoom (newCap * (← typeInfo e').bytes)
              let old ← Builtin.firstCells size' n (.slice base' n c)
              let new ← Builtin.firstCells size' m' x'
              let rest := Builtin.zeroCells (← zeroValue e').cells (newCap - (n + m'))
              pure (.slice (some (← newRow e' (old ++ new ++ rest))) (n + m') newCap) : Sem Value) := by
            intro ρ6 x6
            refine srel_bind (same_choose _ ρ6) fun ρ7 cap cap' x7 hc => ?_
            obtain ⟨rfl, _⟩ := hc
            refine srel_bind (same_typeInfo e' ρ7) fun ρ8 i i' x8 hi => ?_
            obtain ⟨rfl, _⟩ := hi
            refine srel_bind (srel_askRoom _) fun ρ9 _ _ x9 _ => ?_
            refine srel_bind (srel_firstCells _ _ ((((hss.ext x6).ext x7).ext x8).ext x9)) fun ρ10 o o' x10 ho => ?_
            obtain ⟨rfl, ho⟩ := ho
            refine srel_bind (srel_firstCells _ _ (((((hx.ext x6).ext x7).ext x8).ext x9).ext x10)) fun ρ11 r r' x11 hr => ?_
            obtain ⟨rfl, hr⟩ := hr
            refine srel_bind (same_zeroValue hz ρ11) fun ρ12 zz zz' x12 hzz => ?_
            obtain ⟨rfl, hzz⟩ := hzz
            refine srel_bind (srel_newRow e' ((ho.append hr).append (zeros_closed hzz.cells _))) fun ρ13 p q x13 hpq => ?_
            exact srel_pure ⟨.slice _ _ hpq.1, fun h => by cases h⟩
          refine srel_bind (same_typeInfo e' ρ5) fun ρ6 i i' x6 hi => ?_
          obtain ⟨rfl, _⟩ := hi
          split
          · exact srel_bind (Φ := fun _ _ _ => False) (same_runtimeError (Φ := fun _ => False) ρ6 |>.mono fun _ _ _ _ h => h.2) fun _ _ _ _ h => h.elim
          · refine srel_bind (same_typeInfo e' ρ6) fun ρ7 i i' x7 hi => ?_
            obtain ⟨rfl, _⟩ := hi
            split
            · refine srel_bind (Φ := fun _ _ _ => False) ?_ fun _ _ _ _ h => h.elim
              refine peek_mayShare _ _ _ _ _ _ fun b => ?_
              split
              · exact .peekMark srel_limit
              · exact srel_limit
            · exact grow ρ7 (x6.trans x7)
      · cases ht1
    · cases s <;> first | exact srel_stuck | exact absurd rfl (hns _ _ _)
  · cases ht

end Go.Proofs.Ytmhbjmkdekgmlaa.Sim
