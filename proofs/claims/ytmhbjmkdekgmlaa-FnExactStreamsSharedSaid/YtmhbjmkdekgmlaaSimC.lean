/-
  A run of one goroutine alone and its image in company: the operations, the second part: every operator, literals, append, calls.
  Condition of each law: what 'opOk' looks at in the program's tables.
-/
import Derived.Test.YtmhbjmkdekgmlaaSimB
set_option linter.unusedSimpArgs false
set_option linter.unusedVariables false
namespace Go.Proofs.Ytmhbjmkdekgmlaa.Sim
open Go
variable {P : Program} {ρ : Array Nat}

theorem same_carith (op : BinOp) (k : FloatKind) (x y : Nat) : Same P (fun _ => True) (Op.Complex.arith op k x y) := by
  unfold Op.Complex.arith
  refine same_bind (same_floatArith op k x y) fun a _ => ?_
  split
  · exact same_pure trivial
  · exact same_stuck
theorem same_ccmp (op : BinOp) (k : FloatKind) (x y : Nat) : Same P (fun _ => True) (Op.Complex.cmp op k x y) := by
  unfold Op.Complex.cmp
  exact same_bind (same_floatCmp op k x y) fun a h => same_asBool h
theorem same_cconv (s : FloatKind) (x : Nat) (d : FloatKind) : Same P (fun _ => True) (Op.Complex.conv s x d) := by
  unfold Op.Complex.conv
  split
  · exact same_pure trivial
  · refine same_bind (same_floatToFloat s x d) fun a _ => ?_
    split
    · exact same_pure trivial
    · exact same_stuck
theorem same_product (a b c d : Nat) : Same P (fun _ => True) (Op.Complex.product a b c d) := by
  unfold Op.Complex.product
  refine same_bind (same_carith _ _ _ _) fun _ _ => same_bind (same_carith _ _ _ _) fun _ _ => same_bind (same_carith _ _ _ _) fun _ _ => same_bind (same_carith _ _ _ _) fun _ _ => same_bind (same_carith _ _ _ _) fun _ _ => same_bind (same_carith _ _ _ _) fun _ _ => same_pure trivial

theorem same_corrected (s a b c d : Nat) : Same P (fun _ => True) (Op.Complex.corrected s a b c d) := by
  unfold Op.Complex.corrected
  refine same_bind (same_carith _ _ _ _) fun _ _ => same_bind (same_carith _ _ _ _) fun _ _ => same_bind (same_carith _ _ _ _) fun _ _ => same_bind (same_carith _ _ _ _) fun _ _ => same_bind (same_carith _ _ _ _) fun _ _ => same_bind (same_carith _ _ _ _) fun _ _ => same_bind (same_carith _ _ _ _) fun _ _ => same_bind (same_carith _ _ _ _) fun _ _ => same_pure trivial
theorem same_quotient (a b c d : Nat) : Same P (fun _ => True) (Op.Complex.quotient a b c d) := by
  unfold Op.Complex.quotient
  dsimp only
  have tail : ∀ (e f : Nat), Same P (fun _ => True) (do
      let zero := (← Op.Complex.cmp .eql .f64 c 0) && (← Op.Complex.cmp .eql .f64 d 0)
      if !(Op.Complex.isNaN e && Op.Complex.isNaN f) then Pure.pure (e, f)
      else if zero && (!Op.Complex.isNaN a || !Op.Complex.isNaN b) then
        Pure.pure (← Op.Complex.mul (Op.Complex.copysign Op.Complex.inf c) a, ← Op.Complex.mul (Op.Complex.copysign Op.Complex.inf c) b)
      else if (Op.Complex.isInf a || Op.Complex.isInf b) && Op.Complex.isFinite c && Op.Complex.isFinite d then
        Op.Complex.corrected Op.Complex.inf (Op.Complex.inf2one a) (Op.Complex.inf2one b) c d
      else if (Op.Complex.isInf c || Op.Complex.isInf d) && Op.Complex.isFinite a && Op.Complex.isFinite b then
        Op.Complex.corrected 0 a b (Op.Complex.inf2one c) (Op.Complex.inf2one d)
      else Pure.pure (e, f) : Sem (Nat × Nat)) := by
    intro e f
    refine same_bind (same_ccmp _ _ _ _) fun x _ => ?_
    refine same_bind (same_ccmp _ _ _ _) fun y _ => ?_
    dsimp only
    split
    · exact same_pure trivial
    split
    · exact same_bind (same_carith _ _ _ _) fun _ _ => same_bind (same_carith _ _ _ _) fun _ _ => same_pure trivial
    split
    · exact same_corrected _ _ _ _ _
    split
    · exact same_corrected _ _ _ _ _
    · exact same_pure trivial
  refine same_bind (same_ccmp _ _ _ _) fun x _ => ?_
  split
  · refine same_bind (same_carith _ _ _ _) fun _ _ => same_bind (same_carith _ _ _ _) fun _ _ => same_bind (same_carith _ _ _ _) fun _ _ => same_bind (same_carith _ _ _ _) fun _ _ => same_bind (same_carith _ _ _ _) fun _ _ => same_bind (same_carith _ _ _ _) fun _ _ => same_bind (same_carith _ _ _ _) fun _ _ => same_bind (same_carith _ _ _ _) fun _ _ => same_bind (same_carith _ _ _ _) fun _ _ => same_bind (Φ := fun _ => True) (same_pure trivial) fun p _ => tail p.1 p.2
  · refine same_bind (same_carith _ _ _ _) fun _ _ => same_bind (same_carith _ _ _ _) fun _ _ => same_bind (same_carith _ _ _ _) fun _ _ => same_bind (same_carith _ _ _ _) fun _ _ => same_bind (same_carith _ _ _ _) fun _ _ => same_bind (same_carith _ _ _ _) fun _ _ => same_bind (same_carith _ _ _ _) fun _ _ => same_bind (same_carith _ _ _ _) fun _ _ => same_bind (same_carith _ _ _ _) fun _ _ => same_bind (Φ := fun _ => True) (same_pure trivial) fun p _ => tail p.1 p.2

theorem same_complexOp (op : BinOp) (k : FloatKind) (a b c d : Nat) : Same P Closed (Op.complexOp op k a b c d) := by
  unfold Op.complexOp
  split
  · exact same_bind (same_carith _ _ _ _) fun _ _ => same_bind (same_carith _ _ _ _) fun _ _ => same_pure (.complex _ _ _)
  · exact same_bind (same_carith _ _ _ _) fun _ _ => same_bind (same_carith _ _ _ _) fun _ _ => same_pure (.complex _ _ _)
  · refine same_bind (same_cconv _ _ _) fun _ _ => same_bind (same_cconv _ _ _) fun _ _ => same_bind (same_cconv _ _ _) fun _ _ => same_bind (same_cconv _ _ _) fun _ _ => ?_
    dsimp only
    refine same_bind (Φ := fun _ => True) (by first | exact same_product _ _ _ _ | exact same_quotient _ _ _ _) fun _ _ => same_bind (same_cconv _ _ _) fun _ _ => same_bind (same_cconv _ _ _) fun _ _ => same_pure (.complex _ _ _)
  · refine same_bind (same_cconv _ _ _) fun _ _ => same_bind (same_cconv _ _ _) fun _ _ => same_bind (same_cconv _ _ _) fun _ _ => same_bind (same_cconv _ _ _) fun _ _ => ?_
    dsimp only
    refine same_bind (Φ := fun _ => True) (by first | exact same_product _ _ _ _ | exact same_quotient _ _ _ _) fun _ _ => same_bind (same_cconv _ _ _) fun _ _ => same_bind (same_cconv _ _ _) fun _ _ => same_pure (.complex _ _ _)
  · exact same_bind (same_ccmp _ _ _ _) fun _ _ => same_bind (same_ccmp _ _ _ _) fun _ _ => same_pure (.bool _)
  · exact same_bind (same_ccmp _ _ _ _) fun _ _ => same_bind (same_ccmp _ _ _ _) fun _ _ => same_pure (.bool _)
  · exact same_stuck

theorem same_unsafeAdd (ts : Array TypeId) (t : TypeId) {v w : Value} (h : Closed v) (hw : Closed w) : Same P Closed (Builtin.unsafeAdd_ ts t #[v, w]) := by
  unfold Builtin.unsafeAdd_
  cases h <;> first | exact same_stuck | skip
  refine same_bind (same_asInt hw) fun n _ => ?_
  dsimp only
  split
  · exact same_unsafe
  · split <;> exact same_unsafe

theorem same_movedNumber (t : TypeId) {v w : Value} (h : Closed v) (hw : Closed w) : Same P Closed (movedNumber t v w) := by
  unfold movedNumber
  refine same_bind (same_underlying t) fun d _ => ?_
  have hv := h
  cases h <;> cases d <;> first | exact same_bind (Φ := fun _ => False) same_unsafe fun _ h => h.elim | exact same_unsafeAdd #[] t hv hw
theorem same_movedPointer (t : TypeId) {v w : Value} (h : Closed v) (hw : Closed w) : Same P Closed (movedPointer t v w) := by
  unfold movedPointer
  have hv := h
  cases h <;> exact same_unsafeAdd #[] t hv hw

theorem same_eqGuardIn {t : TypeId} (ht : scalarT P t = true) (n : Nat) (a b : Value) : Same P (fun _ => True) (Op.eqGuardIn (n + 1) t a b) := by
  unfold Op.eqGuardIn
  refine same_bind (same_underlying t) fun d h1 => ?_
  unfold scalarT at ht
  rw [h1] at ht
  cases d <;> simp only [Bool.false_eq_true] at ht <;> exact same_pure trivial
theorem same_eqGuard {op : BinOp} {t : TypeId} (ht : scalarT P t = true) (x y : Operand) (a b : Value) : Same P (fun _ => True) (eqGuard op t x y a b) := by
  have tail : ∀ s, Same P (fun _ => True) (do if ← Op.eqGuardIn Op.maxDepth t a b then unsupported (.noEntry s) : Sem Unit) := by
    intro s
    refine same_bind (same_eqGuardIn ht _ a b) fun c _ => ?_
    split
    · exact same_noEntry
    · exact same_pure trivial
  unfold eqGuard
  dsimp only [Bind.bind, Pure.pure]
  repeat' (first | exact same_pure (Φ := fun _ => True) trivial | exact tail _ | (refine same_bind same_program fun p _ => same_bind same_program fun q _ => ?_) | split)

theorem same_binOp {op : BinOp} {t : TypeId} (ht : scalarT P t = true) {a b : Value} (h : Closed a) (k : Closed b) : Same P Closed (binOp op t a b) := by
  have heq : Same P Closed (do Pure.pure (.bool (← Op.equal t a b)) : Sem Value) := same_bind (same_equal ht h k) fun _ _ => same_pure (.bool _)
  have hne : Same P Closed (do Pure.pure (.bool (!(← Op.equal t a b))) : Sem Value) := same_bind (same_equal ht h k) fun _ _ => same_pure (.bool _)
  unfold binOp
  split
  · exact same_shift _ _ _ _ _
  · exact same_shift _ _ _ _ _
  · split
    · exact same_stuck
    · split <;> first | exact same_intArith _ _ _ _ | exact same_intDiv _ _ _ _ | exact same_intBits _ _ _ _ | exact same_intCmp _ _ _
  · split
    · exact same_stuck
    · split <;> first | exact same_floatArith _ _ _ _ | exact same_floatCmp _ _ _ _
  · split
    · exact same_stuck
    · exact same_complexOp _ _ _ _ _ _
  · exact same_stringOp _ _ _
  · exact heq
  · exact hne
  · refine same_bind (same_underlying _) fun d _ => ?_
    split
    · exact same_movedPointer _ h k
    · exact same_movedNumber _ h k
  · exact same_movedNumber _ k h
  · exact same_movedNumber _ h (.int _ _)
  all_goals first | exact same_observed | exact same_stuck | (cases h; done) | (cases k; done) | skip

end Go.Proofs.Ytmhbjmkdekgmlaa.Sim
