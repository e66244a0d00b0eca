/-
  A seed that is handed over by value: opened, and shut again.
  No condition.
-/
import Derived.Test.YtmhbjmkdekgmlaaQuietM
import Derived.Conc.LeavingOf
import Derived.ProofKit
import Derived.Deep.Strs
set_option linter.unusedSimpArgs false
set_option linter.unusedVariables false
namespace Go.Proofs.Ytmhbjmkdekgmlaa
open Go.Conc Go.RowKit
open Go.ChangeShapes Go.WideShapes Go.ChangeAt Go.Deep
open Go.Proofs.Ytmhbjmkdekgmlaa.Seeds (Sd U64)

theorem own : ownKnob Try.prog.godebug = none := by kernel_rfl
theorem c63 : Try.prog.cellsOf 63 = 3 := by kernel_rfl
theorem c2 : Try.prog.cellsOf 2 = 1 := by kernel_rfl
theorem c24 : Try.prog.cellsOf 24 = 1 := by kernel_rfl

theorem u64_of_wf {n : Int} (h : (Lit.int .u64 n).wf = true) : U64 n := by
  simp only [Lit.wf, Bool.and_eq_true, decide_eq_true_eq] at h
  have h1 : IntKind.u64.min = 0 := rfl
  have h2 : IntKind.u64.max = 18446744073709551615 := rfl
  unfold U64
  omega
section
variable {H : Type} {enc : TypeId × Value → H} {W : World} {base : Nat}
theorem seedReads (W' : World) (sp : Nat → Bool) {k a b : Int} (wk : (Lit.int .i64 k).wf = true) (wa : (Lit.int .u64 a).wf = true) (wb : (Lit.int .u64 b).wf = true) :
    DataW.Trod enc Try.prog W' base sp true 63 (.agg #[.int .i64 k, .int .u64 a, .int .u64 b]) (.agg [.lit (.int .i64 k), .lit (.int .u64 a), .lit (.int .u64 b)]) [] := ⟨2, by
  have f0 : DataW.trod enc Try.prog W' base sp true 1 2 [.int .i64 k] = some (.lit (.int .i64 k), []) := by simp [DataW.trod, Try.underlying2, wk]
  have f1 : DataW.trod enc Try.prog W' base sp true 1 24 [.int .u64 a] = some (.lit (.int .u64 a), []) := by simp [DataW.trod, Try.underlying24, wa]
  have f2 : DataW.trod enc Try.prog W' base sp true 1 24 [.int .u64 b] = some (.lit (.int .u64 b), []) := by simp [DataW.trod, Try.underlying24, wb]
  have := trod_struct3_mk (enc := enc) (w := W') (base := base) (spare := sp) (held := true) (n := 1) (cs := [.int .i64 k, .int .u64 a, .int .u64 b]) Try.underlying63 (by rw [c63]; rfl) (by rw [c2]; exact f0) (by rw [c24]; exact f1) (by rw [c24]; exact f2)
  exact this⟩
set_option maxRecDepth 100000 in
theorem seedOpen {r : Reach} {b0 : Nat} {sp : Nat → Bool} {hd : Bool} {v : Value} {d : DataW H} {ps : List MemPlace} (hv : Value.okWide Try.prog W r b0 63 v) (h : DataW.Trod enc Try.prog W base sp hd 63 v d ps) :
    ∃ k a b, v = .agg #[.int .i64 k, .int .u64 a, .int .u64 b] ∧ d = .agg [.lit (.int .i64 k), .lit (.int .u64 a), .lit (.int .u64 b)] ∧ ps = [] ∧ (Lit.int .i64 k).wf = true ∧ (Lit.int .u64 a).wf = true ∧ (Lit.int .u64 b).wf = true := by
  obtain ⟨cs, rfl, hsz⟩ := okWide_struct Try.underlying63 hv
  rw [c63] at hsz
  obtain ⟨l⟩ := cs
  match l, hsz with
  | [e0, e1, e2], _ =>
  obtain ⟨fuel, hf⟩ := h
  obtain ⟨y0, y1, y2, m, hx, _, hy0, hy1, hy2⟩ := trod_struct3 Try.underlying63 hf
  obtain ⟨k, q0, rfl, wk⟩ := DataW.trod_int Try.underlying2 hy0
  obtain ⟨a, q1, rfl, wa⟩ := DataW.trod_int Try.underlying24 hy1
  obtain ⟨b, q2, rfl, wb⟩ := DataW.trod_int Try.underlying24 hy2
  simp [Value.cells, c2, c24] at q0 q1 q2
  subst q0 q1 q2
  simp only [Prod.mk.injEq] at hx
  obtain ⟨rfl, rfl⟩ := hx
  exact ⟨k, a, b, rfl, rfl, rfl, wk, wa, wb⟩
end
end Go.Proofs.Ytmhbjmkdekgmlaa
