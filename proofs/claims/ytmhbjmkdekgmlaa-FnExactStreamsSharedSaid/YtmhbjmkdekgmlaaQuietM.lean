/-
  From the walk of a law to the machine's run: on whatever tape, it ends well.
  Condition: the law answers true in a temporary.
-/
import Derived.Test.YtmhbjmkdekgmlaaQuietL
set_option linter.unusedSimpArgs false
set_option linter.unusedVariables false
namespace Go.Proofs.Ytmhbjmkdekgmlaa.Sim
open Go Go.Conc Go.ConcN Go.RowKit
open Go.Proofs.Ytmhbjmkdekgmlaa.Seeds (Sd)

/-- Goroutine 0 returns from the law. -/
def EndR (f : FuncId) (r : Nat) (w0 : World) : End := fun gs w _ t => ∃ (c : Gh) (T : Array Value) (todo : List Item), Pt Try.prog c.1 c.2 gs (G { (base f).at ⟨T, []⟩ todo with mode := .returning } []) w t ∧ T.getD r undef = .bool true ∧ KeepQ (fun _ => False) w0 w
theorem stepG_done {P : Program} {f : FuncId} {fn : Func} {T : Array Value} {todo : List Item} {w : World} {v : Value} (hf : P.funcs[f]? = some fn) (hi : P.inits.idxOf? f = none) (hr : (results fn T).run P w = .ok v w) (he : (results fn T).events P w #[] = #[]) :
    stepG P true (G { (base f).at ⟨T, []⟩ todo with mode := .returning } []) w = .ended (.done v) w #[] := by
  simp [G, stepG, unwind, doReturn, Frame.at, base, hf, hi, hr, he, seen, GStep.after]

/-- ████ THE RUN. ████ -/
theorem run_of_wq {f : FuncId} {fn : Func} {r : Nat} {W : World} {T0 : Array Value} (hf : Try.prog.funcs[f]? = some fn) (hi : Try.prog.inits.idxOf? f = none) (hres : fn.results = #[.tmp r]) {body : Code}
    (h : WQ (EndR f r W) f body (fun e a' _ w' => e = .ret ∧ a'.defers = [] ∧ a'.tmps.getD r undef = .bool true ∧ KeepQ (fun _ => False) W w') ⟨T0, []⟩ (fun _ => False, 0) W) :
    ∃ M last o w' t', runNT Try.prog (M + 1) (solo (G ((base f).at ⟨T0, []⟩ [.code body]) []) W) #[] = (.ended o w', t') ∧ runN Try.prog M (solo (G ((base f).at ⟨T0, []⟩ [.code body]) []) W) = .next last ∧
      step Try.prog last = .ended o w' ∧ Conc.Good Try.prog (fun v w' => v = .bool true ∧ KeepQ (fun _ => False) W w') last o w' t' := by
  have hw : Wq (EndR f r W) (fun _ => False, 0) (G ((base f).at ⟨T0, []⟩ [.code body]) []) W := by
    refine h (base f) [] [] rfl (by simp [base]) ?_
    rintro e ⟨T, df⟩ c' w' ⟨rfl, hd, hT, hk⟩ todo
    simp only at hd
    subst hd
    refine Fine.wq fun w₁ hr => ⟨rfl, fun gs sl t hpt => Reach.here ⟨c', T, todo, hpt, hT, ?_⟩⟩
    obtain ⟨d, rfl⟩ := hr
    exact ⟨hk.kin, hk.size, hk.keep⟩
  rw [solo_eq_crowd]
  refine ((Wq.fine hw).2 #[_] none #[] (Pt.start _ _ _)).ends ?_
  rintro gs w sl t ⟨c, T, todo, hpt, hT, hk⟩
  refine hpt.ends fun w₁ hr => ⟨rfl, _, _, stepG_done hf hi (resultsC_tmp hres T w₁).1 (resultsC_tmp hres T w₁).2, fun e he => by simp at he, hT, ?_⟩
  obtain ⟨d, rfl⟩ := hr
  exact ⟨hk.kin, hk.size, hk.keep⟩
theorem KeepQ.below {w w' : World} (h : KeepQ (fun _ => False) w w') : Below w.heap.size w w' :=
  ⟨h.kin.2.1, h.kin.1, h.kin.2.2, h.size, fun b hb => h.keep b hb id⟩

theorem run8 (s : Sd) (many count : Int) (W : World) (hs : s.Ok) :
    ∃ M last o w' t', runNT Try.prog (M + 1) (solo (G (Frame.enter Try.prog 8 #[.agg #[.int .i64 s.k, .int .u64 s.a, .int .u64 s.b], .int .i64 many, .int .i64 count] .normal) []) W) #[] = (.ended o w', t') ∧
      runN Try.prog M (solo (G (Frame.enter Try.prog 8 #[.agg #[.int .i64 s.k, .int .u64 s.a, .int .u64 s.b], .int .i64 many, .int .i64 count] .normal) []) W) = .next last ∧
      step Try.prog last = .ended o w' ∧ Conc.Good Try.prog (fun v w' => v = .bool true ∧ Below W.heap.size W w') last o w' t' := by
  rw [enter_at _ Try.func8 (c := Try.f8.body.getD .skip) (by rfl)]
  have e : (#[Value.agg #[.int .i64 s.k, .int .u64 s.a, .int .u64 s.b], .int .i64 many, .int .i64 count] ++ Array.replicate (Try.f8.ntmps - (#[Value.agg #[.int .i64 s.k, .int .u64 s.a, .int .u64 s.b], .int .i64 many, .int .i64 count] : Array Value).size) undef) = #[Value.agg #[.int .i64 s.k, .int .u64 s.a, .int .u64 s.b], .int .i64 many, .int .i64 count, undef, undef, undef, undef, undef, undef, undef, undef, undef, undef, undef, undef, undef, undef, undef, undef, undef, undef, undef, undef, undef, undef, undef, undef, undef, undef, undef, undef, undef, undef, undef, undef, undef, undef, undef, undef, undef, undef, undef, undef, undef, undef, undef, undef, undef, undef, undef, undef, undef, undef, undef, undef, undef, undef, undef, undef, undef, undef, undef, undef, undef, undef, undef, undef, undef, undef, undef, undef, undef, undef, undef, undef, undef] := by kernel_rfl
  rw [e]
  obtain ⟨M, last, o, w', t', h1, h2, h3, h4⟩ := run_of_wq (r := 6) Try.func8 (by kernel_rfl) (by kernel_rfl) (law8 (Fin := EndR 8 6 W) (c := (fun _ => False, 0)) (w := W) (many := many) (count := count) hs rfl fun b hb => hb.elim)
  exact ⟨M, last, o, w', t', h1, h2, h3, h4.elim fun v x => ⟨v, x.1, ⟨x.2.1.1, x.2.1.2.below⟩, x.2.2⟩⟩
theorem run9 (s : Sd) (many count work : Int) (W : World) (hs : s.Ok) :
    ∃ M last o w' t', runNT Try.prog (M + 1) (solo (G (Frame.enter Try.prog 9 #[.agg #[.int .i64 s.k, .int .u64 s.a, .int .u64 s.b], .int .i64 many, .int .i64 count, .int .i64 work] .normal) []) W) #[] = (.ended o w', t') ∧
      runN Try.prog M (solo (G (Frame.enter Try.prog 9 #[.agg #[.int .i64 s.k, .int .u64 s.a, .int .u64 s.b], .int .i64 many, .int .i64 count, .int .i64 work] .normal) []) W) = .next last ∧
      step Try.prog last = .ended o w' ∧ Conc.Good Try.prog (fun v w' => v = .bool true ∧ Below W.heap.size W w') last o w' t' := by
  rw [enter_at _ Try.func9 (c := Try.f9.body.getD .skip) (by rfl)]
  have e : (#[Value.agg #[.int .i64 s.k, .int .u64 s.a, .int .u64 s.b], .int .i64 many, .int .i64 count, .int .i64 work] ++ Array.replicate (Try.f9.ntmps - (#[Value.agg #[.int .i64 s.k, .int .u64 s.a, .int .u64 s.b], .int .i64 many, .int .i64 count, .int .i64 work] : Array Value).size) undef) = #[Value.agg #[.int .i64 s.k, .int .u64 s.a, .int .u64 s.b], .int .i64 many, .int .i64 count, .int .i64 work, undef, undef, undef, undef, undef, undef, undef, undef, undef, undef, undef, undef, undef, undef, undef, undef, undef, undef, undef, undef, undef, undef, undef, undef, undef, undef, undef, undef, undef, undef, undef, undef, undef, undef, undef, undef, undef, undef, undef, undef, undef, undef, undef, undef, undef, undef, undef, undef, undef, undef, undef, undef, undef, undef, undef, undef, undef, undef, undef, undef, undef, undef, undef, undef, undef, undef, undef, undef, undef, undef, undef, undef, undef, undef, undef, undef, undef] := by kernel_rfl
  rw [e]
  obtain ⟨M, last, o, w', t', h1, h2, h3, h4⟩ := run_of_wq (r := 8) Try.func9 (by kernel_rfl) (by kernel_rfl) (law9 (Fin := EndR 9 8 W) (c := (fun _ => False, 0)) (w := W) (many := many) (count := count) (work := work) hs rfl fun b hb => hb.elim)
  exact ⟨M, last, o, w', t', h1, h2, h3, h4.elim fun v x => ⟨v, x.1, ⟨x.2.1.1, x.2.1.2.below⟩, x.2.2⟩⟩
end Go.Proofs.Ytmhbjmkdekgmlaa.Sim
