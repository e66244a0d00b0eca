/-
  A worker's text (shared's closure): the job for each of its numbers, one behind the other; then it says Done.
  Condition: the job's own contract in company ('Job').
-/
import Derived.Test.YtmhbjmkdekgmlaaWorkA
import Derived.Conc.CompanyWords
import Derived.Conc.SmallLaws
import Derived.IntWalk
set_option linter.unusedSimpArgs false
set_option linter.unusedVariables false
namespace Go.Proofs.Ytmhbjmkdekgmlaa.Sim
open Go Go.Conc Go.ConcN Go.RowKit

/-- The job of one worker: what it holds (St: of the numbers that are done), where its captured variables lie. -/
structure Job (p : Crew) (q : Part) (St : (Nat → Prop) → (Nat → Prop) → World → Prop) (fd : FuncId) (fdo : Func) (cd : Code) (caps : Array Value) (Bm Bn Bd bk mny stp k0 : Nat) : Prop where
  rely : ∀ D M w w', Rel p q M w w' → St D M w → St D M w'
  many : ∀ D M w, St D M w → w.cell? ⟨Bm, 0, none⟩ = some (.int .i64 mny)
  step : ∀ D M w, St D M w → w.cell? ⟨Bn, 0, none⟩ = some (.int .i64 stp)
  doit : ∀ D M w, St D M w → w.cell? ⟨Bd, 0, none⟩ = some (.func (.func fd) #[] caps)
  first : ∀ D M w, St D M w → w.cell? ⟨bk, 0, none⟩ = some (.int .i64 k0) ∧ M bk
  live : ∀ D M w, St D M w → WgLive p.ty p.Wg w
  ro : q.Ro Bm ∧ q.Ro Bn ∧ q.Ro Bd
  fn : Try.prog.funcs[fd]? = some fdo
  named : (fdo.name == "runtime.NumGoroutine") = false
  body : fdo.body = some cd
  small : mny ≤ 1000 ∧ 1 ≤ stp ∧ stp ≤ 1000 ∧ k0 < stp
  job : ∀ D M w i, i < mny → i % stp = k0 → (∀ j, D j ↔ (j < i ∧ j % stp = k0)) → St D M w →
    WpW Try.prog false (Rel p q) (Gua p q) fd cd (BodyW Try.prog fdo fun _ M' w' => St (fun j => D j ∨ j = i) M' w') { tmps := (#[.int .i64 i] ++ caps) ++ Array.replicate (fdo.ntmps - (#[Value.int .i64 i] ++ caps).size) undef, defers := [] } M w

/-- Those that are done below i. -/
def Upto (stp k0 i : Nat) : Nat → Prop := fun j => j < i ∧ j % stp = k0
theorem upto_zero (stp k0 : Nat) (h : k0 < stp) : (fun _ => False) = Upto stp k0 k0 := by
  funext j
  refine propext ⟨False.elim, fun ⟨h1, h2⟩ => ?_⟩
  rw [Nat.mod_eq_of_lt (by omega)] at h2
  omega
theorem upto_next (stp k0 i : Nat) (h : i % stp = k0) (hs : 1 ≤ stp) : (fun j => Upto stp k0 i j ∨ j = i) = Upto stp k0 (i + stp) := by
  funext j
  refine propext ⟨?_, fun ⟨h1, h2⟩ => ?_⟩
  · rintro (⟨h1, h2⟩ | rfl)
    · exact ⟨by omega, h2⟩
    · exact ⟨by omega, h⟩
  · rcases Nat.lt_or_ge j i with hlt | hge
    · exact .inl ⟨hlt, h2⟩
    · right
      have e1 := Nat.div_add_mod j stp
      have e2 := Nat.div_add_mod i stp
      rw [h2] at e1
      rw [h] at e2
      have hm : stp * (j / stp) < stp * (i / stp + 1) := by rw [Nat.mul_add]; omega
      have h3 : j / stp < i / stp + 1 := Nat.lt_of_mul_lt_mul_left hm
      have hm2 : stp * (i / stp) ≤ stp * (j / stp) := by omega
      have h4 : i / stp ≤ j / stp := Nat.le_of_mul_le_mul_left hm2 (by omega)
      have : j / stp = i / stp := by omega
      rw [this] at e1
      omega
theorem upto_end (stp k0 mny i : Nat) (h : i % stp = k0) (hs : 1 ≤ stp) (h1 : mny ≤ i) (h2 : i < mny + stp) : Upto stp k0 i = fun j => j < mny ∧ j % stp = k0 := by
  funext j
  refine propext ⟨fun ⟨h3, h4⟩ => ⟨?_, h4⟩, fun ⟨h3, h4⟩ => ⟨by omega, h4⟩⟩
  have e1 := Nat.div_add_mod j stp
  have e2 := Nat.div_add_mod i stp
  rw [h4] at e1
  rw [h] at e2
  have h5 : j / stp < i / stp := by
    refine Nat.lt_of_mul_lt_mul_left (a := stp) ?_
    omega
  have : stp * (j / stp + 1) ≤ stp * (i / stp) := Nat.mul_le_mul_left stp h5
  rw [Nat.mul_add] at this
  omega

noncomputable def body104 : Code := Try.f104.body.getD .skip
def dDone (Wg : Nat) : Deferred := dcall 105 #[.pointer (some ⟨Wg, 0, none⟩)]

section
variable {γ : Type} {P : Program} {main : Bool} {R : γ → World → World → Prop} {D : γ → World → World → Array Event → γ → Prop} {fn : FuncId} {Q : Exit → Act → γ → World → Prop} {a : Act} {c : γ} {w : World}
theorem opsW_defer (T : TermsW R D) {ops : Array Oper} {i : Nat} {rest : List Nat} {o : Oper} {f : FuncId} {xs : Array Operand} {ats : Array TypeId} (ho : ops[i]? = some o) (hw : Region.wanted o (yielded ops a.tmps) = true)
    (hop : o.op = .defer { callee := .value (.func f), args := xs, argTypes := ats }) (h : OpsW P main R D fn ops rest Q (Act.put ⟨a.tmps, dcall f (xs.map a.eval) :: a.defers⟩ o.dst undef) c w) : OpsW P main R D fn ops (i :: rest) Q a c w :=
  fun b k cs Stop hb hk hc => Wm.ctl T rfl (fun _ => stepG_defer ho hw hk hop) (h b k cs Stop hb hk hc)
end

section
variable {p : Crew} {q : Part} {St : (Nat → Prop) → (Nat → Prop) → World → Prop} {fd : FuncId} {fdo : Func} {cd : Code} {caps : Array Value} {Bm Bn Bd bk mny stp k0 : Nat}

set_option maxRecDepth 100000 in
set_option maxHeartbeats 4000000 in
theorem wp104 (J : Job p q St fd fdo cd caps Bm Bn Bd bk mny stp k0) (M : Nat → Prop) (w : World) (hF : St (fun _ => False) M w) :
    WpW Try.prog false (Rel p q) (Gua p q) 104 body104 (fun e a M' w' => e = .normal ∧ a.defers = [dDone p.Wg] ∧ St (fun j => j < mny ∧ j % stp = k0) M' w')
      { tmps := #[.pointer (some ⟨p.Wg, 0, none⟩), .pointer (some ⟨bk, 0, none⟩), .pointer (some ⟨Bm, 0, none⟩), .pointer (some ⟨Bn, 0, none⟩), .pointer (some ⟨Bd, 0, none⟩), undef, undef, undef, undef, undef, undef, undef, undef, undef, undef, undef], defers := [] } M w := by
  have T := termsW p q
  obtain ⟨hro1, hro2, hro3⟩ := J.ro
  obtain ⟨s1, s2, s3, s4⟩ := J.small
  unfold body104 Try.f104
  simp only [Option.getD_some]
  refine wpW_seq T ?_
  refine wpW_region T ?_; simp only [List.size_toArray, List.length_cons, List.length_nil, Nat.reduceAdd, Nat.zero_add, List.range, List.range.loop]
  refine opsW_defer T rfl (by rfl) rfl ?_
  walk_nrm
  refine opsW_nil T ?_
  refine wpW_seq T ?_
  refine wpW_region T ?_; simp only [List.size_toArray, List.length_cons, List.length_nil, Nat.reduceAdd, Nat.zero_add, List.range, List.range.loop]
  (refine opsW_cons_k rfl (by rfl) (fun w₁ h₁ K hK => ?_); replace hF := J.rely _ _ _ _ h₁ hF; clear h₁; have hx := (J.first _ _ _ hF).1; go_simp; refine hK _ _ ⟨M, Gua.reads (fun e he => (by have hm := mem_listed he; simp [go_sem, hx] at hm; subst hm; exact evG_own (J.first _ _ _ hF).2)), ?_⟩; clear hK K hx; try walk_nrm)
  (refine opsW_cons_k rfl (by rfl) (fun w₁ h₁ K hK => ?_); replace hF := J.rely _ _ _ _ h₁ hF; clear h₁; go_simp; refine hK _ _ ⟨M, Gua.reads (fun e he => (by have hm := mem_listed he; simp [go_sem] at hm)), ?_⟩; clear hK K; try walk_nrm)
  refine opsW_nil T ?_
  refine wpW_block T (wpW_loop T (fun n a M w => ∃ (i : Nat) (v6 v7 v8 v9 v10 v11 v12 v13 v14 v15 : Value), n = mny + stp - i ∧ i % stp = k0 ∧ i < mny + stp ∧ a = ⟨#[.pointer (some ⟨p.Wg, 0, none⟩), .pointer (some ⟨bk, 0, none⟩), .pointer (some ⟨Bm, 0, none⟩), .pointer (some ⟨Bn, 0, none⟩), .pointer (some ⟨Bd, 0, none⟩), .int .i64 i, v6, v7, v8, v9, v10, v11, v12, v13, v14, v15], [dDone p.Wg]⟩ ∧ St (Upto stp k0 i) M w) (N := mny + stp - k0) ⟨k0, _, _, _, _, _, _, _, _, _, _, rfl, Nat.mod_eq_of_lt s4, by omega, rfl, by rw [← upto_zero _ _ s4]; exact hF⟩ ?_)
  clear hF
  rintro n a M w ⟨i, v6, v7, v8, v9, v10, v11, v12, v13, v14, v15, rfl, hi, hlt, rfl, hF⟩
  refine wpW_seq T (wpW_seq T ?_)
  refine wpW_region T ?_; simp only [List.size_toArray, List.length_cons, List.length_nil, Nat.reduceAdd, Nat.zero_add, List.range, List.range.loop]
  (refine opsW_cons_k rfl (by rfl) (fun w₁ h₁ K hK => ?_); replace hF := J.rely _ _ _ _ h₁ hF; clear h₁; go_simp; refine hK _ _ ⟨M, Gua.reads (fun e he => (by have hm := mem_listed he; simp [go_sem] at hm)), ?_⟩; clear hK K; try walk_nrm)
  (refine opsW_cons_k rfl (by rfl) (fun w₁ h₁ K hK => ?_); replace hF := J.rely _ _ _ _ h₁ hF; clear h₁; have hx := J.many _ _ _ hF; go_simp; refine hK _ _ ⟨M, Gua.reads (fun e he => (by have hm := mem_listed he; simp [go_sem, hx] at hm; subst hm; exact evG_ro hro1)), ?_⟩; clear hK K hx; try walk_nrm)
  have hi0 : (0 : Int) ≤ (i : Int) := Int.natCast_nonneg _
  by_cases him : i < mny
  · have hd : decide (i < mny) = true := by simpa using him
    (refine opsW_cons_k rfl (by rfl) (fun w₁ h₁ K hK => ?_); replace hF := J.rely _ _ _ _ h₁ hF; clear h₁; go_simp; refine hK _ _ ⟨M, Gua.reads (fun e he => (by have hm := mem_listed he; simp [go_sem] at hm)), ?_⟩; clear hK K; try walk_nrm)
    refine opsW_nil T ?_
    refine wpW_cond T (t := true) (by first | rfl | simp [Act.eval]) ?_
    refine wpW_skip T ?_
    refine wpW_seq T (wpW_block T ?_)
    refine wpW_region T ?_; simp only [List.size_toArray, List.length_cons, List.length_nil, Nat.reduceAdd, Nat.zero_add, List.range, List.range.loop]
    (refine opsW_cons_k rfl (by rfl) (fun w₁ h₁ K hK => ?_); replace hF := J.rely _ _ _ _ h₁ hF; clear h₁; have hx := J.doit _ _ _ hF; go_simp; refine hK _ _ ⟨M, Gua.reads (fun e he => (by have hm := mem_listed he; simp [go_sem, hx] at hm; subst hm; exact evG_ro hro3)), ?_⟩; clear hK K hx; try walk_nrm)
    (refine opsW_cons_k rfl (by rfl) (fun w₁ h₁ K hK => ?_); replace hF := J.rely _ _ _ _ h₁ hF; clear h₁; go_simp; refine hK _ _ ⟨M, Gua.reads (fun e he => (by have hm := mem_listed he; simp [go_sem] at hm)), ?_⟩; clear hK K; try walk_nrm)
    refine opsW_enter (args := #[.int .i64 i] ++ caps) T rfl (by rfl) (fun w => ⟨?_, ?_⟩) J.fn J.body (J.job (Upto stp k0 i) _ _ i him hi (fun j => Iff.rfl) hF) ?_
    · unfold execOp
      have h1 : ¬ fdo.name = "runtime.NumGoroutine" := by simpa using J.named
      simp [resolve, Deferred.ofValue, invoke, callFunc, J.fn, h1, J.body, Act.eval]
    · unfold execOp
      have h1 : ¬ fdo.name = "runtime.NumGoroutine" := by simpa using J.named
      simp [resolve, Deferred.ofValue, invoke, callFunc, J.fn, h1, J.body, Act.eval]
    clear hF
    intro vr M w hF
    rw [upto_next stp k0 i hi s2] at hF
    walk_nrm
    refine opsW_nil T ?_
    refine wpW_region T ?_; simp only [List.size_toArray, List.length_cons, List.length_nil, Nat.reduceAdd, Nat.zero_add, List.range, List.range.loop]
    (refine opsW_cons_k rfl (by rfl) (fun w₁ h₁ K hK => ?_); replace hF := J.rely _ _ _ _ h₁ hF; clear h₁; go_simp; refine hK _ _ ⟨M, Gua.reads (fun e he => (by have hm := mem_listed he; simp [go_sem] at hm)), ?_⟩; clear hK K; try walk_nrm)
    (refine opsW_cons_k rfl (by rfl) (fun w₁ h₁ K hK => ?_); replace hF := J.rely _ _ _ _ h₁ hF; clear h₁; have hx := J.step _ _ _ hF; go_simp; refine hK _ _ ⟨M, Gua.reads (fun e he => (by have hm := mem_listed he; simp [go_sem, hx] at hm; subst hm; exact evG_ro hro2)), ?_⟩; clear hK K hx; try walk_nrm)
    have hs0 : (0 : Int) ≤ (stp : Int) := Int.natCast_nonneg _
    have hs1 : (stp : Int) ≤ 1000 := by omega
    have hi1 : (i : Int) ≤ 1000 := by omega
    (refine opsW_cons_k rfl (by rfl) (fun w₁ h₁ K hK => ?_); replace hF := J.rely _ _ _ _ h₁ hF; clear h₁; go_simp; refine hK _ _ ⟨M, Gua.reads (fun e he => (by have hm := mem_listed he; simp [go_sem] at hm)), ?_⟩; clear hK K; try walk_nrm)
    (refine opsW_cons_k rfl (by rfl) (fun w₁ h₁ K hK => ?_); replace hF := J.rely _ _ _ _ h₁ hF; clear h₁; go_simp; refine hK _ _ ⟨M, Gua.reads (fun e he => (by have hm := mem_listed he; simp [go_sem] at hm)), ?_⟩; clear hK K; try walk_nrm)
    refine opsW_nil T ?_
    have e9 : IntKind.i64.wrap ((i : Int) + (stp : Int)) = (i : Int) + stp := IntWalk.i64_in _ (by omega)
    exact ⟨mny + stp - (i + stp), by omega, i + stp, _, _, _, _, _, _, _, _, _, _, rfl, by rw [Nat.add_mod_right]; exact hi, by omega, by simp only [Int.natCast_add, e9]; rfl, hF⟩
  · have hd : decide (i < mny) = false := by simpa using him
    (refine opsW_cons_k rfl (by rfl) (fun w₁ h₁ K hK => ?_); replace hF := J.rely _ _ _ _ h₁ hF; clear h₁; go_simp; refine hK _ _ ⟨M, Gua.reads (fun e he => (by have hm := mem_listed he; simp [go_sem] at hm)), ?_⟩; clear hK K; try walk_nrm)
    refine opsW_nil T ?_
    refine wpW_cond T (t := false) (by first | rfl | simp [Act.eval]) ?_
    refine wpW_exit T ?_
    rw [upto_end stp k0 mny i hi s2 (by omega) hlt] at hF
    exact ⟨rfl, rfl, hF⟩
end
end Go.Proofs.Ytmhbjmkdekgmlaa.Sim
