/-
  Lone contracts of the reference: the seed of a stream.
  Condition: the seed stands in its block; its words are uint64s; the stream's number is an int64.
-/
import Derived.Test.YtmhbjmkdekgmlaaLoneI
set_option linter.unusedSimpArgs false
set_option linter.unusedVariables false
namespace Go.Proofs.Ytmhbjmkdekgmlaa.Seeds
open Go Go.RowKit

set_option maxRecDepth 100000 in
set_option maxHeartbeats 4000000 in
theorem splitL_any (s : Sd) (i : Int) (B : Nat) (w : World) (h : s.Ok) (hi : -9223372036854775808 ≤ i ∧ i ≤ 9223372036854775807)
    (c0 : w.cell? ⟨B, 0, none⟩ = some (.int .i64 s.k)) (c1 : w.cell? ⟨B, 1, none⟩ = some (.int .u64 s.a)) (c2 : w.cell? ⟨B, 2, none⟩ = some (.int .u64 s.b)) :
    Calls Try.prog 89 #[.pointer (some ⟨B, 0, none⟩), .int .i64 i] w fun e w' => e = .returned (splitS s i).val ∧ w'.cell? ⟨B, 0, none⟩ = some (.int .i64 s.k) ∧ w'.cell? ⟨B, 1, none⟩ = some (.int .u64 s.a) ∧ w'.cell? ⟨B, 2, none⟩ = some (.int .u64 s.b) := by
  have hlt : B < w.heap.size := by
    unfold World.cell? at c0
    split at c0
    · rename_i e; exact (Array.getElem?_eq_some_iff.1 e).1
    · cases c0
  obtain ⟨k, a, b⟩ := s
  obtain ⟨ha, hb⟩ := h
  simp only at ha hb c0 c1 c2
  obtain ⟨a0, a1⟩ := ha
  obtain ⟨b0, b1⟩ := hb
  go_enter Try.func89, Try.ntmps89
  go_wp2
  have hm1 : U64 a := ⟨a0, a1⟩
  have hm2 : U64 (IntKind.u64.wrap (IntKind.u64.wrap (b + IntKind.u64.wrap i) + 1)) := wrapU_u64 _
  go_quiet ((first | (go_at_call 100; with_reducible exact Calls.quiet_of_same (mixS_q _ _ hm1)) | (go_at_call 100; with_reducible exact Calls.quiet_of_same (mixS_q _ _ hm2))))
  go_wp2
  generalize hX : IntKind.u64.wrap (mixI a + mixI (IntKind.u64.wrap (IntKind.u64.wrap (b + IntKind.u64.wrap i) + 1))) = X
  have HX := Lib.hid hX
  clear hX
  have hm3 : U64 (IntKind.u64.wrap (X + 1)) := wrapU_u64 _
  clear hm1 hm2
  go_region_held3 (fun w' => w'.cell? ⟨B, 0, none⟩ = some (.int .i64 k) ∧ w'.cell? ⟨B, 1, none⟩ = some (.int .u64 a) ∧ w'.cell? ⟨B, 2, none⟩ = some (.int .u64 b)) (first | go_keep | (simp; done))
    (first | (go_at_call 100; ((with_reducible refine (mixS_any _ _ hm3).mono ?_); rintro e w' ⟨rfl, rfl⟩)))
  go_wp2
  all_goals
    have e1 : splX a b i = X := HX.out
    refine bodyPost_ret (v := (splitS ⟨k, a, b⟩ i).val) ?_ rfl ⟨rfl, ?_, ?_, ?_⟩
    rw [splitS_val k a b i X e1 _ _ rfl rfl]
    clear e1 HX hm3
    all_goals simp_all [results, Try.results89, go_sem, splB, wrapU, mod_mix]
end Go.Proofs.Ytmhbjmkdekgmlaa.Seeds
