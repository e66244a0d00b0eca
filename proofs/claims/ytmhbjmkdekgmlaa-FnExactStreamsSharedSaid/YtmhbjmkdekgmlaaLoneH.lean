/-
  Lone contracts of the reference: the next seed of the kind Count.
  Condition: the seed stands in its block; its words are uint64s.
-/
import Derived.Test.YtmhbjmkdekgmlaaLoneF
set_option linter.unusedSimpArgs false
set_option linter.unusedVariables false
namespace Go.Proofs.Ytmhbjmkdekgmlaa.Seeds
open Go Go.RowKit

set_option maxRecDepth 100000 in
set_option maxHeartbeats 8000000 in
theorem nextL_count (s : Sd) (B : Nat) (w : World) (h : s.Ok) (hk : s.k = 2) (hB : w.heap[B]? = some (SdObj s)) : Calls Try.prog 118 #[.pointer (some ⟨B, 0, none⟩)] w fun e w' => e = .returned (.int .u32 (nextW s)) ∧ Moved B (nextS s) w w' := by
  obtain ⟨c0, c1, c2, f0, f1, f2⟩ := cells3 hB
  obtain ⟨k, a, b⟩ := s
  obtain ⟨⟨a0, a1⟩, b0, b1⟩ := h
  simp only at hk a0 a1 b0 b1 c0 c1 c2
  subst hk
  have HB := Lib.hid hB
  clear hB
  go_enter Try.func118, Try.ntmps118
  have hm : U64 (IntKind.u64.wrap (cntA a + b)) := wrapU_u64 _
  go_wp2
  have M1 : Moved B ⟨2, cntA a, b⟩ w ((w.setCell ⟨B, 1, none⟩ (.int .u64 (IntKind.u64.wrap (a + 11400714819323198485))))) := moved1 HB.out _
  generalize (w.setCell ⟨B, 1, none⟩ (.int .u64 (IntKind.u64.wrap (a + 11400714819323198485)))) = w1 at M1 ⊢
  clear c0 c1 c2 f0 f1 f2
  obtain ⟨c0, c1, c2, f0, f1, f2⟩ := cells3 M1.1
  simp only at c0 c1 c2
  replace HB := Lib.hid M1.1
  replace M1 := Lib.hid M1
  go_quiet ((first | (go_at_call 100; with_reducible exact Calls.quiet_of_same (mixS_q _ _ hm))))
  go_wp2
  rw [nextS_count]
  refine bodyPost_ret (v := .int .u32 (nextW ⟨2, a, b⟩)) ?_ rfl ⟨rfl, M1.out⟩
  simp [results, Try.results118, go_sem, nextW_count, wrapU]
end Go.Proofs.Ytmhbjmkdekgmlaa.Seeds
