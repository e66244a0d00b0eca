/-
  Lone contracts of the reference: the next seed of the kind Shift.
  Condition: the seed stands in its block; its words are uint64s.
-/
import Derived.Test.YtmhbjmkdekgmlaaLoneF
set_option linter.unusedSimpArgs false
set_option linter.unusedVariables false
namespace Go.Proofs.Ytmhbjmkdekgmlaa.Seeds
open Go Go.RowKit

set_option maxRecDepth 100000 in
set_option maxHeartbeats 8000000 in
theorem nextL_shift (s : Sd) (B : Nat) (w : World) (h : s.Ok) (hk : s.k = 1) (hB : w.heap[B]? = some (SdObj s)) : Calls Try.prog 118 #[.pointer (some ⟨B, 0, none⟩)] w fun e w' => e = .returned (.int .u32 (nextW s)) ∧ Moved B (nextS s) w w' := by
  obtain ⟨c0, c1, c2, f0, f1, f2⟩ := cells3 hB
  obtain ⟨k, a, b⟩ := s
  obtain ⟨⟨a0, a1⟩, b0, b1⟩ := h
  simp only at hk a0 a1 b0 b1 c0 c1 c2
  subst hk
  have HB := Lib.hid hB
  clear hB
  go_enter Try.func118, Try.ntmps118
  go_wp2
  go_region
  have M1 : Moved B ⟨1, sh1 a, b⟩ w ((w.setCell ⟨B, 1, none⟩ (.int .u64 (bits .xor .u64 a (IntKind.u64.wrap (a * 8192))))).drew) := moved1 HB.out _
  generalize (w.setCell ⟨B, 1, none⟩ (.int .u64 (bits .xor .u64 a (IntKind.u64.wrap (a * 8192))))).drew = w1 at M1 ⊢
  clear c0 c1 c2 f0 f1 f2
  obtain ⟨c0, c1, c2, f0, f1, f2⟩ := cells3 M1.1
  simp only at c0 c1 c2
  replace HB := Lib.hid M1.1
  replace M1 := Lib.hid M1
  go_wp2
  go_region
  have M2 : Moved B ⟨1, sh2 a, b⟩ w1 ((w1.setCell ⟨B, 1, none⟩ (.int .u64 (bits .xor .u64 (sh1 a) (sh1 a / 128)))).drew) := moved1 HB.out _
  generalize (w1.setCell ⟨B, 1, none⟩ (.int .u64 (bits .xor .u64 (sh1 a) (sh1 a / 128)))).drew = w2 at M2 ⊢
  clear c0 c1 c2 f0 f1 f2
  obtain ⟨c0, c1, c2, f0, f1, f2⟩ := cells3 M2.1
  simp only at c0 c1 c2
  replace HB := Lib.hid M2.1
  replace M2 := Lib.hid M2
  go_wp2
  go_region
  have M3 : Moved B ⟨1, sh3 a, b⟩ w2 ((w2.setCell ⟨B, 1, none⟩ (.int .u64 (bits .xor .u64 (sh2 a) (IntKind.u64.wrap (sh2 a * 131072))))).drew) := moved1 HB.out _
  generalize (w2.setCell ⟨B, 1, none⟩ (.int .u64 (bits .xor .u64 (sh2 a) (IntKind.u64.wrap (sh2 a * 131072))))).drew = w3 at M3 ⊢
  clear c0 c1 c2 f0 f1 f2
  obtain ⟨c0, c1, c2, f0, f1, f2⟩ := cells3 M3.1
  simp only at c0 c1 c2
  replace HB := Lib.hid M3.1
  replace M3 := Lib.hid M3
  go_wp2
  rw [nextS_shift]
  refine bodyPost_ret (v := .int .u32 (nextW ⟨1, a, b⟩)) ?_ rfl ⟨rfl, (M1.out.trans M2.out).trans M3.out⟩
  simp [results, Try.results118, go_sem, nextW_shift, wrapU]
end Go.Proofs.Ytmhbjmkdekgmlaa.Seeds
