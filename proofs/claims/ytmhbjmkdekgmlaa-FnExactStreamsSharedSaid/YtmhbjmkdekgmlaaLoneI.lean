/-
  Lone contracts of the reference: the next seed of the kind Pair.
  Condition: the seed stands in its block; its words are uint64s.
-/
import Derived.Test.YtmhbjmkdekgmlaaLoneG
import Derived.Test.YtmhbjmkdekgmlaaLoneH
set_option linter.unusedSimpArgs false
set_option linter.unusedVariables false
namespace Go.Proofs.Ytmhbjmkdekgmlaa.Seeds
open Go Go.RowKit

theorem moved2d {w : World} {B : Nat} {k a b : Int} (h : w.heap[B]? = some (SdObj ⟨k, a, b⟩)) (x y : Int) : Moved B ⟨k, x, y⟩ w (((w.setCell ⟨B, 1, none⟩ (.int .u64 x)).setCell ⟨B, 2, none⟩ (.int .u64 y)).drew.drew) := moved2 h x y
theorem moved1d {w : World} {B : Nat} {k a b : Int} (h : w.heap[B]? = some (SdObj ⟨k, a, b⟩)) (x : Int) : Moved B ⟨k, x, b⟩ w ((w.setCell ⟨B, 1, none⟩ (.int .u64 x)).drew.drew) := moved1 h x
theorem movedB {w : World} {B : Nat} {k a b : Int} (h : w.heap[B]? = some (SdObj ⟨k, a, b⟩)) (y : Int) : Moved B ⟨k, a, y⟩ w (w.setCell ⟨B, 2, none⟩ (.int .u64 y)) := by
  refine ⟨by simp [World.setCell, Array.getElem?_modify, h, SdObj], by simp, fun b hb => Below.heap_setCell _ _ _ _ hb⟩
theorem parA_eq (a b : Int) : parA a b = bits .xor .u64 (bits .xor .u64 (rotI a 16777216 1099511627776) (bits .xor .u64 b a)) (IntKind.u64.wrap (bits .xor .u64 b a * 65536)) := by simp only [parA, parX, wrapU]
theorem parB_eq (a b : Int) : parB a b = rotI (bits .xor .u64 b a) 137438953472 134217728 := by simp only [parB, parX]
set_option maxRecDepth 100000 in
set_option maxHeartbeats 8000000 in
theorem nextL_pair (s : Sd) (B : Nat) (w : World) (h : s.Ok) (h0 : s.k ≠ 0) (h1 : s.k ≠ 1) (h2 : s.k ≠ 2) (hB : w.heap[B]? = some (SdObj s)) : Calls Try.prog 118 #[.pointer (some ⟨B, 0, none⟩)] w fun e w' => e = .returned (.int .u32 (nextW s)) ∧ Moved B (nextS s) w w' := by
  obtain ⟨c0, c1, c2, f0, f1, f2⟩ := cells3 hB
  obtain ⟨k, a, b⟩ := s
  obtain ⟨⟨a0, a1⟩, b0, b1⟩ := h
  simp only at h0 h1 h2 a0 a1 b0 b1 c0 c1 c2
  have e0 : ((k : Int) == 0) = false := by simpa using h0
  have e1 : ((k : Int) == 1) = false := by simpa using h1
  have e2 : ((k : Int) == 2) = false := by simpa using h2
  have HB := Lib.hid hB
  clear hB
  go_enter Try.func118, Try.ntmps118
  have ha : U64 a := ⟨a0, a1⟩
  have hx : U64 (bits .xor .u64 b a) := wrapU_u64 _
  go_wp2
  go_region
  go_wp2
  go_region
  go_wp2_with fail
  refine (turn24_any a _ ha).mono ?_
  rintro e w' ⟨rfl, rfl⟩
  go_wp2_with fail
  have M1 : Moved B ⟨k, bits .xor .u64 (bits .xor .u64 (rotI a 16777216 1099511627776) (bits .xor .u64 b a)) (IntKind.u64.wrap (bits .xor .u64 b a * 65536)), b⟩ w ((w.setCell ⟨B, 1, none⟩ (.int .u64 (bits .xor .u64 (bits .xor .u64 (rotI a 16777216 1099511627776) (bits .xor .u64 b a)) (IntKind.u64.wrap (bits .xor .u64 b a * 65536))))).drew.drew) := moved1d HB.out _
  generalize hX : bits .xor .u64 (bits .xor .u64 (rotI a 16777216 1099511627776) (bits .xor .u64 b a)) (IntKind.u64.wrap (bits .xor .u64 b a * 65536)) = X at M1 ⊢
  generalize (w.setCell ⟨B, 1, none⟩ (.int .u64 X)).drew.drew = w1 at M1 ⊢
  clear c0 c1 c2 f0 f1 f2
  obtain ⟨c0, c1, c2, f0, f1, f2⟩ := cells3 M1.1
  simp only at c0 c1 c2
  replace M1 := Lib.hid M1
  replace hX := Lib.hid hX
  refine (turn37_any (bits .xor .u64 b a) _ hx).mono ?_
  rintro e w' ⟨rfl, rfl⟩
  go_wp2_with fail
  rw [nextS_pair k a b h0 h1 h2, parA_eq, parB_eq, hX.out]
  refine bodyPost_ret (v := .int .u32 (nextW ⟨k, a, b⟩)) ?_ rfl ⟨rfl, M1.out.trans (movedB M1.out.1 _)⟩
  simp [results, Try.results118, go_sem, nextW_pair k a b h0 h1 h2, wrapU]
theorem nextL_any (s : Sd) (B : Nat) (w : World) (h : s.Ok) (hB : w.heap[B]? = some (SdObj s)) : Calls Try.prog 118 #[.pointer (some ⟨B, 0, none⟩)] w fun e w' => e = .returned (.int .u32 (nextW s)) ∧ Moved B (nextS s) w w' := by
  by_cases h0 : s.k = 0
  · exact nextL_line s B w h h0 hB
  by_cases h1 : s.k = 1
  · exact nextL_shift s B w h h1 hB
  by_cases h2 : s.k = 2
  · exact nextL_count s B w h h2 hB
  · exact nextL_pair s B w h h0 h1 h2 hB
end Go.Proofs.Ytmhbjmkdekgmlaa.Seeds
