/-
  Lone contracts of the reference's functions on seeds: validity, the next seed.
  Condition: the seed stands in its block; its words are uint64s.
-/
import Derived.Test.YtmhbjmkdekgmlaaLoneE
import Derived.Test.YtmhbjmkdekgmlaaLoneD
set_option linter.unusedSimpArgs false
set_option linter.unusedVariables false
namespace Go.Proofs.Ytmhbjmkdekgmlaa.Seeds
open Go Go.RowKit

set_option maxHeartbeats 4000000 in
theorem is_any (s : Sd) (B : Nat) (w : World) (h : s.Ok) (hB : w.heap[B]? = some (SdObj s)) : Calls Try.prog 80 #[.pointer (some ⟨B, 0, none⟩)] w fun e w' => e = .returned (.bool (validB s)) ∧ w = w' := by
  obtain ⟨c0, c1, c2, f0, f1, f2⟩ := cells3 hB
  obtain ⟨k, a, b⟩ := s
  obtain ⟨⟨a0, a1⟩, b0, b1⟩ := h
  simp only at a0 a1 b0 b1 c0 c1 c2
  clear hB
  by_cases h0 : k = 0
  · subst h0
    go_enter Try.func80, Try.ntmps80
    go_wp2
    go_ret
    simp [validB, tmod2 b0]
    rfl
  by_cases h1 : k = 1
  · subst h1
    go_enter Try.func80, Try.ntmps80
    go_wp2
    go_ret
    simp [validB]
    rfl
  by_cases h2 : k = 2
  · subst h2
    go_enter Try.func80, Try.ntmps80
    go_wp2
    go_ret
    simp [validB]
  by_cases h3 : k = 3
  · subst h3
    by_cases ha : a = 0
    · subst ha
      go_enter Try.func80, Try.ntmps80
      go_wp2
      go_ret
      simp [validB]
      rfl
    · have hd : decide (a = 0) = false := by simpa using ha
      have hd2 : (a == 0) = false := by simpa using ha
      go_enter Try.func80, Try.ntmps80
      go_wp2
      go_ret
      simp [validB, ha]
  have e0 : (k == 0) = false := by simpa using h0
  have e1 : (k == 1) = false := by simpa using h1
  have e2 : (k == 2) = false := by simpa using h2
  have e3 : (k == 3) = false := by simpa using h3
  go_enter Try.func80, Try.ntmps80
  go_wp2
  go_ret
  simp [validB, h0, h1, h2, h3]
set_option maxHeartbeats 4000000 in
theorem can_any (s : Sd) (B : Nat) (n : Int) (w : World) (h : s.Ok) (hB : w.heap[B]? = some (SdObj s)) : Calls Try.prog 88 #[.pointer (some ⟨B, 0, none⟩), .int .i64 n] w fun e w' => e = .returned (.bool (validB s && (decide (0 ≤ n) && decide (n ≤ 256)))) ∧ w = w' := by
  have hi := is_any s B w h hB
  cases hv : validB s with
  | true =>
    rw [hv] at hi
    go_enter Try.func88, Try.ntmps88
    go_wp2_with (first | (go_at_call 80; ((with_reducible refine hi.mono ?_); rintro e w' ⟨rfl, rfl⟩)) | (go_at_call 87; ((with_reducible refine (in_any n 0 256 _).mono ?_); rintro e w' ⟨rfl, rfl⟩)))
    go_ret
    simp
  | false =>
    rw [hv] at hi
    go_enter Try.func88, Try.ntmps88
    go_wp2_with (first | (go_at_call 80; ((with_reducible refine hi.mono ?_); rintro e w' ⟨rfl, rfl⟩)) | (go_at_call 87; ((with_reducible refine (in_any n 0 256 _).mono ?_); rintro e w' ⟨rfl, rfl⟩)))
    go_ret
    simp

/-- What the reference's step leaves: the seed's block holds the next seed, all others stand. -/
def Moved (B : Nat) (s : Sd) (w w' : World) : Prop := w'.heap[B]? = some (SdObj s) ∧ w'.heap.size = w.heap.size ∧ ∀ b, b ≠ B → w'.heap[b]? = w.heap[b]?
theorem moved1 {w : World} {B : Nat} {s : Sd} (h : w.heap[B]? = some (SdObj s)) (x : Int) : Moved B ⟨s.k, x, s.b⟩ w (w.setCell ⟨B, 1, none⟩ (.int .u64 x)) := by
  refine ⟨by simp [World.setCell, Array.getElem?_modify, h, SdObj], by simp, fun b hb => Below.heap_setCell _ _ _ _ hb⟩
theorem moved2 {w : World} {B : Nat} {s : Sd} (h : w.heap[B]? = some (SdObj s)) (x y : Int) : Moved B ⟨s.k, x, y⟩ w ((w.setCell ⟨B, 1, none⟩ (.int .u64 x)).setCell ⟨B, 2, none⟩ (.int .u64 y)) := by
  refine ⟨by simp [World.setCell, Array.getElem?_modify, h, SdObj], by simp, fun b hb => ?_⟩
  rw [Below.heap_setCell _ _ _ _ hb, Below.heap_setCell _ _ _ _ hb]

theorem mod_hi {x : Int} (h : U64 x) : x / 4294967296 % 4294967296 = x / 4294967296 := by unfold U64 at h; omega
theorem Moved.trans {B : Nat} {s s' : Sd} {w w' w'' : World} (h : Moved B s w w') (k : Moved B s' w' w'') : Moved B s' w w'' := ⟨k.1, k.2.1.trans h.2.1, fun b hb => (k.2.2 b hb).trans (h.2.2 b hb)⟩
theorem mixS_q (x : Int) (w : World) (h : U64 x) : Calls Try.prog 100 #[.int .u64 x] w fun e w' => e = .returned (.int .u64 (mixI x)) ∧ w' = w := (mixS_any x w h).mono fun _ _ h => ⟨h.1, h.2.symm⟩
theorem nextW_line (a b : Int) : nextW ⟨0, a, b⟩ = wrapU (wrapU (6364136223846793005 * a) + b) / 4294967296 % 4294967296 := by rw [mod_hi (wrapU_u64 _)]; simp [nextW, rawW, lineA]
theorem nextW_shift (a b : Int) : nextW ⟨1, a, b⟩ = wrapU (sh3 a * 2685821657736338717) / 4294967296 % 4294967296 := by rw [mod_hi (wrapU_u64 _)]; simp [nextW, rawW]
theorem nextW_count (a b : Int) : nextW ⟨2, a, b⟩ = mixI (wrapU (cntA a + b)) / 4294967296 % 4294967296 := by rw [mod_hi (mixI_u64 _)]; simp [nextW, rawW]
theorem nextW_pair (k a b : Int) (h0 : k ≠ 0) (h1 : k ≠ 1) (h2 : k ≠ 2) : nextW ⟨k, a, b⟩ = wrapU (a + b) / 4294967296 % 4294967296 := by rw [mod_hi (wrapU_u64 _)]; simp [nextW, rawW, h0, h1, h2]
theorem nextS_line (a b : Int) : nextS ⟨0, a, b⟩ = ⟨0, wrapU (wrapU (6364136223846793005 * a) + b), b⟩ := by simp [nextS, lineA]
theorem nextS_shift (a b : Int) : nextS ⟨1, a, b⟩ = ⟨1, sh3 a, b⟩ := by simp [nextS]
theorem nextS_count (a b : Int) : nextS ⟨2, a, b⟩ = ⟨2, cntA a, b⟩ := by simp [nextS]
theorem nextS_pair (k a b : Int) (h0 : k ≠ 0) (h1 : k ≠ 1) (h2 : k ≠ 2) : nextS ⟨k, a, b⟩ = ⟨k, parA a b, parB a b⟩ := by simp [nextS, h0, h1, h2]
set_option maxRecDepth 100000 in
set_option maxHeartbeats 8000000 in
theorem nextL_line (s : Sd) (B : Nat) (w : World) (h : s.Ok) (hk : s.k = 0) (hB : w.heap[B]? = some (SdObj s)) : Calls Try.prog 118 #[.pointer (some ⟨B, 0, none⟩)] w fun e w' => e = .returned (.int .u32 (nextW s)) ∧ Moved B (nextS s) w w' := by
  obtain ⟨c0, c1, c2, f0, f1, f2⟩ := cells3 hB
  obtain ⟨k, a, b⟩ := s
  obtain ⟨⟨a0, a1⟩, b0, b1⟩ := h
  simp only at hk a0 a1 b0 b1 c0 c1 c2
  subst hk
  have HB := Lib.hid hB
  clear hB
  go_enter Try.func118, Try.ntmps118
  go_wp2
  go_region
  go_wp2
  rw [nextS_line]
  refine bodyPost_ret (v := .int .u32 (nextW ⟨0, a, b⟩)) ?_ rfl ⟨rfl, moved1 HB.out _⟩
  simp [results, Try.results118, go_sem, nextW_line, wrapU]
end Go.Proofs.Ytmhbjmkdekgmlaa.Seeds
