/-
  Lone contracts of small functions: bounds, the validity of a seed, the laws' seed made the program's.
  No condition.
-/
import Derived.Test.YtmhbjmkdekgmlaaLoneC
set_option linter.unusedSimpArgs false
set_option linter.unusedVariables false
namespace Go.Proofs.Ytmhbjmkdekgmlaa.Seeds
open Go Go.RowKit

set_option maxHeartbeats 1000000 in
theorem within_any (n lo hi : Int) (w : World) : Calls Try.prog 61 #[.int .i64 n, .int .i64 lo, .int .i64 hi] w fun e w' => e = .returned (.bool (decide (lo ≤ n) && decide (n ≤ hi))) ∧ w = w' := by
  by_cases h : lo ≤ n
  · have hd : decide (lo ≤ n) = true := by simpa using h
    go_enter Try.func61, Try.ntmps61
    go_wp2
    go_ret
    simp [h]
  · have hd : decide (lo ≤ n) = false := by simpa using h
    go_enter Try.func61, Try.ntmps61
    go_wp2
    go_ret
    simp [h]
set_option maxHeartbeats 1000000 in
theorem in_any (n lo hi : Int) (w : World) : Calls Try.prog 87 #[.int .i64 n, .int .i64 lo, .int .i64 hi] w fun e w' => e = .returned (.bool (decide (lo ≤ n) && decide (n ≤ hi))) ∧ w = w' := by
  by_cases h : lo ≤ n
  · have hd : decide (lo ≤ n) = true := by simpa using h
    go_enter Try.func87, Try.ntmps87
    go_wp2
    go_ret
    simp [h]
  · have hd : decide (lo ≤ n) = false := by simpa using h
    go_enter Try.func87, Try.ntmps87
    go_wp2
    go_ret
    simp [h]
set_option maxHeartbeats 1000000 in
theorem crew_any (n : Int) (w : World) : Calls Try.prog 66 #[.int .i64 n] w fun e w' => e = .returned (.bool (decide (1 ≤ n) && decide (n ≤ 8))) ∧ w = w' := by
  go_enter Try.func66, Try.ntmps66
  go_wp2_with (go_at_call 61; ((with_reducible refine (within_any n 1 8 _).mono ?_); rintro e w' ⟨rfl, rfl⟩))
  go_ret
  simp
def vOdd (b : Int) : Bool := decide (b % 2 = 1)
def validB (s : Sd) : Bool := if s.k = 0 then decide (s.b % 2 = 1) else if s.k = 1 then decide (s.a ≠ 0) else if s.k = 2 then true else if s.k = 3 then decide (s.a ≠ 0) || decide (s.b ≠ 0) else false
theorem tmod2 {b : Int} (h : 0 ≤ b) : b.tmod 2 = b % 2 := Int.tmod_eq_emod_of_nonneg h
set_option maxHeartbeats 4000000 in
theorem valid_any (s : Sd) (w : World) (h : s.Ok) : Calls Try.prog 17 #[s.val] w fun e w' => e = .returned (.bool (validB s)) := by
  obtain ⟨k, a, b⟩ := s
  obtain ⟨⟨a0, a1⟩, b0, b1⟩ := h
  simp only at a0 a1 b0 b1
  unfold Sd.val
  by_cases h0 : k = 0
  · subst h0
    go_enter Try.func17, Try.ntmps17
    go_wp2
    go_ret
    simp [validB, tmod2 b0]
    rfl
  by_cases h1 : k = 1
  · subst h1
    go_enter Try.func17, Try.ntmps17
    go_wp2
    go_ret
    simp [validB]
    rfl
  by_cases h3 : k = 3
  · subst h3
    by_cases ha : a = 0
    · subst ha
      go_enter Try.func17, Try.ntmps17
      go_wp2
      go_ret
      simp [validB]
      rfl
    · have hd : decide (a = 0) = false := by simpa using ha
      have hd2 : (a == 0) = false := by simpa using ha
      go_enter Try.func17, Try.ntmps17
      go_wp2
      go_ret
      simp [validB, ha]
  have e0 : (k == 0) = false := by simpa using h0
  have e1 : (k == 1) = false := by simpa using h1
  have e3 : (k == 3) = false := by simpa using h3
  go_enter Try.func17, Try.ntmps17
  go_wp2
  go_ret
  simp [validB, h0, h1, h3]
  rfl
set_option maxHeartbeats 4000000 in
theorem seed_any (s : Sd) (w : World) : Calls Try.prog 39 #[s.val] w fun e w' => e = .returned s.val := by
  obtain ⟨k, a, b⟩ := s
  unfold Sd.val
  go_enter Try.func39, Try.ntmps39
  go_wp2
  exact bodyPost_ret (v := .agg #[.int .i64 k, .int .u64 a, .int .u64 b]) (by simp [results, Try.results39, go_sem]) rfl rfl
end Go.Proofs.Ytmhbjmkdekgmlaa.Seeds
