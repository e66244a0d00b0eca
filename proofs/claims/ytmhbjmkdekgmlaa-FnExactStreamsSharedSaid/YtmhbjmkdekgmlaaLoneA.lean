/-
  Lone contracts of the seeds' functions: the mixing of a word, the turn of a word.
  Condition: the word is a uint64.
-/
import Derived.Test.YtmhbjmkdekgmlaaRows
import Derived.WalkKit
import Derived.WalkSpells
import Derived.WalkLawsBesides
import Derived.Laws.Bits64
set_option linter.unusedSimpArgs false
set_option linter.unusedVariables false
namespace Go.Proofs.Ytmhbjmkdekgmlaa.Seeds
open Go Go.RowKit

def U64 (x : Int) : Prop := 0 ≤ x ∧ x < 18446744073709551616
def wrapU (x : Int) : Int := IntKind.u64.wrap x
theorem wrapU_u64 (x : Int) : U64 (wrapU x) := by unfold U64 wrapU; rw [IntKind.wrap_u64]; omega
def mixY (x : Int) : Int := wrapU (bits .xor .u64 x (x / 1073741824) * 13787848793156543929)
def mixZ (x : Int) : Int := wrapU (bits .xor .u64 (mixY x) (mixY x / 134217728) * 10723151780598845931)
def mixI (x : Int) : Int := bits .xor .u64 (mixZ x) (mixZ x / 2147483648)

set_option maxHeartbeats 1000000 in
theorem mix_any (x : Int) (w : World) (h : U64 x) : Calls Try.prog 26 #[.int .u64 x] w fun e w' => e = .returned (.int .u64 (mixI x)) ∧ w = w' := by
  have h0 := h.1
  have h1 := h.2
  go_enter Try.func26, Try.ntmps26
  go_wp2
  go_ret
  exact ⟨rfl, rfl⟩

def rotI (x : Int) (m d : Int) : Int := bits .or .u64 (wrapU (x * m)) (x / d)
set_option maxHeartbeats 1000000 in
theorem rot24_any (x : Int) (w : World) (h : U64 x) : Calls Try.prog 102 #[.int .u64 x, .int .i64 24] w fun e w' => e = .returned (.int .u64 (rotI x 16777216 1099511627776)) ∧ w = w' := by
  have h0 := h.1
  have h1 := h.2
  have hb : bits .and .u64 24 63 = 24 := by decide
  go_enter Try.func102, Try.ntmps102
  go_wp2
  go_ret
  exact ⟨rfl, rfl⟩
set_option maxHeartbeats 1000000 in
theorem rot37_any (x : Int) (w : World) (h : U64 x) : Calls Try.prog 102 #[.int .u64 x, .int .i64 37] w fun e w' => e = .returned (.int .u64 (rotI x 137438953472 134217728)) ∧ w = w' := by
  have h0 := h.1
  have h1 := h.2
  have hb : bits .and .u64 37 63 = 37 := by decide
  go_enter Try.func102, Try.ntmps102
  go_wp2
  go_ret
  exact ⟨rfl, rfl⟩
set_option maxHeartbeats 1000000 in
theorem mixS_any (x : Int) (w : World) (h : U64 x) : Calls Try.prog 100 #[.int .u64 x] w fun e w' => e = .returned (.int .u64 (mixI x)) ∧ w = w' := by
  have h0 := h.1
  have h1 := h.2
  go_enter Try.func100, Try.ntmps100
  go_wp2
  go_ret
  exact ⟨rfl, rfl⟩
set_option maxHeartbeats 1000000 in
theorem turn24_any (x : Int) (w : World) (h : U64 x) : Calls Try.prog 153 #[.int .u64 x, .int .u64 24] w fun e w' => e = .returned (.int .u64 (rotI x 16777216 1099511627776)) ∧ w = w' := by
  have h0 := h.1
  have h1 := h.2
  go_enter Try.func153, Try.ntmps153
  go_wp2
  go_ret
  exact ⟨rfl, rfl⟩
set_option maxHeartbeats 1000000 in
theorem turn37_any (x : Int) (w : World) (h : U64 x) : Calls Try.prog 153 #[.int .u64 x, .int .u64 37] w fun e w' => e = .returned (.int .u64 (rotI x 137438953472 134217728)) ∧ w = w' := by
  have h0 := h.1
  have h1 := h.2
  go_enter Try.func153, Try.ntmps153
  go_wp2
  go_ret
  exact ⟨rfl, rfl⟩
end Go.Proofs.Ytmhbjmkdekgmlaa.Seeds
