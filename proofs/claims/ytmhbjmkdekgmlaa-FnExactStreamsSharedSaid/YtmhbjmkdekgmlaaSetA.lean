/-
  The functions of this program whose lone contracts are carried into company: which temporaries may hold a place; their texts pass the check.
  No condition.
-/
import Derived.Test.YtmhbjmkdekgmlaaRows
import Derived.Test.YtmhbjmkdekgmlaaWayB
set_option linter.unusedSimpArgs false
set_option linter.unusedVariables false
namespace Go.Proofs.Ytmhbjmkdekgmlaa.Sim
open Go

def places : FuncId → List Nat
| 17 => [1, 3, 7, 13, 18, 22, 26]
  | 26 => []
  | 39 => [1, 2, 3, 4, 6, 7, 9, 10, 12]
  | 42 => [0, 1, 6, 8, 12, 17, 19, 21, 23]
  | 43 => [0, 7, 12, 15]
  | 44 => [0, 7, 12, 14]
  | 61 => []
  | 62 => [2, 4, 5, 6, 7, 9, 19, 21, 22, 25]
  | 65 => [1, 2, 6, 8, 10, 13, 15, 18, 26, 29, 32, 35, 38, 39, 43, 45, 49, 50, 52, 56, 57, 59, 63, 64, 69, 72, 73, 75]
  | 66 => []
  | 69 => [2, 4, 6, 7, 10, 18, 27, 28, 32, 37, 40]
  | 80 => [0, 3, 4, 5, 9, 10, 11, 17, 18, 19, 26, 27, 28, 32, 33, 34]
  | 87 => []
  | 88 => [0, 5]
  | 89 => [0, 4, 6, 7, 8, 9, 12, 13, 14, 22, 23, 24, 33, 34, 35, 36, 40, 45, 48]
  | 90 => [0, 4, 5, 7, 13, 14, 17, 18, 19]
  | 100 => []
  | 102 => []
  | 118 => [0, 5, 6, 7, 11, 12, 13, 14, 17, 18, 19, 22, 23, 24, 25, 26, 32, 33, 34, 36, 37, 38, 42, 43, 44, 45, 46, 48, 49, 50, 54, 55, 56, 57, 58, 60, 61, 62, 66, 67, 68, 69, 70, 77, 78, 79, 82, 83, 84, 85, 86, 88, 89, 90, 96, 97, 98, 100, 101, 102, 107, 108, 109, 111, 112, 113, 116, 117, 118, 119, 127, 128, 129, 132, 133]
  | 153 => []
  | _ => []
def npT (f : FuncId) (t : Nat) : Bool := !(places f).contains t
def bodies : List FuncId := [17, 26, 39, 42, 43, 44, 61, 62, 65, 66, 69, 80, 87, 88, 89, 90, 100, 102, 118, 153]
def callees : List FuncId := [26, 65, 102, 61, 100, 118, 80, 87, 153]
def BT (f : FuncId) : Bool := bodies.contains f
def FT (f : FuncId) : Bool := callees.contains f

noncomputable def bodyCheck (f : FuncId) : Bool :=
  match Try.prog.funcs[f]? with
  | some fn => match fn.body with
    | some c => !(fn.name == "runtime.NumGoroutine") && codeOk Try.prog FT (npT f) c && (!FT f || fn.results.all (resOk (npT f))) && (!(FT f && ptr1 Try.prog f) || !npT f 0)
    | none => false
  | none => false
theorem bodyCheck_all : bodies.all bodyCheck = true := by kernel_rfl
theorem callees_in : callees.all (fun f => bodies.contains f) = true := by kernel_rfl

theorem bodyCheck_of {f : FuncId} (h : BT f = true) : ∃ fn c, Try.prog.funcs[f]? = some fn ∧ fn.body = some c ∧ (fn.name == "runtime.NumGoroutine") = false ∧ codeOk Try.prog FT (npT f) c = true ∧ (FT f = true → fn.results.all (resOk (npT f)) = true) ∧ (FT f = true → ptr1 Try.prog f = true → npT f 0 = false) := by
  have hb := List.all_eq_true.1 bodyCheck_all f (by simpa [BT] using h)
  unfold bodyCheck at hb
  split at hb
  · rename_i fn hf
    split at hb
    · rename_i c hc
      simp only [Bool.and_eq_true, Bool.or_eq_true, Bool.not_eq_true', Bool.and_eq_false_iff] at hb
      obtain ⟨⟨⟨h1, h2⟩, h3⟩, h4⟩ := hb
      refine ⟨fn, c, hf, hc, h1, h2, fun hF => ?_, fun hF hp => ?_⟩
      · rcases h3 with h | h
        · rw [hF] at h; cases h
        · exact h
      · rcases h4 with (h | h) | h
        · rw [hF] at h; cases h
        · rw [hp] at h; cases h
        · exact h
    · cases hb
  · cases hb
theorem FT_B {f : FuncId} (h : FT f = true) : BT f = true := by
  have := List.all_eq_true.1 callees_in f (by simpa [FT] using h)
  simpa [BT] using this

theorem setup : Setup Try.prog FT BT npT := by
  refine ⟨fun f hf ρ args args' hr ha => ?_, fun f hf => ?_, fun f hf hp => ?_⟩
  · obtain ⟨fn, c, h1, h2, h3, _⟩ := bodyCheck_of (FT_B hf)
    exact callee_body h1 h3 (by rw [h2]; rfl) (by simp [FT_B hf, hf]) ρ args args' hr ha
  · obtain ⟨fn, c, h1, h2, _, h4, h5, _⟩ := bodyCheck_of hf
    exact ⟨fn, c, h1, h2, h4, h5⟩
  · obtain ⟨_, _, _, _, _, _, _, h6⟩ := bodyCheck_of (FT_B hf)
    exact h6 hf hp
end Go.Proofs.Ytmhbjmkdekgmlaa.Sim
