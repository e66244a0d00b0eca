/-
  Lone contracts of the seeds' functions: the seed of a stream, on the program's side.
  Condition: the seed's words are uint64s; the stream's number is an int64.
-/
import Derived.Test.YtmhbjmkdekgmlaaLoneB
import Derived.Deep.QuietTactic
import Derived.BigQuiet
import Derived.Lib.Hide
import Derived.StillTactics
import Derived.OwnWalk
import Derived.Deep.RegionHeld3
set_option linter.unusedSimpArgs false
set_option linter.unusedVariables false
namespace Go.Proofs.Ytmhbjmkdekgmlaa.Seeds
open Go Go.RowKit

theorem mix_q (x : Int) (w : World) (h : U64 x) : Calls Try.prog 26 #[.int .u64 x] w fun e w' => e = .returned (.int .u64 (mixI x)) ∧ w' = w := (mix_any x w h).mono fun _ _ h => ⟨h.1, h.2.symm⟩
def splX (a b i : Int) : Int := wrapU (mixI a + mixI (wrapU (wrapU (b + wrapU i) + 1)))
def splB (x : Int) : Int := mixI (wrapU (x + 1))
def splitS (s : Sd) (i : Int) : Sd := ⟨s.k, if splX s.a s.b i = 0 then 1 else splX s.a s.b i, if s.k = 0 ∧ splB (splX s.a s.b i) % 2 = 0 then wrapU (splB (splX s.a s.b i) + 1) else splB (splX s.a s.b i)⟩
theorem splitS_val (k a b i X : Int) (h : splX a b i = X) (A B : Int) (hA : A = if X = 0 then 1 else X) (hB : B = if k = 0 ∧ splB X % 2 = 0 then wrapU (splB X + 1) else splB X) : (splitS ⟨k, a, b⟩ i).val = .agg #[.int .i64 k, .int .u64 A, .int .u64 B] := by
  subst hA hB h; rfl
theorem mod_mix (z : Int) : (mixI z).tmod 2 = mixI z % 2 := Int.tmod_eq_emod_of_nonneg (mixI_u64 z).1

set_option maxRecDepth 100000 in
set_option maxHeartbeats 4000000 in
theorem split_any (s : Sd) (i : Int) (w : World) (h : s.Ok) (hi : -9223372036854775808 ≤ i ∧ i ≤ 9223372036854775807) : Calls Try.prog 69 #[s.val, .int .i64 i] w fun e w' => e = .returned (splitS s i).val := by
  obtain ⟨k, a, b⟩ := s
  obtain ⟨ha, hb⟩ := h
  simp only at ha hb
  obtain ⟨a0, a1⟩ := ha
  obtain ⟨b0, b1⟩ := hb
  unfold Sd.val
  go_enter Try.func69, Try.ntmps69
  go_wp2
  have hm1 : U64 a := ⟨a0, a1⟩
  have hm2 : U64 (IntKind.u64.wrap (IntKind.u64.wrap (b + IntKind.u64.wrap i) + 1)) := wrapU_u64 _
  go_quiet ((first | (go_at_call 26; with_reducible exact Calls.quiet_of_same (mix_q _ _ hm1)) | (go_at_call 26; with_reducible exact Calls.quiet_of_same (mix_q _ _ hm2))))
  go_wp2
  generalize hX : IntKind.u64.wrap (mixI a + mixI (IntKind.u64.wrap (IntKind.u64.wrap (b + IntKind.u64.wrap i) + 1))) = X
  have HX := Lib.hid hX
  clear hX
  have hm3 : U64 (IntKind.u64.wrap (X + 1)) := wrapU_u64 _
  clear hm1 hm2
  go_region_held3 (fun w' => w'.cell? ⟨w.heap.size, 0, none⟩ = some (.int .i64 k)) (first | go_keep | (simp; done))
    (first | (go_at_call 26; ((with_reducible refine (mix_any _ _ hm3).mono ?_); rintro e w' ⟨rfl, rfl⟩)))
  go_wp2
  all_goals
    have e1 : splX a b i = X := HX.out
    refine bodyPost_ret (v := (splitS ⟨k, a, b⟩ i).val) ?_ rfl rfl
    rw [splitS_val k a b i X e1 _ _ rfl rfl]
    clear e1 HX hm3
    simp_all [results, Try.results69, go_sem, splB, wrapU, mod_mix]
end Go.Proofs.Ytmhbjmkdekgmlaa.Seeds
