/-
  Lone contracts of the reference: the words of a seed.
  Condition: the seed stands in its block; its words are uint64s; 256 words at most.
-/
import Derived.Test.YtmhbjmkdekgmlaaLoneJ
set_option linter.unusedSimpArgs false
set_option linter.unusedVariables false
namespace Go.Proofs.Ytmhbjmkdekgmlaa.Seeds
open Go Go.RowKit

set_option maxRecDepth 100000 in
set_option maxHeartbeats 4000000 in
theorem wordsL_any (s : Sd) (n B : Nat) (w : World) (h : s.Ok) (hn : n ≤ 256) (hB : w.heap[B]? = some (SdObj s)) : Calls Try.prog 90 #[.pointer (some ⟨B, 0, none⟩), .int .i64 n] w fun e w' => ∃ v, e = .returned v ∧ w'.ownsRow w.heap.size 2 1 v n (wordsV s n) := by
  obtain ⟨i0, hi, hz0, hz1, hz2⟩ := info_parts info2
  have HS := Lib.hid h
  have hBl : B < w.heap.size := (Array.getElem?_eq_some_iff.1 hB).1
  have HB0 := Lib.hid hB
  clear h hB
  go_enter Try.func90, Try.ntmps90
  go_wp2
  go_loopw [5, 6] (fun v i wr => ∃ m : Nat, m ≤ n ∧ i = .int .i64 m ∧ wr.ownsRow w.heap.size 2 1 v m (wordsV s m) ∧ wr.heap[B]? = some (SdObj (iterS s m)) ∧ w.heap.size ≤ wr.heap.size)
    (fun _ i _ => n - (intOf i).toNat)
  case atStart =>
    refine ⟨0, Nat.zero_le _, rfl, ⟨rfl, .inr ⟨_, 0, #[], rfl, by simp, heap_alloc_new _ _, by omega, by unfold maxLen; omega, rfl, rfl⟩⟩, ?_, by simp⟩
    rw [Below.heap_alloc _ _ _ hBl]; exact HB0.out
  case round =>
    obtain ⟨m, hm, rfl, hown, hA, hsz⟩ := hrel
    have hlt := hown.lt
    by_cases hmn : m < n
    · have hd : decide (m < n) = true := by simpa using hmn
      have hok : (iterS s m).Ok := iterS_ok s HS.out m
      have HA := Lib.hid hA
      clear hA
      go_wp2_with fail
      refine (nextL_any (iterS s m) B _ hok HA.out).mono ?_
      rintro e w1 ⟨rfl, hM⟩
      have hown1 := ownsRow_of hown (w' := w1) fun g hg => hM.2.2 g (by have := (hlt g hg).1; omega)
      have HM := Lib.hid hM.1
      have hsz1 : w.heap.size ≤ w1.heap.size := by have := hM.2.1; omega
      have hlt1 := hown1.lt
      have hbd := nextW_bd (iterS s m)
      have hw64 : wrap64 (nextW (iterS s m)) = nextW (iterS s m) := by simp only [wrap64]; omega
      clear hlt hown HA hM
      simp only []
      go_step
      go_step
      go_step
      go_step
      go_step
      go_step
      go_step
      refine wpList_append_own _ rfl _ _ 29 rfl w.heap.size 2 i0 _ 1 8 Try.underlying29 hi hz0 hz1 hz2 rfl (by decide) u5 m (wordsV s m) rfl (hown1.alloc _) ⟨w1.heap.size, 0, none⟩ 1 1 [.int .i64 (nextW (iterS s m))] rfl rfl (cell_one_new _ _ _) (fun x hx => by simp at hx; subst hx; rfl) (by unfold maxLen; omega) (by omega) (by simp; omega) ?_
      intro v' w3 hown' hgrow3 hnil3
      have X : Hid (w3.ownsRow w.heap.size 2 1 v' (m + 1) (wordsV s (m + 1)) ∧ w3.heap[B]? = some (SdObj (nextS (iterS s m))) ∧ w.heap.size ≤ w3.heap.size) := by
        refine Lib.hid ⟨by rw [wordsV_succ]; exact hown', ?_, ?_⟩
        · rw [hgrow3.block B (by simp; omega) (fun h => by have := (hlt1 _ h.symm).1; omega), Below.heap_alloc _ _ _ (by omega)]; exact HM.out
        · have := hgrow3.size; simp at this; omega
      clear hown' hgrow3 hnil3
      go_wp2_with fail
      go_roundw
      case rel => exact ⟨m + 1, by omega, by go_num, X.out.1, X.out.2.1, X.out.2.2⟩
      case measure => simp [intOf]; omega
    · have hd : decide (m < n) = false := by simpa using hmn
      obtain rfl : m = n := by omega
      have HO := Lib.hid hown
      clear hown hA
      go_wp2_with fail
      go_ret
      exact ⟨_, rfl, HO.out⟩
end Go.Proofs.Ytmhbjmkdekgmlaa.Seeds
