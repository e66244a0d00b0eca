/-
  Lone contracts of the seeds' functions: the words of a seed, on the program's side.
  Condition: the seed's words are uint64s; 256 words at most.
-/
import Derived.Test.YtmhbjmkdekgmlaaLoneC
import Derived.Deep.AppendLies
import Derived.Maps.AppendAt
import Derived.LoopTactic
import Derived.Below
import Derived.Laws.OwnMore
set_option linter.unusedSimpArgs false
set_option linter.unusedVariables false
namespace Go.Proofs.Ytmhbjmkdekgmlaa.Seeds
open Go Go.RowKit

def iterS (s : Sd) : Nat → Sd
  | 0 => s
  | n + 1 => nextS (iterS s n)
def wordsL (s : Sd) : Nat → List Int
  | 0 => []
  | n + 1 => wordsL s n ++ [nextW (iterS s n)]
def wordsV (s : Sd) (n : Nat) : List Value := (wordsL s n).map (Value.int .i64)
theorem wordsL_len (s : Sd) : ∀ n, (wordsL s n).length = n
  | 0 => rfl
  | n + 1 => by rw [wordsL, List.length_append, wordsL_len s n]; rfl
theorem wordsV_succ (s : Sd) (n : Nat) : wordsV s (n + 1) = wordsV s n ++ [.int .i64 (nextW (iterS s n))] := by simp [wordsV, wordsL]
theorem iterS_ok (s : Sd) (h : s.Ok) : ∀ n, (iterS s n).Ok
  | 0 => h
  | n + 1 => next_ok _ (iterS_ok s h n)

theorem info2 : (Try.prog.info? 2).map (fun i => (i.zero, i.size, i.bytes)) = some (some (.int .i64 0), 1, 8) := by kernel_rfl
def SdObj (s : Sd) : Obj := .cells #[.int .i64 s.k, .int .u64 s.a, .int .u64 s.b] 26
theorem cells3 {w : World} {B : Nat} {s : Sd} (h : w.heap[B]? = some (SdObj s)) :
    w.cell? ⟨B, 0, none⟩ = some (.int .i64 s.k) ∧ w.cell? ⟨B, 1, none⟩ = some (.int .u64 s.a) ∧ w.cell? ⟨B, 2, none⟩ = some (.int .u64 s.b) ∧
    w.frozen? ⟨B, 0, none⟩ = false ∧ w.frozen? ⟨B, 1, none⟩ = false ∧ w.frozen? ⟨B, 2, none⟩ = false := by
  simp [World.cell?, World.frozen?, h, SdObj]
theorem next_agg (s : Sd) (w : World) (h : s.Ok) : Calls Try.prog 65 #[.agg #[.int .i64 s.k, .int .u64 s.a, .int .u64 s.b]] w fun e w' => e = .returned (.tuple #[.agg #[.int .i64 (nextS s).k, .int .u64 (nextS s).a, .int .u64 (nextS s).b], .int .i64 (nextW s)]) ∧ Below w.heap.size w w' := next_any s w h
theorem store3 {w : World} {B : Nat} {s : Sd} (h : w.heap[B]? = some (SdObj s)) (x y z : Value) : (((w.setCell ⟨B, 0, none⟩ x).setCell ⟨B, 1, none⟩ y).setCell ⟨B, 2, none⟩ z).heap[B]? = some (.cells #[x, y, z] 26) := by
  simp [World.setCell, Array.getElem?_modify, h, SdObj]
theorem store3_ne (w : World) (B k : Nat) (h : k ≠ B) (x y z : Value) : (((w.setCell ⟨B, 0, none⟩ x).setCell ⟨B, 1, none⟩ y).setCell ⟨B, 2, none⟩ z).heap[k]? = w.heap[k]? := by
  rw [Below.heap_setCell _ _ _ _ h, Below.heap_setCell _ _ _ _ h, Below.heap_setCell _ _ _ _ h]
theorem ownsRow_of {w w' : World} {base : Nat} {e : TypeId} {size n : Nat} {v : Value} {xs : List Value} (h : w.ownsRow base e size v n xs) (hb : ∀ g, v.ownBlock = some g → w'.heap[g]? = w.heap[g]?) : w'.ownsRow base e size v n xs := by
  refine ⟨h.1, h.2.imp id ?_⟩
  rintro ⟨g, cap, cur, rfl, h1, h2, h3⟩
  exact ⟨g, cap, cur, rfl, h1, (hb g rfl).trans h2, h3⟩

set_option maxRecDepth 100000 in
set_option maxHeartbeats 4000000 in
theorem words_any (s : Sd) (n : Nat) (w : World) (h : s.Ok) (hn : n ≤ 256) : Calls Try.prog 62 #[s.val, .int .i64 n] w fun e w' => ∃ v, e = .returned (.tuple #[(iterS s n).val, v]) ∧ w'.ownsRow (w.heap.size + 2) 2 1 v n (wordsV s n) := by
  obtain ⟨i0, hi, hz0, hz1, hz2⟩ := info_parts info2
  have HS := Lib.hid h
  clear h
  unfold Sd.val
  go_enter Try.func62, Try.ntmps62
  go_wp2
  go_loopw [6, 11] (fun v i wr => ∃ m : Nat, m ≤ n ∧ i = .int .i64 m ∧ wr.ownsRow (w.heap.size + 2) 2 1 v m (wordsV s m) ∧ wr.heap[w.heap.size]? = some (SdObj (iterS s m)) ∧ wr.heap[w.heap.size + 1]? = some (SdObj ⟨0, 0, 0⟩) ∧ w.heap.size + 2 ≤ wr.heap.size)
    (fun _ i _ => n - (intOf i).toNat)
  case atStart =>
    refine ⟨0, Nat.zero_le _, rfl, ⟨rfl, .inr ⟨_, 0, #[], rfl, by simp, by have := heap_alloc_new ((w.alloc (Obj.cells #[Value.int IntKind.i64 s.k, Value.int IntKind.u64 s.a, Value.int IntKind.u64 s.b] 26)).alloc (Obj.cells #[Value.int IntKind.i64 0, Value.int IntKind.u64 0, Value.int IntKind.u64 0] 26)) (Obj.cells #[] 2); simpa using this, by omega, by unfold maxLen; omega, rfl, rfl⟩⟩, ?_, ?_, by simp⟩
    · rw [Below.heap_alloc _ _ _ (by simp; omega), Below.heap_alloc _ _ _ (by simp), heap_alloc_new]; rfl
    · rw [Below.heap_alloc _ _ _ (by simp)]; have := heap_alloc_new (w.alloc (Obj.cells #[Value.int IntKind.i64 s.k, Value.int IntKind.u64 s.a, Value.int IntKind.u64 s.b] 26)) (Obj.cells #[Value.int IntKind.i64 0, Value.int IntKind.u64 0, Value.int IntKind.u64 0] 26); simpa [SdObj] using this
  case round =>
    obtain ⟨m, hm, rfl, hown, hA, hB, hsz⟩ := hrel
    have hlt := hown.lt
    by_cases hmn : m < n
    · obtain ⟨c0, c1, c2, f0, f1, f2⟩ := cells3 hA
      have hd : decide (m < n) = true := by simpa using hmn
      have hok : (iterS s m).Ok := iterS_ok s HS.out m
      have HA := Lib.hid hA
      have HB := Lib.hid hB
      clear hA hB
      go_wp2_with fail
      refine (next_agg (iterS s m) _ hok).mono ?_
      rintro e w1 ⟨rfl, hb1⟩
      have HA1 : Hid (w1.heap[w.heap.size]? = some (SdObj (iterS s m))) := Lib.hid ((hb1.block _ (by omega)).trans HA.out)
      have HB1 : Hid (w1.heap[w.heap.size + 1]? = some (SdObj ⟨0, 0, 0⟩)) := Lib.hid ((hb1.block _ (by omega)).trans HB.out)
      have hown1 := ownsRow_of hown (w' := w1) fun g hg => hb1.block g (hlt g hg).2
      have hsz1 := hb1.size
      have hlt1 := hown1.lt
      clear c0 c1 c2 f0 f1 f2 hlt hown HA HB hb1
      go_wp2_with fail
      have h7 : (w1.alloc (SdObj (nextS (iterS s m)))).heap[w1.heap.size]? = some (SdObj (nextS (iterS s m))) := heap_alloc_new _ _
      have hA2 : (w1.alloc (SdObj (nextS (iterS s m)))).heap[w.heap.size]? = some (SdObj (iterS s m)) := (Below.heap_alloc _ _ _ (by omega)).trans HA1.out
      have hB2 : (w1.alloc (SdObj (nextS (iterS s m)))).heap[w.heap.size + 1]? = some (SdObj ⟨0, 0, 0⟩) := (Below.heap_alloc _ _ _ (by omega)).trans HB1.out
      have hown2 := hown1.alloc (SdObj (nextS (iterS s m)))
      have hsz2 : (w1.alloc (SdObj (nextS (iterS s m)))).heap.size = w1.heap.size + 1 := by simp
      clear HA1 HB1 hown1
      simp only [SdObj] at h7 hA2 hB2 hown2 hsz2
      generalize w1.alloc (Obj.cells #[Value.int IntKind.i64 (nextS (iterS s m)).k, Value.int IntKind.u64 (nextS (iterS s m)).a, Value.int IntKind.u64 (nextS (iterS s m)).b] 26) = W2 at *
      generalize hB7 : w1.heap.size = B7 at *
      clear hB7
      obtain ⟨c0, c1, c2, f0, f1, f2⟩ := cells3 (s := nextS (iterS s m)) h7
      obtain ⟨c3, c4, c5, f3, f4, f5⟩ := cells3 (s := iterS s m) hA2
      have HB2 := Lib.hid hB2
      have HA2 := Lib.hid hA2
      have HS2 := Lib.hid hsz2
      have hlt2 : ∀ g, u6.ownBlock = some g → w.heap.size + 2 ≤ g ∧ g < B7 := hlt1
      have hb7 : B7 < W2.heap.size := by omega
      have n1 : w.heap.size ≠ B7 := by omega
      have n2 : some B7 ≠ u6.ownBlock := fun e => by have := (hlt2 _ e.symm).2; omega
      have n3 : some w.heap.size ≠ u6.ownBlock := fun e => by have := (hlt2 _ e.symm).1; omega
      have n4 : some (w.heap.size + 1) ≠ u6.ownBlock := fun e => by have := (hlt2 _ e.symm).1; omega
      clear h7 hA2 hB2 hsz2 hlt1
      go_region_held3 (fun w' => w'.cell? ⟨B7, 0, none⟩ = some (.int .i64 (nextS (iterS s m)).k) ∧ w'.cell? ⟨B7, 1, none⟩ = some (.int .u64 (nextS (iterS s m)).a) ∧ w'.cell? ⟨B7, 2, none⟩ = some (.int .u64 (nextS (iterS s m)).b))
        (first
          | go_keep
          | (go_split_ands
             refine ⟨?_, ?_, ?_⟩
             · (rw [hgrow.cell_far _ (by simp; omega) n2]; assumption)
             · (rw [hgrow.cell_far _ (by simp; omega) n2]; assumption)
             · (rw [hgrow.cell_far _ (by simp; omega) n2]; assumption)))
        ((refine step_append_lies _ (by rfl) _ _ _ (by rfl) (w.heap.size + 2) 2 i0 _ 1 8 Try.underlying29 hi hz0 hz1 hz2 rfl (by omega) u6 m (wordsV s m) (by rfl) ((hown2.alloc _).drew)
              ⟨W2.heap.size, 0, none⟩ 1 1 [.int .i64 (nextW (iterS s m))] (by rfl) (by rfl) (World.news_of_block (cs := #[.int .i64 (nextW (iterS s m))]) (t := 2) (fr := (0, 0)) (heap_alloc_new W2 _)) (by simp [Value.oneCell'])
              (by omega) (by unfold maxLen; omega) (by omega) (by simp; omega) (W2.heap.size + 1) (by simp) ?_; intro gg cap w3 hown3 hgrow hat hlt3
          have k0 := (hgrow.cell_far ⟨w.heap.size, 0, none⟩ (by simp; omega) n3).trans ((World.cell?_of_block (a := ⟨w.heap.size, 0, none⟩) (Below.heap_alloc W2 (Obj.cells #[.int .i64 (nextW (iterS s m))] 2) w.heap.size (by omega))).trans c3)
          have k1 := (hgrow.cell_far ⟨w.heap.size, 1, none⟩ (by simp; omega) n3).trans ((World.cell?_of_block (a := ⟨w.heap.size, 1, none⟩) (Below.heap_alloc W2 (Obj.cells #[.int .i64 (nextW (iterS s m))] 2) w.heap.size (by omega))).trans c4)
          have k2 := (hgrow.cell_far ⟨w.heap.size, 2, none⟩ (by simp; omega) n3).trans ((World.cell?_of_block (a := ⟨w.heap.size, 2, none⟩) (Below.heap_alloc W2 (Obj.cells #[.int .i64 (nextW (iterS s m))] 2) w.heap.size (by omega))).trans c5)
          have k3 := (hgrow.frozen_far ⟨w.heap.size, 0, none⟩ (by simp; omega) n3).trans ((World.frozen?_of_block (a := ⟨w.heap.size, 0, none⟩) (Below.heap_alloc W2 (Obj.cells #[.int .i64 (nextW (iterS s m))] 2) w.heap.size (by omega))).trans f3)
          have k4 := (hgrow.frozen_far ⟨w.heap.size, 1, none⟩ (by simp; omega) n3).trans ((World.frozen?_of_block (a := ⟨w.heap.size, 1, none⟩) (Below.heap_alloc W2 (Obj.cells #[.int .i64 (nextW (iterS s m))] 2) w.heap.size (by omega))).trans f4)
          have k5 := (hgrow.frozen_far ⟨w.heap.size, 2, none⟩ (by simp; omega) n3).trans ((World.frozen?_of_block (a := ⟨w.heap.size, 2, none⟩) (Below.heap_alloc W2 (Obj.cells #[.int .i64 (nextW (iterS s m))] 2) w.heap.size (by omega))).trans f5)
          have HA3 : Hid (w3.heap[w.heap.size]? = some (SdObj (iterS s m))) := Lib.hid ((hgrow.block _ (by simp; omega) n3).trans ((Below.heap_alloc W2 (Obj.cells #[.int .i64 (nextW (iterS s m))] 2) w.heap.size (by omega)).trans HA2.out))
          have HB3 : Hid (w3.heap[w.heap.size + 1]? = some (SdObj ⟨0, 0, 0⟩)) := Lib.hid ((hgrow.block _ (by simp; omega) n4).trans ((Below.heap_alloc W2 (Obj.cells #[.int .i64 (nextW (iterS s m))] 2) (w.heap.size + 1) (by omega)).trans HB2.out))
          have HG3 : Hid (W2.heap.size + 1 ≤ w3.heap.size) := Lib.hid (by have := hgrow.size; simpa using this)))
      go_wp2_with fail
      go_roundw
      case rel =>
        have hg3 := hown3.lt
        refine ⟨m + 1, by omega, by go_num, ?_, store3 HA3.out _ _ _, ?_, ?_⟩
        · rw [wordsV_succ]
          exact ownsRow_of hown3 fun g hg => store3_ne _ _ _ (by have := (hg3 g hg).1; omega) _ _ _
        · rw [store3_ne _ _ _ (by omega)]; exact HB3.out
        · simp only [World.size_setCell]
          have := HG3.out
          omega
      case measure => simp [intOf]; omega
    · have hd : decide (m < n) = false := by simpa using hmn
      obtain rfl : m = n := by omega
      obtain ⟨c0, c1, c2, f0, f1, f2⟩ := cells3 hA
      obtain ⟨d0, d1, d2, g0, g1, g2⟩ := cells3 hB
      have n1 : w.heap.size ≠ w.heap.size + 1 := by omega
      have HA := Lib.hid hA
      have HB := Lib.hid hB
      clear hA hB
      go_wp2_with fail
      have hW := store3 HB.out (.int .i64 (iterS s m).k) (.int .u64 (iterS s m).a) (.int .u64 (iterS s m).b)
      have hrow := ownsRow_of (w' := ((wr.setCell ⟨w.heap.size + 1, 0, none⟩ (.int .i64 (iterS s m).k)).setCell ⟨w.heap.size + 1, 1, none⟩ (.int .u64 (iterS s m).a)).setCell ⟨w.heap.size + 1, 2, none⟩ (.int .u64 (iterS s m).b)) hown fun g hg => store3_ne _ _ _ (by have := (hlt g hg).1; omega) _ _ _
      generalize ((wr.setCell ⟨w.heap.size + 1, 0, none⟩ (.int .i64 (iterS s m).k)).setCell ⟨w.heap.size + 1, 1, none⟩ (.int .u64 (iterS s m).a)).setCell ⟨w.heap.size + 1, 2, none⟩ (.int .u64 (iterS s m).b) = W at hW hrow ⊢
      obtain ⟨e0, e1, e2, -, -, -⟩ := cells3 (s := iterS s m) hW
      exact bodyPost_ret (v := .tuple #[(iterS s m).val, u6]) (by simp [results, Try.results62, go_sem, Sd.val, e0, e1, e2]) rfl ⟨u6, rfl, hrow⟩
end Go.Proofs.Ytmhbjmkdekgmlaa.Seeds
