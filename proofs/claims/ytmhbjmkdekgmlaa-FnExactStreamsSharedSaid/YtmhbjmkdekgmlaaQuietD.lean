/-
  shared with StreamsShared's workers, as a contract of goroutine 0 between two crews.
  Conditions: what the captured variables hold; what is touched atomically alone stands below the heap's end; few goroutines.
-/
import Derived.Test.YtmhbjmkdekgmlaaQuietC
set_option linter.unusedSimpArgs false
set_option linter.unusedVariables false
namespace Go.Proofs.Ytmhbjmkdekgmlaa.Sim
open Go.Proofs.Ytmhbjmkdekgmlaa.Seeds (link wgLib Sd SdObj splitS wordsV)
open Go Go.Conc Go.ConcN Go.RowKit Go.Conc.Lib Go.ConcR.Gen Go.ConcN.Gen
open Go.ConcR (KK wgBlock WgAt stA smA rd wr mk Payload Aside2 DC0)

theorem cell_of_heap {w w' : World} {a : Addr} (h : w'.heap[a.block]? = w.heap[a.block]?) : w'.cell? a = w.cell? a := by simp only [World.cell?, h]
theorem lt_of_cell {w : World} {a : Addr} {v : Value} (h : w.cell? a = some v) : a.block < w.heap.size := by
  unfold World.cell? at h
  split at h
  · rename_i e; exact lt_of_some e
  · cases h

section
variable {Fin : End} {w : World} {Sb : Nat → Prop} {J Bs Bc Bo C cap mny cnt stp : Nat} {s : Sd}

theorem keep4 (w : World) (fv : Value) (mny stp : Nat) (b : Nat) (hb : b < w.heap.size) : ((pw67 w fv mny stp).alloc (wgBlock 124 0 0)).heap[b]? = w.heap[b]? := by
  unfold pw67
  rw [Below.heap_alloc _ _ _ (by simp only [World.size_alloc]; omega), Below.heap_alloc _ _ _ (by simp only [World.size_alloc]; omega), Below.heap_alloc _ _ _ (by simp only [World.size_alloc]; omega), Below.heap_alloc _ _ _ hb]
theorem size4 (w : World) (fv : Value) (mny stp : Nat) : ((pw67 w fv mny stp).alloc (wgBlock 124 0 0)).heap.size = w.heap.size + 4 := by
  unfold pw67
  simp only [World.size_alloc]

theorem cq_shared (hs : w.heap[Bs]? = some (SdObj s)) (hc : w.cell? ⟨Bc, 0, none⟩ = some (.int .i64 cnt)) (ho : w.cell? ⟨Bo, 0, none⟩ = some (.slice (some ⟨C, 0, none⟩) mny cap))
    (hout : ∃ cs, w.heap[C]? = some (.cells cs 29) ∧ cs.size = mny) (ok : s.Ok) (le : cnt ≤ 256) (lm : mny ≤ 1000) (h1 : 1 ≤ stp) (h2 : stp ≤ 1000) (hJ : J + stp < 2147483648)
    (hSb : ∀ b, Sb b → b < w.heap.size) (nS : ∀ b ∈ [Bs, Bc, Bo, C], ¬ Sb b) (nC : ∀ b ∈ [Bs, Bc, Bo], b ≠ C) :
    CQ Fin 67 #[.int .i64 mny, .int .i64 stp, .func (.func 68) #[] #[.pointer (some ⟨Bs, 0, none⟩), .pointer (some ⟨Bc, 0, none⟩), .pointer (some ⟨Bo, 0, none⟩)]] (Sb, J) w fun _ c' w' =>
      ∃ Wg, w.heap.size ≤ Wg ∧ Wg < w'.heap.size ∧ c' = (fun b => Sb b ∨ b = Wg, J + stp) ∧ KeepQ (fun b => b = C) w w' ∧ Crewed w' C mny cnt (Wg + 1) fun i => wordsV (splitS s i) cnt := by
  intro b a k cs ops i rest o xs ats ho' hw hk hop hx hn
  have hlC : C < w.heap.size := by obtain ⟨cs, h, _⟩ := hout; exact lt_of_some h
  have hls : Bs < w.heap.size := lt_of_some hs
  have hlc : Bc < w.heap.size := lt_of_cell hc
  have hlo : Bo < w.heap.size := lt_of_cell ho
  obtain ⟨fv, hfv⟩ : ∃ fv, fv = Value.func (.func 68) #[] #[.pointer (some ⟨Bs, 0, none⟩), .pointer (some ⟨Bc, 0, none⟩), .pointer (some ⟨Bo, 0, none⟩)] := ⟨_, rfl⟩
  have hf := Try.func67
  have hb67 : Try.f67.body = some body67 := by unfold body67; rfl
  have hfin : ∀ v, (b.at a (.inRegion ops (i :: rest) :: k)).finish v = b.at (a.put o.dst v) (.inRegion ops rest :: k) := fun v => by rw [Frame.finish_at, ho']; rfl
  refine Way.goes rfl fun w₁ h₁ => goes_call ho' hw hk hop hf (by kernel_rfl) hb67 ⟨_, termsQ.idle _ _, ?_⟩
  refine Wm.rely termsQ (?_ : Wq Fin (Sb, J) _ w) h₁
  clear h₁ w₁
  rw [hx]
  have e : (#[Value.int .i64 mny, .int .i64 stp, .func (.func 68) #[] #[.pointer (some ⟨Bs, 0, none⟩), .pointer (some ⟨Bc, 0, none⟩), .pointer (some ⟨Bo, 0, none⟩)]] ++ Array.replicate (Try.f67.ntmps - (#[Value.int .i64 mny, .int .i64 stp, .func (.func 68) #[] #[.pointer (some ⟨Bs, 0, none⟩), .pointer (some ⟨Bc, 0, none⟩), .pointer (some ⟨Bo, 0, none⟩)]] : Array Value).size) undef) =
      #[.int .i64 mny, .int .i64 stp, fv, undef, undef, undef, undef, undef, undef, undef, undef, undef, undef, undef, undef, undef] := by
    have h16 : Try.f67.ntmps = 16 := by kernel_rfl
    rw [h16, hfv]
    simp
  rw [e]
  have hc4 : ∀ b, b < w.heap.size → ((pw67 w fv mny stp).alloc (wgBlock 124 0 0)).cell? ⟨b, 0, none⟩ = w.cell? ⟨b, 0, none⟩ := fun b hb => cell_of_heap (keep4 w fv mny stp b hb)
  refine pre67 68 _ hfv (planS Sb J (w.heap.size + 3) C mny stp) rfl hSb ?_
  refine crew67 (Bs := Bs) (Bc := Bc) (Bo := Bo) (C := C) (cap := cap) (cnt := cnt) (s := s) ((keep4 w fv mny stp Bs hls).trans hs) ((hc4 Bc hlc).trans hc) ((hc4 Bo hlo).trans ho) ?_ ok le lm h1 h2 hJ (fun b hb => by have := hSb b hb; omega) ?_ ?_ ?_ ?_ ?_ ?_ (by rw [size4]) ?_
  · obtain ⟨cs, e1, e2⟩ := hout
    exact ⟨cs, (keep4 w fv mny stp C hlC).trans e1, e2⟩
  · intro b hb
    have hge : w.heap.size ≤ b → ¬ Sb b := fun h x => by have := hSb b x; omega
    simp only [List.mem_cons, List.not_mem_nil, or_false] at hb
    rcases hb with rfl | rfl | rfl | rfl | rfl | rfl | rfl
    · exact ⟨nS _ (by simp), by omega⟩
    · exact ⟨nS _ (by simp), by omega⟩
    · exact ⟨nS _ (by simp), by omega⟩
    · exact ⟨nS _ (by simp), by omega⟩
    · exact ⟨hge (by omega), by omega⟩
    · exact ⟨hge (by omega), by omega⟩
    · exact ⟨hge (by omega), by omega⟩
  · intro b hb
    simp only [List.mem_cons, List.not_mem_nil, or_false] at hb
    rcases hb with rfl | rfl | rfl | rfl | rfl | rfl
    · exact nC _ (by simp)
    · exact nC _ (by simp)
    · exact nC _ (by simp)
    · omega
    · omega
    · omega
  · unfold pw67
    rw [World.cell?_alloc_past _ _ _ (by simp only [World.size_alloc]; omega), World.cell?_alloc_past _ _ _ (by simp only [World.size_alloc]; omega), World.cell?_alloc_past _ _ _ (by simp only [World.size_alloc]; omega), World.cell?_alloc_at _ _ _ _ rfl]
    rfl
  · unfold pw67
    rw [World.cell?_alloc_past _ _ _ (by simp only [World.size_alloc]; omega), World.cell?_alloc_past _ _ _ (by simp only [World.size_alloc]; omega), World.cell?_alloc_at _ _ _ _ (by simp only [World.size_alloc])]
    rfl
  · unfold pw67
    rw [World.cell?_alloc_past _ _ _ (by simp only [World.size_alloc]; omega), World.cell?_alloc_at _ _ _ _ (by simp only [World.size_alloc]), ← hfv]
    rfl
  · show (((pw67 w fv mny stp).alloc (wgBlock 124 0 0)).heap[w.heap.size + 3]?) = some (wgBlock 124 0 0)
    have := heap_alloc_new (pw67 w fv mny stp) (wgBlock 124 0 0)
    rwa [show (pw67 w fv mny stp).heap.size = w.heap.size + 3 by unfold pw67; simp only [World.size_alloc]] at this
  · intro T w' hk' hsz hold hcr
    refine Wm.ctl termsQ rfl (fun _ => stepG_region_end) (Wm.ctl termsQ rfl (fun _ => stepG_end) ?_)
    refine Way.go rfl fun w₁ h₁ => ⟨_, w₁, #[], _, stepG_leave (b := base 67) (v := .tuple #[]) rfl rfl hf (resultsC_none (by kernel_rfl) _ w₁).1 (resultsC_none (by kernel_rfl) _ w₁).2, termsQ.idle _ _, ?_⟩
    rw [hfin]
    refine Wm.rely termsQ (hn _ _ w' ⟨w.heap.size + 3, by omega, by omega, rfl, ⟨?_, by omega, fun b hb hbC => ?_⟩, hcr⟩) h₁
    · exact hk'
    · exact (hold b (by omega) (by omega) hbC).trans (keep4 w fv mny stp b hb)
end
end Go.Proofs.Ytmhbjmkdekgmlaa.Sim
