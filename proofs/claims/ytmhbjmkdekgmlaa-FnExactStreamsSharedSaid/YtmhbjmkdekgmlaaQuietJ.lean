/-
  The program's StreamsShared and StreamWords, called between two crews; the reference's where they refuse.
  Conditions: the seed's words are uint64s; what is touched atomically alone stands below the heap's end; few goroutines.
-/
import Derived.Test.YtmhbjmkdekgmlaaQuietI
set_option linter.unusedSimpArgs false
set_option linter.unusedVariables false
namespace Go.Proofs.Ytmhbjmkdekgmlaa.Sim
open Go Go.Conc Go.ConcN Go.RowKit
open Go.Proofs.Ytmhbjmkdekgmlaa.Seeds (Sd SdObj splitS wordsV validB cells3)

/-- What stands in the boxes of a seed and of a count. -/
structure F21 (c : Gh) (w0 : World) (Bs Bc : Nat) (s : Sd) (k : Int) (w : World) : Prop where
  keep : KeepQ (fun _ => False) w0 w
  seed : w.heap[Bs]? = some (SdObj s)
  cnt : w.heap[Bc]? = some (.cells #[.int .i64 k] 2)
  sb : ∀ b, c.1 b → b < w0.heap.size
theorem F21.step {c : Gh} {w0 w w' : World} {Bs Bc : Nat} {s : Sd} {k : Int} (h : F21 c w0 Bs Bc s k w) (hk : KeepQ (fun _ => False) w w') : F21 c w0 Bs Bc s k w' :=
  ⟨(h.keep.trans hk).mono fun b _ x => x.elim id id, hk.some h.seed id, hk.some h.cnt id, h.sb⟩
theorem F21.sb' {c : Gh} {w0 w : World} {Bs Bc : Nat} {s : Sd} {k : Int} (h : F21 c w0 Bs Bc s k w) : ∀ b, c.1 b → b < w.heap.size := fun b hb => Nat.lt_of_lt_of_le (h.sb b hb) h.keep.size
theorem F21.start {c : Gh} (w : World) (s : Sd) (k : Int) (hSb : ∀ b, c.1 b → b < w.heap.size) : F21 c w w.heap.size (w.heap.size + 1) s k ((w.alloc (.cells #[.int .i64 s.k, .int .u64 s.a, .int .u64 s.b] 26)).alloc (.cells #[.int .i64 k] 2)) := by
  refine ⟨⟨⟨rfl, rfl, rfl⟩, by simp only [World.size_alloc]; omega, fun b hb _ => ?_⟩, ?_, ?_, hSb⟩
  · rw [Below.heap_alloc _ _ _ (by simp only [World.size_alloc]; omega), Below.heap_alloc _ _ _ hb]
  · rw [Below.heap_alloc _ _ _ (by simp only [World.size_alloc]; omega)]
    exact heap_alloc_new _ _
  · have := heap_alloc_new (w.alloc (.cells #[.int .i64 s.k, .int .u64 s.a, .int .u64 s.b] 26)) (.cells #[.int .i64 k] 2)
    rwa [World.size_alloc] at this

section
variable {Fin : End} {c : Gh} {w : World} {fn : FuncId} {Q : Exit → Act → Gh → World → Prop} {a : Act} {ops : Array Oper} {i : Nat} {rest : List Nat} {o : Oper}
/-- make of a slice. -/
theorem oq_make (ho : ops[i]? = some o) (hw : Region.wanted o (yielded ops a.tmps) = true) (x y : Operand) (t e : TypeId) (ti : TypeInfo) (z : Value) (hop : o.op = .makeSlice t x y)
    (ht : Try.prog.underlying t = some (.slice e)) (hi : Try.prog.info? e = some ti) (hz : ti.zero = some z) (n : Nat) (hx : a.eval x = .int .i64 n) (hy : a.eval y = .int .i64 n) (hb : n * ti.bytes ≤ 140737488355328) (h63 : n ≤ 1000000)
    (hn : OQ Fin fn ops rest Q (a.put o.dst (.slice (some ⟨w.heap.size, 0, none⟩) n n)) c (w.alloc (.cells (madeCells z.cells (n * ti.size)) e))) : OQ Fin fn ops (i :: rest) Q a c w := by
  refine opsQ_cons ho hw fun w₁ h₁ => ?_
  have hh := at_heap h₁
  have hb' : (ti.bytes : Int) * (n : Int) ≤ 140737488355328 := by
    have h : ((ti.bytes * n : Nat) : Int) ≤ 140737488355328 := by rw [Nat.mul_comm]; omega
    rwa [Int.natCast_mul] at h
  have hr := run_make (P := Try.prog) w₁ t e ti z ht hi hz .i64 .i64 n n (by omega) (Int.le_refl _) (by omega) (by omega)
  simp only [Int.toNat_natCast] at hr
  have hev := events_make (P := Try.prog) w₁ t e ti z ht hi hz .i64 .i64 n n (by omega) (Int.le_refl _) (by omega) (by omega) (by simpa using hb) #[]
  have hrun : (execOp a.eval o).run Try.prog w₁ = .ok (.value (.slice (some ⟨w₁.heap.size, 0, none⟩) n n)) (w₁.alloc (.cells (madeCells z.cells (n * ti.size)) e)) := by
    unfold execOp
    simp only [hop, hx, hy, Sem.run_bind, Sem.run_pure, hr, Result.andThen_ok]
  have hevs : (execOp a.eval o).events Try.prog w₁ #[] = #[] := by
    unfold execOp
    simp only [hop, hx, hy, Sem.events_bind, hr, hev, Result.evThen_ok, Sem.events_pure]
  rw [hrun]
  refine ⟨c, ⟨rfl, by rw [World.size_alloc]; omega, fun ev he => ?_⟩, ?_⟩
  · have hm := mem_listed he
    rw [hevs] at hm
    simp at hm
  · rw [hh]
    exact opsQ_rely termsQ hn (by obtain ⟨d, rfl⟩ := h₁; exact ⟨d, rfl⟩)
end

section
variable {Fin : End} {c : Gh} {w : World}
def NoRes (c : Gh) (w : World) (v' : Value) (c' : Gh) (w' : World) : Prop := v' = .tuple #[.slice none 0 0, .bool false] ∧ c' = c ∧ KeepQ (fun _ => False) w w'
set_option maxRecDepth 100000 in
set_option maxHeartbeats 8000000 in
theorem streams_bad1 {s : Sd} {many count work : Int} (hs : s.Ok) (h1 : validB s = false) (hSb : ∀ b, c.1 b → b < w.heap.size) :
    CQ Fin 21 #[.agg #[.int .i64 s.k, .int .u64 s.a, .int .u64 s.b], .int .i64 many, .int .i64 count, .int .i64 work] c w (NoRes c w) := by
  have hnt : Try.f21.ntmps = 36 := by kernel_rfl
  have e : (#[Value.agg #[.int .i64 s.k, .int .u64 s.a, .int .u64 s.b], .int .i64 many, .int .i64 count, .int .i64 work] ++ Array.replicate (Try.f21.ntmps - (#[Value.agg #[.int .i64 s.k, .int .u64 s.a, .int .u64 s.b], .int .i64 many, .int .i64 count, .int .i64 work] : Array Value).size) undef) = #[Value.agg #[.int .i64 s.k, .int .u64 s.a, .int .u64 s.b], .int .i64 many, .int .i64 count, .int .i64 work, undef, undef, undef, undef, undef, undef, undef, undef, undef, undef, undef, undef, undef, undef, undef, undef, undef, undef, undef, undef, undef, undef, undef, undef, undef, undef, undef, undef, undef, undef, undef, undef] := by
    rw [hnt]
    simp
  refine callQ_of termsQ Try.func21 (by kernel_rfl) (x := Try.f21.body.getD .skip) (by rfl) ?_
  rw [e]
  clear e hnt
  simp only [Try.f21, Option.getD_some]
  refine wpQ_seq termsQ ?_
  refine wpQ_region termsQ ?_
  simp only [List.size_toArray, List.length_cons, List.length_nil, Nat.reduceAdd, Nat.zero_add, List.range, List.range.loop]
  refine oq_al rfl (by rfl) (fun w₁ hw₁ K hK => ?_)
  go_simp
  refine hK _ _ (fun e he => ?_) ?_
  · have hm := mem_listed he
    simp [go_sem] at hm
  clear hK K hw₁ w₁
  try walk_nrm
  refine oq_al rfl (by rfl) (fun w₁ hw₁ K hK => ?_)
  go_simp
  refine hK _ _ (fun e he => ?_) ?_
  · have hm := mem_listed he
    simp [go_sem] at hm
  clear hK K hw₁ w₁
  try walk_nrm
  have HF := F21.start (c := c) w s count hSb
  generalize (w.alloc (Obj.cells #[.int .i64 s.k, .int .u64 s.a, .int .u64 s.b] 26)).alloc (Obj.cells #[.int .i64 count] 2) = w0 at HF ⊢
  obtain ⟨Bs, hBs⟩ : ∃ B, B = w.heap.size := ⟨_, rfl⟩
  rw [← hBs] at HF ⊢
  have hBa : Bs ≤ w.heap.size := by omega
  have hBb : w.heap.size ≤ Bs := by omega
  have nBs : ¬ c.1 Bs := fun x => by have := hSb _ x; omega
  have nBc : ¬ c.1 (Bs + 1) := fun x => by have := hSb _ x; omega
  clear hBs
  refine oq_rd rfl (by rfl) (fun w₁ hw₁ K hK => ?_)
  clear hw₁
  go_simp
  refine hK _ (fun e he => ?_) ?_
  · have hm := mem_listed he
    simp [go_sem] at hm
  clear hK K w₁
  try walk_nrm
  refine oq_rd rfl (by rfl) (fun w₁ hw₁ K hK => ?_)
  clear hw₁
  go_simp
  refine hK _ (fun e he => ?_) ?_
  · have hm := mem_listed he
    simp [go_sem] at hm
  clear hK K w₁
  try walk_nrm
  refine opsQ_nil termsQ ?_
  refine wpQ_seq termsQ ?_
  refine wpQ_seq termsQ ?_
  refine wpQ_region termsQ ?_
  simp only [List.size_toArray, List.length_cons, List.length_nil, Nat.reduceAdd, Nat.zero_add, List.range, List.range.loop]
  refine oq_rd rfl (by rfl) (fun w₁ hw₁ K hK => ?_)
  obtain ⟨d0, d1, d2, -⟩ := cells3 (w := w₁) (B := Bs) (s := s) (by rw [hw₁]; exact HF.seed)
  clear hw₁
  go_simp
  refine hK _ (fun e he => ?_) ?_
  · have hm := mem_listed he
    simp [go_sem, d0, d1, d2] at hm
    rcases hm with rfl | rfl | rfl <;> exact evq_cell nBs (lt_of_some HF.seed)
  clear hK K d0 d1 d2 w₁
  try walk_nrm
  refine oq_call rfl (by rfl) rfl (by simp [Act.eval, Sd.val]) (cq_valid hs HF.sb') ?_
  rintro v1 c1 w1 ⟨rfl, hc1, hk1⟩
  obtain rfl := hc1
  replace HF := HF.step hk1
  clear hk1
  rw [h1]
  try walk_nrm
  refine oq_rd rfl (by rfl) (fun w₁ hw₁ K hK => ?_)
  clear hw₁
  go_simp
  refine hK _ (fun e he => ?_) ?_
  · have hm := mem_listed he
    simp [go_sem] at hm
  clear hK K w₁
  try walk_nrm
  refine oq_rd rfl (by rfl) (fun w₁ hw₁ K hK => ?_)
  clear hw₁
  go_simp
  refine hK _ (fun e he => ?_) ?_
  · have hm := mem_listed he
    simp [go_sem] at hm
  clear hK K w₁
  try walk_nrm
  refine opsQ_unwanted termsQ rfl (by rfl) ?_
  try walk_nrm
  refine opsQ_unwanted termsQ rfl (by rfl) ?_
  try walk_nrm
  refine opsQ_unwanted termsQ rfl (by rfl) ?_
  try walk_nrm
  refine oq_rd rfl (by rfl) (fun w₁ hw₁ K hK => ?_)
  clear hw₁
  go_simp
  refine hK _ (fun e he => ?_) ?_
  · have hm := mem_listed he
    simp [go_sem] at hm
  clear hK K w₁
  try walk_nrm
  refine oq_rd rfl (by rfl) (fun w₁ hw₁ K hK => ?_)
  clear hw₁
  go_simp
  refine hK _ (fun e he => ?_) ?_
  · have hm := mem_listed he
    simp [go_sem] at hm
  clear hK K w₁
  try walk_nrm
  refine opsQ_unwanted termsQ rfl (by rfl) ?_
  try walk_nrm
  refine opsQ_unwanted termsQ rfl (by rfl) ?_
  try walk_nrm
  refine opsQ_unwanted termsQ rfl (by rfl) ?_
  try walk_nrm
  refine oq_rd rfl (by rfl) (fun w₁ hw₁ K hK => ?_)
  clear hw₁
  go_simp
  refine hK _ (fun e he => ?_) ?_
  · have hm := mem_listed he
    simp [go_sem] at hm
  clear hK K w₁
  try walk_nrm
  refine oq_rd rfl (by rfl) (fun w₁ hw₁ K hK => ?_)
  clear hw₁
  go_simp
  refine hK _ (fun e he => ?_) ?_
  · have hm := mem_listed he
    simp [go_sem] at hm
  clear hK K w₁
  try walk_nrm
  refine opsQ_unwanted termsQ rfl (by rfl) ?_
  try walk_nrm
  refine opsQ_unwanted termsQ rfl (by rfl) ?_
  try walk_nrm
  refine opsQ_unwanted termsQ rfl (by rfl) ?_
  try walk_nrm
  refine oq_rd rfl (by rfl) (fun w₁ hw₁ K hK => ?_)
  clear hw₁
  go_simp
  refine hK _ (fun e he => ?_) ?_
  · have hm := mem_listed he
    simp [go_sem] at hm
  clear hK K w₁
  try walk_nrm
  refine opsQ_nil termsQ ?_
  refine wpQ_cond termsQ (t := true) (by first | rfl | simp [Act.eval, *]) ?_
  simp only [if_true, if_false, Bool.false_eq_true, ↓reduceIte]
  refine wpQ_seq termsQ ?_
  refine wpQ_region termsQ ?_
  simp only [List.size_toArray, List.length_cons, List.length_nil, Nat.reduceAdd, Nat.zero_add, List.range, List.range.loop]
  refine oq_rd rfl (by rfl) (fun w₁ hw₁ K hK => ?_)
  clear hw₁
  go_simp
  refine hK _ (fun e he => ?_) ?_
  · have hm := mem_listed he
    simp [go_sem] at hm
  clear hK K w₁
  try walk_nrm
  refine oq_rd rfl (by rfl) (fun w₁ hw₁ K hK => ?_)
  clear hw₁
  go_simp
  refine hK _ (fun e he => ?_) ?_
  · have hm := mem_listed he
    simp [go_sem] at hm
  clear hK K w₁
  try walk_nrm
  refine opsQ_nil termsQ ?_
  refine wpQ_ret termsQ ?_
  exact ⟨rfl, _, resultsC_tmp2 (t := 8) (u := 9) (by kernel_rfl) _, rfl, rfl, HF.keep⟩
set_option maxRecDepth 100000 in
set_option maxHeartbeats 8000000 in
theorem streams_bad2 {s : Sd} {many count work : Int} (hs : s.Ok) (h1 : validB s = true) (h2 : (decide ((0 : Int) ≤ many) && decide ((many : Int) ≤ 16)) = false) (hSb : ∀ b, c.1 b → b < w.heap.size) :
    CQ Fin 21 #[.agg #[.int .i64 s.k, .int .u64 s.a, .int .u64 s.b], .int .i64 many, .int .i64 count, .int .i64 work] c w (NoRes c w) := by
  have hnt : Try.f21.ntmps = 36 := by kernel_rfl
  have e : (#[Value.agg #[.int .i64 s.k, .int .u64 s.a, .int .u64 s.b], .int .i64 many, .int .i64 count, .int .i64 work] ++ Array.replicate (Try.f21.ntmps - (#[Value.agg #[.int .i64 s.k, .int .u64 s.a, .int .u64 s.b], .int .i64 many, .int .i64 count, .int .i64 work] : Array Value).size) undef) = #[Value.agg #[.int .i64 s.k, .int .u64 s.a, .int .u64 s.b], .int .i64 many, .int .i64 count, .int .i64 work, undef, undef, undef, undef, undef, undef, undef, undef, undef, undef, undef, undef, undef, undef, undef, undef, undef, undef, undef, undef, undef, undef, undef, undef, undef, undef, undef, undef, undef, undef, undef, undef] := by
    rw [hnt]
    simp
  refine callQ_of termsQ Try.func21 (by kernel_rfl) (x := Try.f21.body.getD .skip) (by rfl) ?_
  rw [e]
  clear e hnt
  simp only [Try.f21, Option.getD_some]
  refine wpQ_seq termsQ ?_
  refine wpQ_region termsQ ?_
  simp only [List.size_toArray, List.length_cons, List.length_nil, Nat.reduceAdd, Nat.zero_add, List.range, List.range.loop]
  refine oq_al rfl (by rfl) (fun w₁ hw₁ K hK => ?_)
  go_simp
  refine hK _ _ (fun e he => ?_) ?_
  · have hm := mem_listed he
    simp [go_sem] at hm
  clear hK K hw₁ w₁
  try walk_nrm
  refine oq_al rfl (by rfl) (fun w₁ hw₁ K hK => ?_)
  go_simp
  refine hK _ _ (fun e he => ?_) ?_
  · have hm := mem_listed he
    simp [go_sem] at hm
  clear hK K hw₁ w₁
  try walk_nrm
  have HF := F21.start (c := c) w s count hSb
  generalize (w.alloc (Obj.cells #[.int .i64 s.k, .int .u64 s.a, .int .u64 s.b] 26)).alloc (Obj.cells #[.int .i64 count] 2) = w0 at HF ⊢
  obtain ⟨Bs, hBs⟩ : ∃ B, B = w.heap.size := ⟨_, rfl⟩
  rw [← hBs] at HF ⊢
  have hBa : Bs ≤ w.heap.size := by omega
  have hBb : w.heap.size ≤ Bs := by omega
  have nBs : ¬ c.1 Bs := fun x => by have := hSb _ x; omega
  have nBc : ¬ c.1 (Bs + 1) := fun x => by have := hSb _ x; omega
  clear hBs
  refine oq_rd rfl (by rfl) (fun w₁ hw₁ K hK => ?_)
  clear hw₁
  go_simp
  refine hK _ (fun e he => ?_) ?_
  · have hm := mem_listed he
    simp [go_sem] at hm
  clear hK K w₁
  try walk_nrm
  refine oq_rd rfl (by rfl) (fun w₁ hw₁ K hK => ?_)
  clear hw₁
  go_simp
  refine hK _ (fun e he => ?_) ?_
  · have hm := mem_listed he
    simp [go_sem] at hm
  clear hK K w₁
  try walk_nrm
  refine opsQ_nil termsQ ?_
  refine wpQ_seq termsQ ?_
  refine wpQ_seq termsQ ?_
  refine wpQ_region termsQ ?_
  simp only [List.size_toArray, List.length_cons, List.length_nil, Nat.reduceAdd, Nat.zero_add, List.range, List.range.loop]
  refine oq_rd rfl (by rfl) (fun w₁ hw₁ K hK => ?_)
  obtain ⟨d0, d1, d2, -⟩ := cells3 (w := w₁) (B := Bs) (s := s) (by rw [hw₁]; exact HF.seed)
  clear hw₁
  go_simp
  refine hK _ (fun e he => ?_) ?_
  · have hm := mem_listed he
    simp [go_sem, d0, d1, d2] at hm
    rcases hm with rfl | rfl | rfl <;> exact evq_cell nBs (lt_of_some HF.seed)
  clear hK K d0 d1 d2 w₁
  try walk_nrm
  refine oq_call rfl (by rfl) rfl (by simp [Act.eval, Sd.val]) (cq_valid hs HF.sb') ?_
  rintro v1 c1 w1 ⟨rfl, hc1, hk1⟩
  obtain rfl := hc1
  replace HF := HF.step hk1
  clear hk1
  rw [h1]
  try walk_nrm
  refine oq_rd rfl (by rfl) (fun w₁ hw₁ K hK => ?_)
  clear hw₁
  go_simp
  refine hK _ (fun e he => ?_) ?_
  · have hm := mem_listed he
    simp [go_sem] at hm
  clear hK K w₁
  try walk_nrm
  refine oq_rd rfl (by rfl) (fun w₁ hw₁ K hK => ?_)
  clear hw₁
  go_simp
  refine hK _ (fun e he => ?_) ?_
  · have hm := mem_listed he
    simp [go_sem] at hm
  clear hK K w₁
  try walk_nrm
  refine oq_rd rfl (by rfl) (fun w₁ hw₁ K hK => ?_)
  clear hw₁
  go_simp
  refine hK _ (fun e he => ?_) ?_
  · have hm := mem_listed he
    simp [go_sem] at hm
  clear hK K w₁
  try walk_nrm
  refine oq_call rfl (by rfl) rfl (by simp [Act.eval, Sd.val]) (cq_within many 0 16 HF.sb') ?_
  rintro v1 c1 w1 ⟨rfl, hc1, hk1⟩
  obtain rfl := hc1
  replace HF := HF.step hk1
  clear hk1
  rw [h2]
  try walk_nrm
  refine oq_rd rfl (by rfl) (fun w₁ hw₁ K hK => ?_)
  clear hw₁
  go_simp
  refine hK _ (fun e he => ?_) ?_
  · have hm := mem_listed he
    simp [go_sem] at hm
  clear hK K w₁
  try walk_nrm
  refine oq_rd rfl (by rfl) (fun w₁ hw₁ K hK => ?_)
  clear hw₁
  go_simp
  refine hK _ (fun e he => ?_) ?_
  · have hm := mem_listed he
    simp [go_sem] at hm
  clear hK K w₁
  try walk_nrm
  refine oq_rd rfl (by rfl) (fun w₁ hw₁ K hK => ?_)
  clear hw₁
  go_simp
  refine hK _ (fun e he => ?_) ?_
  · have hm := mem_listed he
    simp [go_sem] at hm
  clear hK K w₁
  try walk_nrm
  refine opsQ_unwanted termsQ rfl (by rfl) ?_
  try walk_nrm
  refine opsQ_unwanted termsQ rfl (by rfl) ?_
  try walk_nrm
  refine opsQ_unwanted termsQ rfl (by rfl) ?_
  try walk_nrm
  refine oq_rd rfl (by rfl) (fun w₁ hw₁ K hK => ?_)
  clear hw₁
  go_simp
  refine hK _ (fun e he => ?_) ?_
  · have hm := mem_listed he
    simp [go_sem] at hm
  clear hK K w₁
  try walk_nrm
  refine oq_rd rfl (by rfl) (fun w₁ hw₁ K hK => ?_)
  clear hw₁
  go_simp
  refine hK _ (fun e he => ?_) ?_
  · have hm := mem_listed he
    simp [go_sem] at hm
  clear hK K w₁
  try walk_nrm
  refine opsQ_unwanted termsQ rfl (by rfl) ?_
  try walk_nrm
  refine opsQ_unwanted termsQ rfl (by rfl) ?_
  try walk_nrm
  refine opsQ_unwanted termsQ rfl (by rfl) ?_
  try walk_nrm
  refine oq_rd rfl (by rfl) (fun w₁ hw₁ K hK => ?_)
  clear hw₁
  go_simp
  refine hK _ (fun e he => ?_) ?_
  · have hm := mem_listed he
    simp [go_sem] at hm
  clear hK K w₁
  try walk_nrm
  refine opsQ_nil termsQ ?_
  refine wpQ_cond termsQ (t := true) (by first | rfl | simp [Act.eval, *]) ?_
  simp only [if_true, if_false, Bool.false_eq_true, ↓reduceIte]
  refine wpQ_seq termsQ ?_
  refine wpQ_region termsQ ?_
  simp only [List.size_toArray, List.length_cons, List.length_nil, Nat.reduceAdd, Nat.zero_add, List.range, List.range.loop]
  refine oq_rd rfl (by rfl) (fun w₁ hw₁ K hK => ?_)
  clear hw₁
  go_simp
  refine hK _ (fun e he => ?_) ?_
  · have hm := mem_listed he
    simp [go_sem] at hm
  clear hK K w₁
  try walk_nrm
  refine oq_rd rfl (by rfl) (fun w₁ hw₁ K hK => ?_)
  clear hw₁
  go_simp
  refine hK _ (fun e he => ?_) ?_
  · have hm := mem_listed he
    simp [go_sem] at hm
  clear hK K w₁
  try walk_nrm
  refine opsQ_nil termsQ ?_
  refine wpQ_ret termsQ ?_
  exact ⟨rfl, _, resultsC_tmp2 (t := 8) (u := 9) (by kernel_rfl) _, rfl, rfl, HF.keep⟩
set_option maxRecDepth 100000 in
set_option maxHeartbeats 8000000 in
theorem streams_bad3 {s : Sd} {many count work : Int} (hs : s.Ok) (h1 : validB s = true) (h2 : (decide ((0 : Int) ≤ many) && decide ((many : Int) ≤ 16)) = true) (h3 : (decide ((0 : Int) ≤ count) && decide ((count : Int) ≤ 256)) = false) (hSb : ∀ b, c.1 b → b < w.heap.size) :
    CQ Fin 21 #[.agg #[.int .i64 s.k, .int .u64 s.a, .int .u64 s.b], .int .i64 many, .int .i64 count, .int .i64 work] c w (NoRes c w) := by
  have hnt : Try.f21.ntmps = 36 := by kernel_rfl
  have e : (#[Value.agg #[.int .i64 s.k, .int .u64 s.a, .int .u64 s.b], .int .i64 many, .int .i64 count, .int .i64 work] ++ Array.replicate (Try.f21.ntmps - (#[Value.agg #[.int .i64 s.k, .int .u64 s.a, .int .u64 s.b], .int .i64 many, .int .i64 count, .int .i64 work] : Array Value).size) undef) = #[Value.agg #[.int .i64 s.k, .int .u64 s.a, .int .u64 s.b], .int .i64 many, .int .i64 count, .int .i64 work, undef, undef, undef, undef, undef, undef, undef, undef, undef, undef, undef, undef, undef, undef, undef, undef, undef, undef, undef, undef, undef, undef, undef, undef, undef, undef, undef, undef, undef, undef, undef, undef] := by
    rw [hnt]
    simp
  refine callQ_of termsQ Try.func21 (by kernel_rfl) (x := Try.f21.body.getD .skip) (by rfl) ?_
  rw [e]
  clear e hnt
  simp only [Try.f21, Option.getD_some]
  refine wpQ_seq termsQ ?_
  refine wpQ_region termsQ ?_
  simp only [List.size_toArray, List.length_cons, List.length_nil, Nat.reduceAdd, Nat.zero_add, List.range, List.range.loop]
  refine oq_al rfl (by rfl) (fun w₁ hw₁ K hK => ?_)
  go_simp
  refine hK _ _ (fun e he => ?_) ?_
  · have hm := mem_listed he
    simp [go_sem] at hm
  clear hK K hw₁ w₁
  try walk_nrm
  refine oq_al rfl (by rfl) (fun w₁ hw₁ K hK => ?_)
  go_simp
  refine hK _ _ (fun e he => ?_) ?_
  · have hm := mem_listed he
    simp [go_sem] at hm
  clear hK K hw₁ w₁
  try walk_nrm
  have HF := F21.start (c := c) w s count hSb
  generalize (w.alloc (Obj.cells #[.int .i64 s.k, .int .u64 s.a, .int .u64 s.b] 26)).alloc (Obj.cells #[.int .i64 count] 2) = w0 at HF ⊢
  obtain ⟨Bs, hBs⟩ : ∃ B, B = w.heap.size := ⟨_, rfl⟩
  rw [← hBs] at HF ⊢
  have hBa : Bs ≤ w.heap.size := by omega
  have hBb : w.heap.size ≤ Bs := by omega
  have nBs : ¬ c.1 Bs := fun x => by have := hSb _ x; omega
  have nBc : ¬ c.1 (Bs + 1) := fun x => by have := hSb _ x; omega
  clear hBs
  refine oq_rd rfl (by rfl) (fun w₁ hw₁ K hK => ?_)
  clear hw₁
  go_simp
  refine hK _ (fun e he => ?_) ?_
  · have hm := mem_listed he
    simp [go_sem] at hm
  clear hK K w₁
  try walk_nrm
  refine oq_rd rfl (by rfl) (fun w₁ hw₁ K hK => ?_)
  clear hw₁
  go_simp
  refine hK _ (fun e he => ?_) ?_
  · have hm := mem_listed he
    simp [go_sem] at hm
  clear hK K w₁
  try walk_nrm
  refine opsQ_nil termsQ ?_
  refine wpQ_seq termsQ ?_
  refine wpQ_seq termsQ ?_
  refine wpQ_region termsQ ?_
  simp only [List.size_toArray, List.length_cons, List.length_nil, Nat.reduceAdd, Nat.zero_add, List.range, List.range.loop]
  refine oq_rd rfl (by rfl) (fun w₁ hw₁ K hK => ?_)
  obtain ⟨d0, d1, d2, -⟩ := cells3 (w := w₁) (B := Bs) (s := s) (by rw [hw₁]; exact HF.seed)
  clear hw₁
  go_simp
  refine hK _ (fun e he => ?_) ?_
  · have hm := mem_listed he
    simp [go_sem, d0, d1, d2] at hm
    rcases hm with rfl | rfl | rfl <;> exact evq_cell nBs (lt_of_some HF.seed)
  clear hK K d0 d1 d2 w₁
  try walk_nrm
  refine oq_call rfl (by rfl) rfl (by simp [Act.eval, Sd.val]) (cq_valid hs HF.sb') ?_
  rintro v1 c1 w1 ⟨rfl, hc1, hk1⟩
  obtain rfl := hc1
  replace HF := HF.step hk1
  clear hk1
  rw [h1]
  try walk_nrm
  refine oq_rd rfl (by rfl) (fun w₁ hw₁ K hK => ?_)
  clear hw₁
  go_simp
  refine hK _ (fun e he => ?_) ?_
  · have hm := mem_listed he
    simp [go_sem] at hm
  clear hK K w₁
  try walk_nrm
  refine oq_rd rfl (by rfl) (fun w₁ hw₁ K hK => ?_)
  clear hw₁
  go_simp
  refine hK _ (fun e he => ?_) ?_
  · have hm := mem_listed he
    simp [go_sem] at hm
  clear hK K w₁
  try walk_nrm
  refine oq_rd rfl (by rfl) (fun w₁ hw₁ K hK => ?_)
  clear hw₁
  go_simp
  refine hK _ (fun e he => ?_) ?_
  · have hm := mem_listed he
    simp [go_sem] at hm
  clear hK K w₁
  try walk_nrm
  refine oq_call rfl (by rfl) rfl (by simp [Act.eval, Sd.val]) (cq_within many 0 16 HF.sb') ?_
  rintro v1 c1 w1 ⟨rfl, hc1, hk1⟩
  obtain rfl := hc1
  replace HF := HF.step hk1
  clear hk1
  rw [h2]
  try walk_nrm
  refine oq_rd rfl (by rfl) (fun w₁ hw₁ K hK => ?_)
  clear hw₁
  go_simp
  refine hK _ (fun e he => ?_) ?_
  · have hm := mem_listed he
    simp [go_sem] at hm
  clear hK K w₁
  try walk_nrm
  refine oq_rd rfl (by rfl) (fun w₁ hw₁ K hK => ?_)
  clear hw₁
  go_simp
  refine hK _ (fun e he => ?_) ?_
  · have hm := mem_listed he
    simp [go_sem] at hm
  clear hK K w₁
  try walk_nrm
  refine oq_rd rfl (by rfl) (fun w₁ hw₁ K hK => ?_)
  clear hw₁
  go_simp
  refine hK _ (fun e he => ?_) ?_
  · have hm := mem_listed he
    simp [go_sem] at hm
  clear hK K w₁
  try walk_nrm
  refine oq_rd rfl (by rfl) (fun w₁ hw₁ K hK => ?_)
  have h1 : w₁.cell? ⟨Bs + 1, 0, none⟩ = some (.int .i64 count) := by simp [World.cell?, hw₁, HF.cnt]
  clear hw₁
  go_simp
  refine hK _ (fun e he => ?_) ?_
  · have hm := mem_listed he
    simp [go_sem, h1] at hm
    subst hm
    exact evq_cell nBc (lt_of_some HF.cnt)
  clear hK K h1 w₁
  try walk_nrm
  refine oq_call rfl (by rfl) rfl (by simp [Act.eval, Sd.val]) (cq_within count 0 256 HF.sb') ?_
  rintro v1 c1 w1 ⟨rfl, hc1, hk1⟩
  obtain rfl := hc1
  replace HF := HF.step hk1
  clear hk1
  rw [h3]
  try walk_nrm
  refine oq_rd rfl (by rfl) (fun w₁ hw₁ K hK => ?_)
  clear hw₁
  go_simp
  refine hK _ (fun e he => ?_) ?_
  · have hm := mem_listed he
    simp [go_sem] at hm
  clear hK K w₁
  try walk_nrm
  refine oq_rd rfl (by rfl) (fun w₁ hw₁ K hK => ?_)
  clear hw₁
  go_simp
  refine hK _ (fun e he => ?_) ?_
  · have hm := mem_listed he
    simp [go_sem] at hm
  clear hK K w₁
  try walk_nrm
  refine oq_rd rfl (by rfl) (fun w₁ hw₁ K hK => ?_)
  clear hw₁
  go_simp
  refine hK _ (fun e he => ?_) ?_
  · have hm := mem_listed he
    simp [go_sem] at hm
  clear hK K w₁
  try walk_nrm
  refine opsQ_unwanted termsQ rfl (by rfl) ?_
  try walk_nrm
  refine opsQ_unwanted termsQ rfl (by rfl) ?_
  try walk_nrm
  refine opsQ_unwanted termsQ rfl (by rfl) ?_
  try walk_nrm
  refine oq_rd rfl (by rfl) (fun w₁ hw₁ K hK => ?_)
  clear hw₁
  go_simp
  refine hK _ (fun e he => ?_) ?_
  · have hm := mem_listed he
    simp [go_sem] at hm
  clear hK K w₁
  try walk_nrm
  refine opsQ_nil termsQ ?_
  refine wpQ_cond termsQ (t := true) (by first | rfl | simp [Act.eval, *]) ?_
  simp only [if_true, if_false, Bool.false_eq_true, ↓reduceIte]
  refine wpQ_seq termsQ ?_
  refine wpQ_region termsQ ?_
  simp only [List.size_toArray, List.length_cons, List.length_nil, Nat.reduceAdd, Nat.zero_add, List.range, List.range.loop]
  refine oq_rd rfl (by rfl) (fun w₁ hw₁ K hK => ?_)
  clear hw₁
  go_simp
  refine hK _ (fun e he => ?_) ?_
  · have hm := mem_listed he
    simp [go_sem] at hm
  clear hK K w₁
  try walk_nrm
  refine oq_rd rfl (by rfl) (fun w₁ hw₁ K hK => ?_)
  clear hw₁
  go_simp
  refine hK _ (fun e he => ?_) ?_
  · have hm := mem_listed he
    simp [go_sem] at hm
  clear hK K w₁
  try walk_nrm
  refine opsQ_nil termsQ ?_
  refine wpQ_ret termsQ ?_
  exact ⟨rfl, _, resultsC_tmp2 (t := 8) (u := 9) (by kernel_rfl) _, rfl, rfl, HF.keep⟩
set_option maxRecDepth 100000 in
set_option maxHeartbeats 8000000 in
theorem streams_bad4 {s : Sd} {many count work : Int} (hs : s.Ok) (h1 : validB s = true) (h2 : (decide ((0 : Int) ≤ many) && decide ((many : Int) ≤ 16)) = true) (h3 : (decide ((0 : Int) ≤ count) && decide ((count : Int) ≤ 256)) = true) (h4 : (decide ((1 : Int) ≤ work) && decide ((work : Int) ≤ 8)) = false) (hSb : ∀ b, c.1 b → b < w.heap.size) :
    CQ Fin 21 #[.agg #[.int .i64 s.k, .int .u64 s.a, .int .u64 s.b], .int .i64 many, .int .i64 count, .int .i64 work] c w (NoRes c w) := by
  have hnt : Try.f21.ntmps = 36 := by kernel_rfl
  have e : (#[Value.agg #[.int .i64 s.k, .int .u64 s.a, .int .u64 s.b], .int .i64 many, .int .i64 count, .int .i64 work] ++ Array.replicate (Try.f21.ntmps - (#[Value.agg #[.int .i64 s.k, .int .u64 s.a, .int .u64 s.b], .int .i64 many, .int .i64 count, .int .i64 work] : Array Value).size) undef) = #[Value.agg #[.int .i64 s.k, .int .u64 s.a, .int .u64 s.b], .int .i64 many, .int .i64 count, .int .i64 work, undef, undef, undef, undef, undef, undef, undef, undef, undef, undef, undef, undef, undef, undef, undef, undef, undef, undef, undef, undef, undef, undef, undef, undef, undef, undef, undef, undef, undef, undef, undef, undef] := by
    rw [hnt]
    simp
  refine callQ_of termsQ Try.func21 (by kernel_rfl) (x := Try.f21.body.getD .skip) (by rfl) ?_
  rw [e]
  clear e hnt
  simp only [Try.f21, Option.getD_some]
  refine wpQ_seq termsQ ?_
  refine wpQ_region termsQ ?_
  simp only [List.size_toArray, List.length_cons, List.length_nil, Nat.reduceAdd, Nat.zero_add, List.range, List.range.loop]
  refine oq_al rfl (by rfl) (fun w₁ hw₁ K hK => ?_)
  go_simp
  refine hK _ _ (fun e he => ?_) ?_
  · have hm := mem_listed he
    simp [go_sem] at hm
  clear hK K hw₁ w₁
  try walk_nrm
  refine oq_al rfl (by rfl) (fun w₁ hw₁ K hK => ?_)
  go_simp
  refine hK _ _ (fun e he => ?_) ?_
  · have hm := mem_listed he
    simp [go_sem] at hm
  clear hK K hw₁ w₁
  try walk_nrm
  have HF := F21.start (c := c) w s count hSb
  generalize (w.alloc (Obj.cells #[.int .i64 s.k, .int .u64 s.a, .int .u64 s.b] 26)).alloc (Obj.cells #[.int .i64 count] 2) = w0 at HF ⊢
  obtain ⟨Bs, hBs⟩ : ∃ B, B = w.heap.size := ⟨_, rfl⟩
  rw [← hBs] at HF ⊢
  have hBa : Bs ≤ w.heap.size := by omega
  have hBb : w.heap.size ≤ Bs := by omega
  have nBs : ¬ c.1 Bs := fun x => by have := hSb _ x; omega
  have nBc : ¬ c.1 (Bs + 1) := fun x => by have := hSb _ x; omega
  clear hBs
  refine oq_rd rfl (by rfl) (fun w₁ hw₁ K hK => ?_)
  clear hw₁
  go_simp
  refine hK _ (fun e he => ?_) ?_
  · have hm := mem_listed he
    simp [go_sem] at hm
  clear hK K w₁
  try walk_nrm
  refine oq_rd rfl (by rfl) (fun w₁ hw₁ K hK => ?_)
  clear hw₁
  go_simp
  refine hK _ (fun e he => ?_) ?_
  · have hm := mem_listed he
    simp [go_sem] at hm
  clear hK K w₁
  try walk_nrm
  refine opsQ_nil termsQ ?_
  refine wpQ_seq termsQ ?_
  refine wpQ_seq termsQ ?_
  refine wpQ_region termsQ ?_
  simp only [List.size_toArray, List.length_cons, List.length_nil, Nat.reduceAdd, Nat.zero_add, List.range, List.range.loop]
  refine oq_rd rfl (by rfl) (fun w₁ hw₁ K hK => ?_)
  obtain ⟨d0, d1, d2, -⟩ := cells3 (w := w₁) (B := Bs) (s := s) (by rw [hw₁]; exact HF.seed)
  clear hw₁
  go_simp
  refine hK _ (fun e he => ?_) ?_
  · have hm := mem_listed he
    simp [go_sem, d0, d1, d2] at hm
    rcases hm with rfl | rfl | rfl <;> exact evq_cell nBs (lt_of_some HF.seed)
  clear hK K d0 d1 d2 w₁
  try walk_nrm
  refine oq_call rfl (by rfl) rfl (by simp [Act.eval, Sd.val]) (cq_valid hs HF.sb') ?_
  rintro v1 c1 w1 ⟨rfl, hc1, hk1⟩
  obtain rfl := hc1
  replace HF := HF.step hk1
  clear hk1
  rw [h1]
  try walk_nrm
  refine oq_rd rfl (by rfl) (fun w₁ hw₁ K hK => ?_)
  clear hw₁
  go_simp
  refine hK _ (fun e he => ?_) ?_
  · have hm := mem_listed he
    simp [go_sem] at hm
  clear hK K w₁
  try walk_nrm
  refine oq_rd rfl (by rfl) (fun w₁ hw₁ K hK => ?_)
  clear hw₁
  go_simp
  refine hK _ (fun e he => ?_) ?_
  · have hm := mem_listed he
    simp [go_sem] at hm
  clear hK K w₁
  try walk_nrm
  refine oq_rd rfl (by rfl) (fun w₁ hw₁ K hK => ?_)
  clear hw₁
  go_simp
  refine hK _ (fun e he => ?_) ?_
  · have hm := mem_listed he
    simp [go_sem] at hm
  clear hK K w₁
  try walk_nrm
  refine oq_call rfl (by rfl) rfl (by simp [Act.eval, Sd.val]) (cq_within many 0 16 HF.sb') ?_
  rintro v1 c1 w1 ⟨rfl, hc1, hk1⟩
  obtain rfl := hc1
  replace HF := HF.step hk1
  clear hk1
  rw [h2]
  try walk_nrm
  refine oq_rd rfl (by rfl) (fun w₁ hw₁ K hK => ?_)
  clear hw₁
  go_simp
  refine hK _ (fun e he => ?_) ?_
  · have hm := mem_listed he
    simp [go_sem] at hm
  clear hK K w₁
  try walk_nrm
  refine oq_rd rfl (by rfl) (fun w₁ hw₁ K hK => ?_)
  clear hw₁
  go_simp
  refine hK _ (fun e he => ?_) ?_
  · have hm := mem_listed he
    simp [go_sem] at hm
  clear hK K w₁
  try walk_nrm
  refine oq_rd rfl (by rfl) (fun w₁ hw₁ K hK => ?_)
  clear hw₁
  go_simp
  refine hK _ (fun e he => ?_) ?_
  · have hm := mem_listed he
    simp [go_sem] at hm
  clear hK K w₁
  try walk_nrm
  refine oq_rd rfl (by rfl) (fun w₁ hw₁ K hK => ?_)
  have h1 : w₁.cell? ⟨Bs + 1, 0, none⟩ = some (.int .i64 count) := by simp [World.cell?, hw₁, HF.cnt]
  clear hw₁
  go_simp
  refine hK _ (fun e he => ?_) ?_
  · have hm := mem_listed he
    simp [go_sem, h1] at hm
    subst hm
    exact evq_cell nBc (lt_of_some HF.cnt)
  clear hK K h1 w₁
  try walk_nrm
  refine oq_call rfl (by rfl) rfl (by simp [Act.eval, Sd.val]) (cq_within count 0 256 HF.sb') ?_
  rintro v1 c1 w1 ⟨rfl, hc1, hk1⟩
  obtain rfl := hc1
  replace HF := HF.step hk1
  clear hk1
  rw [h3]
  try walk_nrm
  refine oq_rd rfl (by rfl) (fun w₁ hw₁ K hK => ?_)
  clear hw₁
  go_simp
  refine hK _ (fun e he => ?_) ?_
  · have hm := mem_listed he
    simp [go_sem] at hm
  clear hK K w₁
  try walk_nrm
  refine oq_rd rfl (by rfl) (fun w₁ hw₁ K hK => ?_)
  clear hw₁
  go_simp
  refine hK _ (fun e he => ?_) ?_
  · have hm := mem_listed he
    simp [go_sem] at hm
  clear hK K w₁
  try walk_nrm
  refine oq_rd rfl (by rfl) (fun w₁ hw₁ K hK => ?_)
  clear hw₁
  go_simp
  refine hK _ (fun e he => ?_) ?_
  · have hm := mem_listed he
    simp [go_sem] at hm
  clear hK K w₁
  try walk_nrm
  refine oq_rd rfl (by rfl) (fun w₁ hw₁ K hK => ?_)
  clear hw₁
  go_simp
  refine hK _ (fun e he => ?_) ?_
  · have hm := mem_listed he
    simp [go_sem] at hm
  clear hK K w₁
  try walk_nrm
  refine oq_call rfl (by rfl) rfl (by simp [Act.eval, Sd.val]) (cq_isCrew work HF.sb') ?_
  rintro v1 c1 w1 ⟨rfl, hc1, hk1⟩
  obtain rfl := hc1
  replace HF := HF.step hk1
  clear hk1
  rw [h4]
  try walk_nrm
  refine oq_rd rfl (by rfl) (fun w₁ hw₁ K hK => ?_)
  clear hw₁
  go_simp
  refine hK _ (fun e he => ?_) ?_
  · have hm := mem_listed he
    simp [go_sem] at hm
  clear hK K w₁
  try walk_nrm
  refine oq_rd rfl (by rfl) (fun w₁ hw₁ K hK => ?_)
  clear hw₁
  go_simp
  refine hK _ (fun e he => ?_) ?_
  · have hm := mem_listed he
    simp [go_sem] at hm
  clear hK K w₁
  try walk_nrm
  refine opsQ_nil termsQ ?_
  refine wpQ_cond termsQ (t := true) (by first | rfl | simp [Act.eval, *]) ?_
  simp only [if_true, if_false, Bool.false_eq_true, ↓reduceIte]
  refine wpQ_seq termsQ ?_
  refine wpQ_region termsQ ?_
  simp only [List.size_toArray, List.length_cons, List.length_nil, Nat.reduceAdd, Nat.zero_add, List.range, List.range.loop]
  refine oq_rd rfl (by rfl) (fun w₁ hw₁ K hK => ?_)
  clear hw₁
  go_simp
  refine hK _ (fun e he => ?_) ?_
  · have hm := mem_listed he
    simp [go_sem] at hm
  clear hK K w₁
  try walk_nrm
  refine oq_rd rfl (by rfl) (fun w₁ hw₁ K hK => ?_)
  clear hw₁
  go_simp
  refine hK _ (fun e he => ?_) ?_
  · have hm := mem_listed he
    simp [go_sem] at hm
  clear hK K w₁
  try walk_nrm
  refine opsQ_nil termsQ ?_
  refine wpQ_ret termsQ ?_
  exact ⟨rfl, _, resultsC_tmp2 (t := 8) (u := 9) (by kernel_rfl) _, rfl, rfl, HF.keep⟩
theorem cq_streamsBad {s : Sd} {many count work : Int} (hs : s.Ok) (h : (validB s && ((decide ((0 : Int) ≤ many) && decide (many ≤ 16)) && ((decide ((0 : Int) ≤ count) && decide (count ≤ 256)) && (decide ((1 : Int) ≤ work) && decide (work ≤ 8))))) = false) (hSb : ∀ b, c.1 b → b < w.heap.size) :
    CQ Fin 21 #[.agg #[.int .i64 s.k, .int .u64 s.a, .int .u64 s.b], .int .i64 many, .int .i64 count, .int .i64 work] c w (NoRes c w) := by
  cases h1 : validB s with
  | false => exact streams_bad1 hs h1 hSb
  | true =>
    cases h2 : (decide ((0 : Int) ≤ many) && decide (many ≤ 16)) with
    | false => exact streams_bad2 hs h1 h2 hSb
    | true =>
      cases h3 : (decide ((0 : Int) ≤ count) && decide (count ≤ 256)) with
      | false => exact streams_bad3 hs h1 h2 h3 hSb
      | true =>
        cases h4 : (decide ((1 : Int) ≤ work) && decide (work ≤ 8)) with
        | false => exact streams_bad4 hs h1 h2 h3 h4 hSb
        | true => rw [h1, h2, h3, h4] at h; simp at h
set_option maxRecDepth 100000 in
set_option maxHeartbeats 8000000 in
theorem cq_streamsGood {Sb : Nat → Prop} {J : Nat} {s : Sd} {n cnt stp : Nat} (hs : s.Ok) (h1 : validB s = true) (hn : n ≤ 16) (hc : cnt ≤ 256) (hw1 : 1 ≤ stp) (hw2 : stp ≤ 8) (hJ : J + stp < 2147483648) (hSb : ∀ b, Sb b → b < w.heap.size) :
    CQ Fin 21 #[.agg #[.int .i64 s.k, .int .u64 s.a, .int .u64 s.b], .int .i64 n, .int .i64 cnt, .int .i64 stp] (Sb, J) w fun v' c' w' => ∃ Wg, w.heap.size ≤ Wg ∧ Wg < w'.heap.size ∧ c' = (fun b => Sb b ∨ b = Wg, J + stp) ∧ KeepQ (fun _ => False) w w' ∧
      ∃ v rs, v' = .tuple #[v, .bool true] ∧ Rows w' w.heap.size n cnt v (fun i => wordsV (splitS s i) cnt) rs ∧ ∀ g, v.ownBlock = some g ∨ RowsIn rs g → ¬ c'.1 g := by
  obtain ⟨i29, hi29, hz29, hs29, hb29⟩ := info_parts info29
  have h2 : (decide ((0 : Int) ≤ n) && decide ((n : Int) ≤ 16)) = true := by simp; omega
  have h3 : (decide ((0 : Int) ≤ cnt) && decide ((cnt : Int) ≤ 256)) = true := by simp; omega
  have h4 : (decide ((1 : Int) ≤ stp) && decide ((stp : Int) ≤ 8)) = true := by simp; omega
  have hnt : Try.f21.ntmps = 36 := by kernel_rfl
  have e : (#[Value.agg #[.int .i64 s.k, .int .u64 s.a, .int .u64 s.b], .int .i64 n, .int .i64 cnt, .int .i64 stp] ++ Array.replicate (Try.f21.ntmps - (#[Value.agg #[.int .i64 s.k, .int .u64 s.a, .int .u64 s.b], .int .i64 n, .int .i64 cnt, .int .i64 stp] : Array Value).size) undef) = #[Value.agg #[.int .i64 s.k, .int .u64 s.a, .int .u64 s.b], .int .i64 n, .int .i64 cnt, .int .i64 stp, undef, undef, undef, undef, undef, undef, undef, undef, undef, undef, undef, undef, undef, undef, undef, undef, undef, undef, undef, undef, undef, undef, undef, undef, undef, undef, undef, undef, undef, undef, undef, undef] := by
    rw [hnt]
    simp
  refine callQ_of termsQ Try.func21 (by kernel_rfl) (x := Try.f21.body.getD .skip) (by rfl) ?_
  rw [e]
  clear e hnt
  simp only [Try.f21, Option.getD_some]
  refine wpQ_seq termsQ ?_
  refine wpQ_region termsQ ?_
  simp only [List.size_toArray, List.length_cons, List.length_nil, Nat.reduceAdd, Nat.zero_add, List.range, List.range.loop]
  refine oq_al rfl (by rfl) (fun w₁ hw₁ K hK => ?_)
  go_simp
  refine hK _ _ (fun e he => ?_) ?_
  · have hm := mem_listed he
    simp [go_sem] at hm
  clear hK K hw₁ w₁
  try walk_nrm
  refine oq_al rfl (by rfl) (fun w₁ hw₁ K hK => ?_)
  go_simp
  refine hK _ _ (fun e he => ?_) ?_
  · have hm := mem_listed he
    simp [go_sem] at hm
  clear hK K hw₁ w₁
  try walk_nrm
  have HF := F21.start (c := (Sb, J)) w s cnt hSb
  generalize (w.alloc (Obj.cells #[.int .i64 s.k, .int .u64 s.a, .int .u64 s.b] 26)).alloc (Obj.cells #[.int .i64 cnt] 2) = w0 at HF ⊢
  obtain ⟨Bs, hBs⟩ : ∃ B, B = w.heap.size := ⟨_, rfl⟩
  rw [← hBs] at HF ⊢
  have hBa : Bs ≤ w.heap.size := by omega
  have hBb : w.heap.size ≤ Bs := by omega
  have nBs : ¬ Sb Bs := fun x => by have := hSb _ x; omega
  have nBc : ¬ Sb (Bs + 1) := fun x => by have := hSb _ x; omega
  clear hBs
  refine oq_rd rfl (by rfl) (fun w₁ hw₁ K hK => ?_)
  clear hw₁
  go_simp
  refine hK _ (fun e he => ?_) ?_
  · have hm := mem_listed he
    simp [go_sem] at hm
  clear hK K w₁
  try walk_nrm
  refine oq_rd rfl (by rfl) (fun w₁ hw₁ K hK => ?_)
  clear hw₁
  go_simp
  refine hK _ (fun e he => ?_) ?_
  · have hm := mem_listed he
    simp [go_sem] at hm
  clear hK K w₁
  try walk_nrm
  refine opsQ_nil termsQ ?_
  refine wpQ_seq termsQ ?_
  refine wpQ_seq termsQ ?_
  refine wpQ_region termsQ ?_
  simp only [List.size_toArray, List.length_cons, List.length_nil, Nat.reduceAdd, Nat.zero_add, List.range, List.range.loop]
  refine oq_rd rfl (by rfl) (fun w₁ hw₁ K hK => ?_)
  obtain ⟨d0, d1, d2, -⟩ := cells3 (w := w₁) (B := Bs) (s := s) (by rw [hw₁]; exact HF.seed)
  clear hw₁
  go_simp
  refine hK _ (fun e he => ?_) ?_
  · have hm := mem_listed he
    simp [go_sem, d0, d1, d2] at hm
    rcases hm with rfl | rfl | rfl <;> exact evq_cell nBs (lt_of_some HF.seed)
  clear hK K d0 d1 d2 w₁
  try walk_nrm
  refine oq_call rfl (by rfl) rfl (by simp [Act.eval, Sd.val]) (cq_valid hs HF.sb') ?_
  rintro v1 c1 w1 ⟨rfl, hc1, hk1⟩
  obtain rfl := hc1
  replace HF := HF.step hk1
  clear hk1
  rw [h1]
  try walk_nrm
  refine oq_rd rfl (by rfl) (fun w₁ hw₁ K hK => ?_)
  clear hw₁
  go_simp
  refine hK _ (fun e he => ?_) ?_
  · have hm := mem_listed he
    simp [go_sem] at hm
  clear hK K w₁
  try walk_nrm
  refine oq_rd rfl (by rfl) (fun w₁ hw₁ K hK => ?_)
  clear hw₁
  go_simp
  refine hK _ (fun e he => ?_) ?_
  · have hm := mem_listed he
    simp [go_sem] at hm
  clear hK K w₁
  try walk_nrm
  refine oq_rd rfl (by rfl) (fun w₁ hw₁ K hK => ?_)
  clear hw₁
  go_simp
  refine hK _ (fun e he => ?_) ?_
  · have hm := mem_listed he
    simp [go_sem] at hm
  clear hK K w₁
  try walk_nrm
  refine oq_call rfl (by rfl) rfl (by simp [Act.eval, Sd.val]) (cq_within n 0 16 HF.sb') ?_
  rintro v1 c1 w1 ⟨rfl, hc1, hk1⟩
  obtain rfl := hc1
  replace HF := HF.step hk1
  clear hk1
  rw [h2]
  try walk_nrm
  refine oq_rd rfl (by rfl) (fun w₁ hw₁ K hK => ?_)
  clear hw₁
  go_simp
  refine hK _ (fun e he => ?_) ?_
  · have hm := mem_listed he
    simp [go_sem] at hm
  clear hK K w₁
  try walk_nrm
  refine oq_rd rfl (by rfl) (fun w₁ hw₁ K hK => ?_)
  clear hw₁
  go_simp
  refine hK _ (fun e he => ?_) ?_
  · have hm := mem_listed he
    simp [go_sem] at hm
  clear hK K w₁
  try walk_nrm
  refine oq_rd rfl (by rfl) (fun w₁ hw₁ K hK => ?_)
  clear hw₁
  go_simp
  refine hK _ (fun e he => ?_) ?_
  · have hm := mem_listed he
    simp [go_sem] at hm
  clear hK K w₁
  try walk_nrm
  refine oq_rd rfl (by rfl) (fun w₁ hw₁ K hK => ?_)
  have h1 : w₁.cell? ⟨Bs + 1, 0, none⟩ = some (.int .i64 cnt) := by simp [World.cell?, hw₁, HF.cnt]
  clear hw₁
  go_simp
  refine hK _ (fun e he => ?_) ?_
  · have hm := mem_listed he
    simp [go_sem, h1] at hm
    subst hm
    exact evq_cell nBc (lt_of_some HF.cnt)
  clear hK K h1 w₁
  try walk_nrm
  refine oq_call rfl (by rfl) rfl (by simp [Act.eval, Sd.val]) (cq_within cnt 0 256 HF.sb') ?_
  rintro v1 c1 w1 ⟨rfl, hc1, hk1⟩
  obtain rfl := hc1
  replace HF := HF.step hk1
  clear hk1
  rw [h3]
  try walk_nrm
  refine oq_rd rfl (by rfl) (fun w₁ hw₁ K hK => ?_)
  clear hw₁
  go_simp
  refine hK _ (fun e he => ?_) ?_
  · have hm := mem_listed he
    simp [go_sem] at hm
  clear hK K w₁
  try walk_nrm
  refine oq_rd rfl (by rfl) (fun w₁ hw₁ K hK => ?_)
  clear hw₁
  go_simp
  refine hK _ (fun e he => ?_) ?_
  · have hm := mem_listed he
    simp [go_sem] at hm
  clear hK K w₁
  try walk_nrm
  refine oq_rd rfl (by rfl) (fun w₁ hw₁ K hK => ?_)
  clear hw₁
  go_simp
  refine hK _ (fun e he => ?_) ?_
  · have hm := mem_listed he
    simp [go_sem] at hm
  clear hK K w₁
  try walk_nrm
  refine oq_rd rfl (by rfl) (fun w₁ hw₁ K hK => ?_)
  clear hw₁
  go_simp
  refine hK _ (fun e he => ?_) ?_
  · have hm := mem_listed he
    simp [go_sem] at hm
  clear hK K w₁
  try walk_nrm
  refine oq_call rfl (by rfl) rfl (by simp [Act.eval, Sd.val]) (cq_isCrew stp HF.sb') ?_
  rintro v1 c1 w1 ⟨rfl, hc1, hk1⟩
  obtain rfl := hc1
  replace HF := HF.step hk1
  clear hk1
  rw [h4]
  try walk_nrm
  refine oq_rd rfl (by rfl) (fun w₁ hw₁ K hK => ?_)
  clear hw₁
  go_simp
  refine hK _ (fun e he => ?_) ?_
  · have hm := mem_listed he
    simp [go_sem] at hm
  clear hK K w₁
  try walk_nrm
  refine oq_rd rfl (by rfl) (fun w₁ hw₁ K hK => ?_)
  clear hw₁
  go_simp
  refine hK _ (fun e he => ?_) ?_
  · have hm := mem_listed he
    simp [go_sem] at hm
  clear hK K w₁
  try walk_nrm
  refine opsQ_nil termsQ ?_
  refine wpQ_cond termsQ (t := false) (by first | rfl | simp [Act.eval, *]) ?_
  simp only [if_true, if_false, Bool.false_eq_true, ↓reduceIte]
  refine wpQ_skip termsQ ?_
  clear h1 h2 h3 h4
  generalize hwx : w1 = w2 at HF ⊢
  clear hwx
  refine wpQ_seq termsQ ?_
  refine wpQ_region termsQ ?_
  simp only [List.size_toArray, List.length_cons, List.length_nil, Nat.reduceAdd, Nat.zero_add, List.range, List.range.loop]
  refine oq_rd rfl (by rfl) (fun w₁ hw₁ K hK => ?_)
  clear hw₁
  go_simp
  refine hK _ (fun e he => ?_) ?_
  · have hm := mem_listed he
    simp [go_sem] at hm
  clear hK K w₁
  try walk_nrm
  refine oq_make rfl (by rfl) (.tmp 29) (.tmp 29) 40 29 i29 (.slice none 0 0) rfl Try.underlying40 hi29 hz29 n rfl rfl (by rw [hb29]; omega) (by omega) ?_
  obtain ⟨C, hC⟩ : ∃ C, C = w2.heap.size := ⟨_, rfl⟩
  have hCk : KeepQ (fun _ => False) w2 (w2.alloc (.cells (madeCells (Value.slice none 0 0).cells (n * i29.size)) 29)) := ⟨⟨rfl, rfl, rfl⟩, by rw [World.size_alloc]; omega, fun b hb _ => Below.heap_alloc _ _ _ hb⟩
  have hCb : ∃ cs, (w2.alloc (.cells (madeCells (Value.slice none 0 0).cells (n * i29.size)) 29)).heap[C]? = some (.cells cs 29) ∧ cs.size = n := ⟨_, by rw [hC]; exact heap_alloc_new _ _, by rw [size_madeCells, hs29]; omega⟩
  have hCs : (w2.alloc (.cells (madeCells (Value.slice none 0 0).cells (n * i29.size)) 29)).heap.size = C + 1 := by rw [World.size_alloc, hC]
  rw [← hC]
  have hCa : Bs + 1 < C := by rw [hC]; exact lt_of_some HF.cnt
  replace HF := HF.step hCk
  clear hCk hC
  generalize w2.alloc (.cells (madeCells (Value.slice none 0 0).cells (n * i29.size)) 29) = w3 at HF hCb hCs ⊢
  clear w2
  try walk_nrm
  refine oq_al rfl (by rfl) (fun w₁ hw₁ K hK => ?_)
  go_simp
  refine hK _ _ (fun e he => ?_) ?_
  · have hm := mem_listed he
    simp [go_sem] at hm
  clear hK K hw₁ w₁
  try walk_nrm
  have hDk : KeepQ (fun _ => False) w3 (w3.alloc (.cells #[.slice none 0 0] 40)) := ⟨⟨rfl, rfl, rfl⟩, by rw [World.size_alloc]; omega, fun b hb _ => Below.heap_alloc _ _ _ hb⟩
  have hDb : (w3.alloc (.cells #[.slice none 0 0] 40)).heap[C + 1]? = some (.cells #[.slice none 0 0] 40) := by rw [← hCs]; exact heap_alloc_new _ _
  have hDs : (w3.alloc (.cells #[.slice none 0 0] 40)).heap.size = C + 2 := by rw [World.size_alloc, hCs]
  replace HF := HF.step hDk
  replace hCb : ∃ cs, (w3.alloc (.cells #[.slice none 0 0] 40)).heap[C]? = some (.cells cs 29) ∧ cs.size = n := by
    obtain ⟨cs, e1, e2⟩ := hCb
    exact ⟨cs, hDk.some e1 id, e2⟩
  clear hDk
  try rw [hCs]
  clear hCs
  generalize w3.alloc (Obj.cells #[.slice none 0 0] 40) = w4 at HF hCb hDb hDs ⊢
  clear w3
  have nC : ¬ Sb C := fun x => by have := hSb _ x; omega
  have nD : ¬ Sb (C + 1) := fun x => by have := hSb _ x; omega
  refine oq_st rfl (by rfl) (fun w₁ hw₁ K hK => ?_)
  have h1 : w₁.cell? ⟨C + 1, 0, none⟩ = some (.slice none 0 0) := by simp [World.cell?, hw₁, hDb]
  have h2 : w₁.frozen? ⟨C + 1, 0, none⟩ = false := by simp [World.frozen?, hw₁, hDb]
  clear hw₁
  go_simp
  refine hK _ _ _ (fun e he => ?_) ?_
  · have hm := mem_listed he
    simp [go_sem, Go.events_store _ _ _ _ (Value.slice (some ⟨C, 0, none⟩) n n) _ rfl, h1, h2] at hm
    subst hm
    exact evq_cell nD (by show C + 1 < _; omega)
  clear hK K h1 h2 w₁
  have hE1 : ∀ b, b ≠ C + 1 → (w4.setCell ⟨C + 1, 0, none⟩ (.slice (some ⟨C, 0, none⟩) n n)).heap[b]? = w4.heap[b]? := fun b hb => Below.heap_setCell _ _ _ _ hb
  have hE2 : (w4.setCell ⟨C + 1, 0, none⟩ (.slice (some ⟨C, 0, none⟩) n n)).heap[C + 1]? = some (.cells #[.slice (some ⟨C, 0, none⟩) n n] 40) := by simp [World.setCell, Array.getElem?_modify, hDb]
  have hE3 : (w4.setCell ⟨C + 1, 0, none⟩ (.slice (some ⟨C, 0, none⟩) n n)).heap.size = C + 2 := by rw [World.size_setCell]; exact hDs
  have hE4 : Kin w4 (w4.setCell ⟨C + 1, 0, none⟩ (.slice (some ⟨C, 0, none⟩) n n)) := ⟨rfl, rfl, rfl⟩
  generalize w4.setCell ⟨C + 1, 0, none⟩ (.slice (some ⟨C, 0, none⟩) n n) = w5 at hE1 hE2 hE3 hE4 ⊢
  replace HF : F21 (Sb, J) w Bs (Bs + 1) s cnt w5 := ⟨⟨HF.keep.kin.trans hE4, by have := HF.keep.size; omega, fun b hb _ => (hE1 b (by omega)).trans (HF.keep.keep b hb id)⟩, (hE1 Bs (by omega)).trans HF.seed, (hE1 (Bs + 1) (by omega)).trans HF.cnt, HF.sb⟩
  replace hCb : ∃ cs, w5.heap[C]? = some (.cells cs 29) ∧ cs.size = n := by
    obtain ⟨cs, e1, e2⟩ := hCb
    exact ⟨cs, (hE1 C (by omega)).trans e1, e2⟩
  clear hE1 hE4 hDb hDs
  clear w4
  have HE2 := Lib.hid hE2
  have HCb := Lib.hid hCb
  clear hE2 hCb
  try walk_nrm
  refine opsQ_nil termsQ ?_
  refine wpQ_seq termsQ ?_
  refine wpQ_region termsQ ?_
  simp only [List.size_toArray, List.length_cons, List.length_nil, Nat.reduceAdd, Nat.zero_add, List.range, List.range.loop]
  refine oq_rd rfl (by rfl) (fun w₁ hw₁ K hK => ?_)
  clear hw₁
  go_simp
  refine hK _ (fun e he => ?_) ?_
  · have hm := mem_listed he
    simp [go_sem] at hm
  clear hK K w₁
  try walk_nrm
  refine oq_rd rfl (by rfl) (fun w₁ hw₁ K hK => ?_)
  clear hw₁
  go_simp
  refine hK _ (fun e he => ?_) ?_
  · have hm := mem_listed he
    simp [go_sem] at hm
  clear hK K w₁
  try walk_nrm
  refine oq_rd rfl (by rfl) (fun w₁ hw₁ K hK => ?_)
  clear hw₁
  go_simp
  refine hK _ (fun e he => ?_) ?_
  · have hm := mem_listed he
    simp [go_sem, Instr.makeFunc] at hm
  clear hK K w₁
  try walk_nrm
  refine oq_call rfl (by rfl) rfl (by simp [Act.eval]) (cq_shared (Bs := Bs) (Bc := Bs + 1) (Bo := C + 1) (C := C) (cap := n) (cnt := cnt) (s := s) HF.seed (by simp [World.cell?, HF.cnt]) (by simp [World.cell?, HE2.out]) HCb.out hs hc (by omega) hw1 (by omega) hJ HF.sb' ?_ ?_) ?_
  · intro b hb
    simp only [List.mem_cons, List.not_mem_nil, or_false] at hb
    rcases hb with rfl | rfl | rfl | rfl
    · exact nBs
    · exact nBc
    · exact nD
    · exact nC
  · intro b hb
    simp only [List.mem_cons, List.not_mem_nil, or_false] at hb
    rcases hb with rfl | rfl | rfl <;> omega
  rintro v1 c1 w6 ⟨Wg, hWa, hWb, rfl, hk6, hcr⟩
  rw [hE3] at hWa
  have hB6 : w6.heap[C + 1]? = some (.cells #[.slice (some ⟨C, 0, none⟩) n n] 40) := hk6.some HE2.out (by omega)
  have hkw : KeepQ (fun _ => False) w w6 := (HF.keep.trans hk6).mono fun b hb x => x.elim id fun e => by omega
  clear hk6 HE2 HCb HF hE3
  clear w5
  try walk_nrm
  refine opsQ_nil termsQ ?_
  refine wpQ_seq termsQ ?_
  refine wpQ_region termsQ ?_
  simp only [List.size_toArray, List.length_cons, List.length_nil, Nat.reduceAdd, Nat.zero_add, List.range, List.range.loop]
  refine oq_rd rfl (by rfl) (fun w₁ hw₁ K hK => ?_)
  have h1 : w₁.cell? ⟨C + 1, 0, none⟩ = some (.slice (some ⟨C, 0, none⟩) n n) := by simp [World.cell?, hw₁, hB6]
  clear hw₁
  go_simp
  refine hK _ (fun e he => ?_) ?_
  · have hm := mem_listed he
    simp [go_sem, h1] at hm
    subst hm
    exact evq_cell (fun x => x.elim nD fun e => by simp only at e; omega) (lt_of_some hB6)
  clear hK K h1 w₁
  try walk_nrm
  refine oq_rd rfl (by rfl) (fun w₁ hw₁ K hK => ?_)
  clear hw₁
  go_simp
  refine hK _ (fun e he => ?_) ?_
  · have hm := mem_listed he
    simp [go_sem] at hm
  clear hK K w₁
  try walk_nrm
  refine oq_rd rfl (by rfl) (fun w₁ hw₁ K hK => ?_)
  clear hw₁
  go_simp
  refine hK _ (fun e he => ?_) ?_
  · have hm := mem_listed he
    simp [go_sem] at hm
  clear hK K w₁
  try walk_nrm
  refine opsQ_nil termsQ ?_
  refine wpQ_ret termsQ ?_
  refine ⟨rfl, _, resultsC_tmp2 (t := 8) (u := 9) (by kernel_rfl) _, Wg, by omega, hWb, rfl, hkw, ?_⟩
  obtain ⟨cs, e1, e2⟩ := hcr.blk
  have hcell : ∀ j, w6.cell? ⟨C, j, none⟩ = cs.toList[j]? := fun j => by simp [World.cell?, e1]
  have hR : Rows w6 Bs n cnt (.slice (some ⟨C, 0, none⟩) n n) (fun i => wordsV (splitS s i) cnt) cs.toList := by
    have hlt : ∀ (j : Nat) r, cs.toList[j]? = some r → j < n := fun j r hr => by have := (List.getElem?_eq_some_iff.1 hr).1; simp at this; omega
    have hrow : ∀ (j : Nat) r, cs.toList[j]? = some r → RowC w6 (Wg + 1) 2 1 r cnt (wordsV (splitS s j) cnt) := fun j r hr => by
      obtain ⟨r', k1, k2⟩ := hcr.row j (hlt j r hr)
      rw [hcell, hr] at k1
      cases k1
      exact k2
    refine ⟨⟨by simp [e2], .inr ⟨C, n, cs, rfl, by omega, e1, Nat.le_refl _, by unfold maxLen; omega, by omega, List.take_of_length_le (by simp; omega)⟩⟩, fun j r hr => (hrow j r hr).base (by omega), fun j j' r r' g hr hr' hne h1 => ?_, fun j r g hr hg => ?_⟩
    · exact hcr.sep j j' r r' g (hlt j r hr) (hlt j' r' hr') hne (by rw [hcell]; exact hr) (by rw [hcell]; exact hr') h1
    · have := ((hrow j r hr).lt hg).2
      simp only [Value.ownBlock, ne_eq, Option.some.injEq]
      omega
  refine ⟨.slice (some ⟨C, 0, none⟩) n n, cs.toList, rfl, hR, ?_⟩
  rintro g (hg | ⟨j, r, hr, hg⟩) (x | x)
  · simp only [Value.ownBlock, Option.some.injEq] at hg
    subst hg
    exact nC x
  · simp only [Value.ownBlock, Option.some.injEq] at hg
    omega
  · have := hSb _ x
    have := (hR.lt (.inr ⟨j, r, hr, hg⟩)).2
    omega
  · obtain ⟨r', k1, k2⟩ := hcr.row j (by have := (List.getElem?_eq_some_iff.1 hr).1; simp at this; omega)
    rw [hcell, hr] at k1
    cases k1
    have := (k2.lt hg).2
    omega
end
end Go.Proofs.Ytmhbjmkdekgmlaa.Sim
