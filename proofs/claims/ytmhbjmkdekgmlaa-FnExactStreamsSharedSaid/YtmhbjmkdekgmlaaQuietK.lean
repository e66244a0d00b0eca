/-
  The reference's StreamWords where it refuses, the reference's StreamsShared, the program's StreamWords; called between two crews.
  Conditions: the seed's words are uint64s; what is touched atomically alone stands below the heap's end; few goroutines.
-/
import Derived.Test.YtmhbjmkdekgmlaaQuietJ
set_option linter.unusedSimpArgs false
set_option linter.unusedVariables false
namespace Go.Proofs.Ytmhbjmkdekgmlaa.Sim
open Go Go.Conc Go.ConcN Go.RowKit
open Go.Proofs.Ytmhbjmkdekgmlaa.Seeds (Sd SdObj splitS wordsV validB cells3)

theorem Rows.base {w : World} {lo lo' n cnt : Nat} {v : Value} {X : Nat → List Value} {rs : List Value} (h : Rows w lo n cnt v X rs) (hl : lo' ≤ lo) : Rows w lo' n cnt v X rs :=
  ⟨ownsRow_base h.out hl, fun j r hr => (h.row j r hr).base hl, h.sep, h.off⟩
/-- What the reference makes. -/
def SpecRes (s : Sd) (n cnt : Nat) (c : Gh) (w : World) (v' : Value) (c' : Gh) (w' : World) : Prop :=
  c' = c ∧ KeepQ (fun _ => False) w w' ∧ ∃ v rs, v' = .tuple #[v, .bool true] ∧ Rows w' w.heap.size n cnt v (fun i => wordsV (splitS s i) cnt) rs
/-- What the program makes. -/
def ImplRes (s : Sd) (n cnt stp : Nat) (Sb : Nat → Prop) (J : Nat) (w : World) (v' : Value) (c' : Gh) (w' : World) : Prop :=
  ∃ Wg, w.heap.size ≤ Wg ∧ Wg < w'.heap.size ∧ c' = (fun b => Sb b ∨ b = Wg, J + stp) ∧ KeepQ (fun _ => False) w w' ∧
    ∃ v rs, v' = .tuple #[v, .bool true] ∧ Rows w' w.heap.size n cnt v (fun i => wordsV (splitS s i) cnt) rs ∧ ∀ g, v.ownBlock = some g ∨ RowsIn rs g → ¬ c'.1 g
theorem boxed (w : World) (s : Sd) : (w.alloc (.cells #[.int .i64 s.k, .int .u64 s.a, .int .u64 s.b] 26)).heap[w.heap.size]? = some (SdObj s) ∧ KeepQ (fun _ => False) w (w.alloc (.cells #[.int .i64 s.k, .int .u64 s.a, .int .u64 s.b] 26)) :=
  ⟨heap_alloc_new _ _, ⟨rfl, rfl, rfl⟩, by rw [World.size_alloc]; omega, fun b hb _ => Below.heap_alloc _ _ _ hb⟩

section
variable {Fin : End} {c : Gh} {w : World}
set_option maxRecDepth 100000 in
set_option maxHeartbeats 8000000 in
theorem spec_bad1 {s : Sd} {many count : Int} (hs : s.Ok) (h : (validB s && (decide ((0 : Int) ≤ count) && decide (count ≤ 256))) = false) (hSb : ∀ b, c.1 b → b < w.heap.size) :
    CQ Fin 49 #[.agg #[.int .i64 s.k, .int .u64 s.a, .int .u64 s.b], .int .i64 many, .int .i64 count] c w (NoRes c w) := by
  have hnt : Try.f49.ntmps = 33 := by kernel_rfl
  have e : (#[Value.agg #[.int .i64 s.k, .int .u64 s.a, .int .u64 s.b], .int .i64 many, .int .i64 count] ++ Array.replicate (Try.f49.ntmps - (#[Value.agg #[.int .i64 s.k, .int .u64 s.a, .int .u64 s.b], .int .i64 many, .int .i64 count] : Array Value).size) undef) = #[Value.agg #[.int .i64 s.k, .int .u64 s.a, .int .u64 s.b], .int .i64 many, .int .i64 count, undef, undef, undef, undef, undef, undef, undef, undef, undef, undef, undef, undef, undef, undef, undef, undef, undef, undef, undef, undef, undef, undef, undef, undef, undef, undef, undef, undef, undef, undef] := by
    rw [hnt]
    simp
  refine callQ_of termsQ Try.func49 (by kernel_rfl) (x := Try.f49.body.getD .skip) (by rfl) ?_
  rw [e]
  clear e hnt
  simp only [Try.f49, Option.getD_some]
  refine wpQ_seq termsQ ?_
  refine wpQ_region termsQ ?_
  simp only [List.size_toArray, List.length_cons, List.length_nil, Nat.reduceAdd, Nat.zero_add, List.range, List.range.loop]
  refine oq_al rfl (by rfl) (fun w₁ hw₁ K hK => ?_)
  go_simp
  refine hK _ _ (fun e he => ?_) ?_
  · have hm := mem_listed he
    simp [go_sem] at hm
  clear hK K hw₁ w₁
  try walk_nrm
  obtain ⟨hB0, hk0⟩ := boxed w s
  obtain ⟨B, hB⟩ : ∃ B, B = w.heap.size := ⟨_, rfl⟩
  rw [← hB] at hB0
  generalize w.alloc (Obj.cells #[.int .i64 s.k, .int .u64 s.a, .int .u64 s.b] 26) = w0 at hB0 hk0 ⊢
  rw [← hB]
  have nB : ¬ c.1 B := fun x => by have := hSb _ x; omega
  have hBa : B ≤ w.heap.size := by omega
  have hBb : w.heap.size ≤ B := by omega
  clear hB
  have hSb0 : ∀ b, c.1 b → b < w0.heap.size := fun b hb => Nat.lt_of_lt_of_le (hSb b hb) hk0.size
  refine oq_rd rfl (by rfl) (fun w₁ hw₁ K hK => ?_)
  clear hw₁
  go_simp
  refine hK _ (fun e he => ?_) ?_
  · have hm := mem_listed he
    simp [go_sem] at hm
  clear hK K w₁
  try walk_nrm
  refine oq_rd rfl (by rfl) (fun w₁ hw₁ K hK => ?_)
  clear hw₁
  go_simp
  refine hK _ (fun e he => ?_) ?_
  · have hm := mem_listed he
    simp [go_sem] at hm
  clear hK K w₁
  try walk_nrm
  refine opsQ_nil termsQ ?_
  refine wpQ_seq termsQ ?_
  refine wpQ_seq termsQ ?_
  refine wpQ_region termsQ ?_
  simp only [List.size_toArray, List.length_cons, List.length_nil, Nat.reduceAdd, Nat.zero_add, List.range, List.range.loop]
  refine oq_rd rfl (by rfl) (fun w₁ hw₁ K hK => ?_)
  clear hw₁
  go_simp
  refine hK _ (fun e he => ?_) ?_
  · have hm := mem_listed he
    simp [go_sem] at hm
  clear hK K w₁
  try walk_nrm
  refine oq_call rfl (by rfl) rfl (by simp [Act.eval]) (cq_can (s := s) (B := B) count hs hB0 hSb0 nB) ?_
  rintro v1 c1 w1 ⟨rfl, hc1, hk1⟩
  obtain rfl := hc1
  rw [h]
  replace hk1 : KeepQ (fun _ => False) w w1 := (hk0.trans hk1).mono fun b _ x => x.elim id id
  clear hk0
  try walk_nrm
  refine oq_rd rfl (by rfl) (fun w₁ hw₁ K hK => ?_)
  clear hw₁
  go_simp
  refine hK _ (fun e he => ?_) ?_
  · have hm := mem_listed he
    simp [go_sem] at hm
  clear hK K w₁
  try walk_nrm
  refine oq_rd rfl (by rfl) (fun w₁ hw₁ K hK => ?_)
  clear hw₁
  go_simp
  refine hK _ (fun e he => ?_) ?_
  · have hm := mem_listed he
    simp [go_sem] at hm
  clear hK K w₁
  try walk_nrm
  refine opsQ_unwanted termsQ rfl (by rfl) ?_
  try walk_nrm
  refine opsQ_unwanted termsQ rfl (by rfl) ?_
  try walk_nrm
  refine opsQ_unwanted termsQ rfl (by rfl) ?_
  try walk_nrm
  refine oq_rd rfl (by rfl) (fun w₁ hw₁ K hK => ?_)
  clear hw₁
  go_simp
  refine hK _ (fun e he => ?_) ?_
  · have hm := mem_listed he
    simp [go_sem] at hm
  clear hK K w₁
  try walk_nrm
  refine opsQ_nil termsQ ?_
  refine wpQ_cond termsQ (t := true) (by first | rfl | simp [Act.eval, *]) ?_
  simp only [if_true, if_false, Bool.false_eq_true, ↓reduceIte]
  refine wpQ_seq termsQ ?_
  refine wpQ_region termsQ ?_
  simp only [List.size_toArray, List.length_cons, List.length_nil, Nat.reduceAdd, Nat.zero_add, List.range, List.range.loop]
  refine oq_rd rfl (by rfl) (fun w₁ hw₁ K hK => ?_)
  clear hw₁
  go_simp
  refine hK _ (fun e he => ?_) ?_
  · have hm := mem_listed he
    simp [go_sem] at hm
  clear hK K w₁
  try walk_nrm
  refine oq_rd rfl (by rfl) (fun w₁ hw₁ K hK => ?_)
  clear hw₁
  go_simp
  refine hK _ (fun e he => ?_) ?_
  · have hm := mem_listed he
    simp [go_sem] at hm
  clear hK K w₁
  try walk_nrm
  refine opsQ_nil termsQ ?_
  refine wpQ_ret termsQ ?_
  exact ⟨rfl, _, resultsC_tmp2 (t := 6) (u := 7) (by kernel_rfl) _, rfl, rfl, hk1⟩
set_option maxRecDepth 100000 in
set_option maxHeartbeats 8000000 in
theorem spec_bad2 {s : Sd} {many count : Int} (hs : s.Ok) (h : (validB s && (decide ((0 : Int) ≤ count) && decide (count ≤ 256))) = true) (h2 : (decide ((0 : Int) ≤ many) && decide (many ≤ 16)) = false) (hSb : ∀ b, c.1 b → b < w.heap.size) :
    CQ Fin 49 #[.agg #[.int .i64 s.k, .int .u64 s.a, .int .u64 s.b], .int .i64 many, .int .i64 count] c w (NoRes c w) := by
  have hnt : Try.f49.ntmps = 33 := by kernel_rfl
  have e : (#[Value.agg #[.int .i64 s.k, .int .u64 s.a, .int .u64 s.b], .int .i64 many, .int .i64 count] ++ Array.replicate (Try.f49.ntmps - (#[Value.agg #[.int .i64 s.k, .int .u64 s.a, .int .u64 s.b], .int .i64 many, .int .i64 count] : Array Value).size) undef) = #[Value.agg #[.int .i64 s.k, .int .u64 s.a, .int .u64 s.b], .int .i64 many, .int .i64 count, undef, undef, undef, undef, undef, undef, undef, undef, undef, undef, undef, undef, undef, undef, undef, undef, undef, undef, undef, undef, undef, undef, undef, undef, undef, undef, undef, undef, undef, undef] := by
    rw [hnt]
    simp
  refine callQ_of termsQ Try.func49 (by kernel_rfl) (x := Try.f49.body.getD .skip) (by rfl) ?_
  rw [e]
  clear e hnt
  simp only [Try.f49, Option.getD_some]
  refine wpQ_seq termsQ ?_
  refine wpQ_region termsQ ?_
  simp only [List.size_toArray, List.length_cons, List.length_nil, Nat.reduceAdd, Nat.zero_add, List.range, List.range.loop]
  refine oq_al rfl (by rfl) (fun w₁ hw₁ K hK => ?_)
  go_simp
  refine hK _ _ (fun e he => ?_) ?_
  · have hm := mem_listed he
    simp [go_sem] at hm
  clear hK K hw₁ w₁
  try walk_nrm
  obtain ⟨hB0, hk0⟩ := boxed w s
  obtain ⟨B, hB⟩ : ∃ B, B = w.heap.size := ⟨_, rfl⟩
  rw [← hB] at hB0
  generalize w.alloc (Obj.cells #[.int .i64 s.k, .int .u64 s.a, .int .u64 s.b] 26) = w0 at hB0 hk0 ⊢
  rw [← hB]
  have nB : ¬ c.1 B := fun x => by have := hSb _ x; omega
  have hBa : B ≤ w.heap.size := by omega
  have hBb : w.heap.size ≤ B := by omega
  clear hB
  have hSb0 : ∀ b, c.1 b → b < w0.heap.size := fun b hb => Nat.lt_of_lt_of_le (hSb b hb) hk0.size
  refine oq_rd rfl (by rfl) (fun w₁ hw₁ K hK => ?_)
  clear hw₁
  go_simp
  refine hK _ (fun e he => ?_) ?_
  · have hm := mem_listed he
    simp [go_sem] at hm
  clear hK K w₁
  try walk_nrm
  refine oq_rd rfl (by rfl) (fun w₁ hw₁ K hK => ?_)
  clear hw₁
  go_simp
  refine hK _ (fun e he => ?_) ?_
  · have hm := mem_listed he
    simp [go_sem] at hm
  clear hK K w₁
  try walk_nrm
  refine opsQ_nil termsQ ?_
  refine wpQ_seq termsQ ?_
  refine wpQ_seq termsQ ?_
  refine wpQ_region termsQ ?_
  simp only [List.size_toArray, List.length_cons, List.length_nil, Nat.reduceAdd, Nat.zero_add, List.range, List.range.loop]
  refine oq_rd rfl (by rfl) (fun w₁ hw₁ K hK => ?_)
  clear hw₁
  go_simp
  refine hK _ (fun e he => ?_) ?_
  · have hm := mem_listed he
    simp [go_sem] at hm
  clear hK K w₁
  try walk_nrm
  refine oq_call rfl (by rfl) rfl (by simp [Act.eval]) (cq_can (s := s) (B := B) count hs hB0 hSb0 nB) ?_
  rintro v1 c1 w1 ⟨rfl, hc1, hk1⟩
  obtain rfl := hc1
  rw [h]
  replace hk1 : KeepQ (fun _ => False) w w1 := (hk0.trans hk1).mono fun b _ x => x.elim id id
  clear hk0
  try walk_nrm
  refine oq_rd rfl (by rfl) (fun w₁ hw₁ K hK => ?_)
  clear hw₁
  go_simp
  refine hK _ (fun e he => ?_) ?_
  · have hm := mem_listed he
    simp [go_sem] at hm
  clear hK K w₁
  try walk_nrm
  refine oq_rd rfl (by rfl) (fun w₁ hw₁ K hK => ?_)
  clear hw₁
  go_simp
  refine hK _ (fun e he => ?_) ?_
  · have hm := mem_listed he
    simp [go_sem] at hm
  clear hK K w₁
  try walk_nrm
  refine oq_rd rfl (by rfl) (fun w₁ hw₁ K hK => ?_)
  clear hw₁
  go_simp
  refine hK _ (fun e he => ?_) ?_
  · have hm := mem_listed he
    simp [go_sem] at hm
  clear hK K w₁
  try walk_nrm
  refine oq_call rfl (by rfl) rfl (by simp [Act.eval]) (cq_in many 0 16 (fun b hb => Nat.lt_of_lt_of_le (hSb b hb) hk1.size)) ?_
  rintro v2 c2 w2 ⟨rfl, hc2, hk2⟩
  obtain rfl := hc2
  rw [h2]
  replace hk2 : KeepQ (fun _ => False) w w2 := (hk1.trans hk2).mono fun b _ x => x.elim id id
  clear hk1
  try walk_nrm
  refine oq_rd rfl (by rfl) (fun w₁ hw₁ K hK => ?_)
  clear hw₁
  go_simp
  refine hK _ (fun e he => ?_) ?_
  · have hm := mem_listed he
    simp [go_sem] at hm
  clear hK K w₁
  try walk_nrm
  refine oq_rd rfl (by rfl) (fun w₁ hw₁ K hK => ?_)
  clear hw₁
  go_simp
  refine hK _ (fun e he => ?_) ?_
  · have hm := mem_listed he
    simp [go_sem] at hm
  clear hK K w₁
  try walk_nrm
  refine opsQ_nil termsQ ?_
  refine wpQ_cond termsQ (t := true) (by first | rfl | simp [Act.eval, *]) ?_
  simp only [if_true, if_false, Bool.false_eq_true, ↓reduceIte]
  refine wpQ_seq termsQ ?_
  refine wpQ_region termsQ ?_
  simp only [List.size_toArray, List.length_cons, List.length_nil, Nat.reduceAdd, Nat.zero_add, List.range, List.range.loop]
  refine oq_rd rfl (by rfl) (fun w₁ hw₁ K hK => ?_)
  clear hw₁
  go_simp
  refine hK _ (fun e he => ?_) ?_
  · have hm := mem_listed he
    simp [go_sem] at hm
  clear hK K w₁
  try walk_nrm
  refine oq_rd rfl (by rfl) (fun w₁ hw₁ K hK => ?_)
  clear hw₁
  go_simp
  refine hK _ (fun e he => ?_) ?_
  · have hm := mem_listed he
    simp [go_sem] at hm
  clear hK K w₁
  try walk_nrm
  refine opsQ_nil termsQ ?_
  refine wpQ_ret termsQ ?_
  exact ⟨rfl, _, resultsC_tmp2 (t := 6) (u := 7) (by kernel_rfl) _, rfl, rfl, hk2⟩
theorem cq_specBad {s : Sd} {many count : Int} (hs : s.Ok) (h : (validB s && ((decide ((0 : Int) ≤ many) && decide (many ≤ 16)) && (decide ((0 : Int) ≤ count) && decide (count ≤ 256)))) = false) (hSb : ∀ b, c.1 b → b < w.heap.size) :
    CQ Fin 49 #[.agg #[.int .i64 s.k, .int .u64 s.a, .int .u64 s.b], .int .i64 many, .int .i64 count] c w (NoRes c w) := by
  cases h1 : (validB s && (decide ((0 : Int) ≤ count) && decide (count ≤ 256))) with
  | false => exact spec_bad1 hs h1 hSb
  | true =>
    refine spec_bad2 hs h1 ?_ hSb
    rw [Bool.and_eq_true] at h1
    rw [h1.1, h1.2] at h
    simpa using h
set_option maxRecDepth 100000 in
set_option maxHeartbeats 8000000 in
theorem sh_bad0 {s : Sd} {many count work : Int} (h : (decide ((1 : Int) ≤ work) && decide (work ≤ 8)) = false) (hSb : ∀ b, c.1 b → b < w.heap.size) :
    CQ Fin 53 #[.agg #[.int .i64 s.k, .int .u64 s.a, .int .u64 s.b], .int .i64 many, .int .i64 count, .int .i64 work] c w (NoRes c w) := by
  have hnt : Try.f53.ntmps = 19 := by kernel_rfl
  have e : (#[Value.agg #[.int .i64 s.k, .int .u64 s.a, .int .u64 s.b], .int .i64 many, .int .i64 count, .int .i64 work] ++ Array.replicate (Try.f53.ntmps - (#[Value.agg #[.int .i64 s.k, .int .u64 s.a, .int .u64 s.b], .int .i64 many, .int .i64 count, .int .i64 work] : Array Value).size) undef) = #[Value.agg #[.int .i64 s.k, .int .u64 s.a, .int .u64 s.b], .int .i64 many, .int .i64 count, .int .i64 work, undef, undef, undef, undef, undef, undef, undef, undef, undef, undef, undef, undef, undef, undef, undef] := by
    rw [hnt]
    simp
  refine callQ_of termsQ Try.func53 (by kernel_rfl) (x := Try.f53.body.getD .skip) (by rfl) ?_
  rw [e]
  clear e hnt
  simp only [Try.f53, Option.getD_some]
  refine wpQ_seq termsQ ?_
  refine wpQ_region termsQ ?_
  simp only [List.size_toArray, List.length_cons, List.length_nil, Nat.reduceAdd, Nat.zero_add, List.range, List.range.loop]
  refine oq_al rfl (by rfl) (fun w₁ hw₁ K hK => ?_)
  go_simp
  refine hK _ _ (fun e he => ?_) ?_
  · have hm := mem_listed he
    simp [go_sem] at hm
  clear hK K hw₁ w₁
  try walk_nrm
  obtain ⟨hB0, hk0⟩ := boxed w s
  obtain ⟨B, hB⟩ : ∃ B, B = w.heap.size := ⟨_, rfl⟩
  rw [← hB] at hB0
  generalize w.alloc (Obj.cells #[.int .i64 s.k, .int .u64 s.a, .int .u64 s.b] 26) = w0 at hB0 hk0 ⊢
  rw [← hB]
  have nB : ¬ c.1 B := fun x => by have := hSb _ x; omega
  have hBa : B ≤ w.heap.size := by omega
  have hBb : w.heap.size ≤ B := by omega
  clear hB
  have hSb0 : ∀ b, c.1 b → b < w0.heap.size := fun b hb => Nat.lt_of_lt_of_le (hSb b hb) hk0.size
  refine oq_rd rfl (by rfl) (fun w₁ hw₁ K hK => ?_)
  clear hw₁
  go_simp
  refine hK _ (fun e he => ?_) ?_
  · have hm := mem_listed he
    simp [go_sem] at hm
  clear hK K w₁
  try walk_nrm
  refine oq_rd rfl (by rfl) (fun w₁ hw₁ K hK => ?_)
  clear hw₁
  go_simp
  refine hK _ (fun e he => ?_) ?_
  · have hm := mem_listed he
    simp [go_sem] at hm
  clear hK K w₁
  try walk_nrm
  refine opsQ_nil termsQ ?_
  refine wpQ_seq termsQ ?_
  refine wpQ_seq termsQ ?_
  refine wpQ_region termsQ ?_
  simp only [List.size_toArray, List.length_cons, List.length_nil, Nat.reduceAdd, Nat.zero_add, List.range, List.range.loop]
  refine oq_rd rfl (by rfl) (fun w₁ hw₁ K hK => ?_)
  clear hw₁
  go_simp
  refine hK _ (fun e he => ?_) ?_
  · have hm := mem_listed he
    simp [go_sem] at hm
  clear hK K w₁
  try walk_nrm
  refine oq_call rfl (by rfl) rfl (by simp [Act.eval]) (cq_in work 1 8 hSb0) ?_
  rintro v1 c1 w1 ⟨rfl, hc1, hk1⟩
  obtain rfl := hc1
  rw [h]
  replace hB0 : w1.heap[B]? = some (SdObj s) := hk1.some hB0 id
  replace hk1 : KeepQ (fun _ => False) w w1 := (hk0.trans hk1).mono fun b _ x => x.elim id id
  clear hk0 hSb0
  clear w0
  have hSb1 : ∀ b, c1.1 b → b < w1.heap.size := fun b hb => Nat.lt_of_lt_of_le (hSb b hb) hk1.size
  try walk_nrm
  refine oq_rd rfl (by rfl) (fun w₁ hw₁ K hK => ?_)
  clear hw₁
  go_simp
  refine hK _ (fun e he => ?_) ?_
  · have hm := mem_listed he
    simp [go_sem] at hm
  clear hK K w₁
  try walk_nrm
  refine opsQ_nil termsQ ?_
  refine wpQ_cond termsQ (t := true) (by first | rfl | simp [Act.eval, *]) ?_
  simp only [if_true, if_false, Bool.false_eq_true, ↓reduceIte]
  refine wpQ_seq termsQ ?_
  refine wpQ_region termsQ ?_
  simp only [List.size_toArray, List.length_cons, List.length_nil, Nat.reduceAdd, Nat.zero_add, List.range, List.range.loop]
  refine oq_rd rfl (by rfl) (fun w₁ hw₁ K hK => ?_)
  clear hw₁
  go_simp
  refine hK _ (fun e he => ?_) ?_
  · have hm := mem_listed he
    simp [go_sem] at hm
  clear hK K w₁
  try walk_nrm
  refine oq_rd rfl (by rfl) (fun w₁ hw₁ K hK => ?_)
  clear hw₁
  go_simp
  refine hK _ (fun e he => ?_) ?_
  · have hm := mem_listed he
    simp [go_sem] at hm
  clear hK K w₁
  try walk_nrm
  refine opsQ_nil termsQ ?_
  refine wpQ_ret termsQ ?_
  exact ⟨rfl, _, resultsC_tmp2 (t := 8) (u := 9) (by kernel_rfl) _, rfl, rfl, hk1⟩
set_option maxRecDepth 100000 in
set_option maxHeartbeats 8000000 in
theorem sh_bad1 {s : Sd} {many count work : Int} (hs : s.Ok) (h : (decide ((1 : Int) ≤ work) && decide (work ≤ 8)) = true) (h2 : (validB s && ((decide ((0 : Int) ≤ many) && decide (many ≤ 16)) && (decide ((0 : Int) ≤ count) && decide (count ≤ 256)))) = false) (hSb : ∀ b, c.1 b → b < w.heap.size) :
    CQ Fin 53 #[.agg #[.int .i64 s.k, .int .u64 s.a, .int .u64 s.b], .int .i64 many, .int .i64 count, .int .i64 work] c w (NoRes c w) := by
  have hnt : Try.f53.ntmps = 19 := by kernel_rfl
  have e : (#[Value.agg #[.int .i64 s.k, .int .u64 s.a, .int .u64 s.b], .int .i64 many, .int .i64 count, .int .i64 work] ++ Array.replicate (Try.f53.ntmps - (#[Value.agg #[.int .i64 s.k, .int .u64 s.a, .int .u64 s.b], .int .i64 many, .int .i64 count, .int .i64 work] : Array Value).size) undef) = #[Value.agg #[.int .i64 s.k, .int .u64 s.a, .int .u64 s.b], .int .i64 many, .int .i64 count, .int .i64 work, undef, undef, undef, undef, undef, undef, undef, undef, undef, undef, undef, undef, undef, undef, undef] := by
    rw [hnt]
    simp
  refine callQ_of termsQ Try.func53 (by kernel_rfl) (x := Try.f53.body.getD .skip) (by rfl) ?_
  rw [e]
  clear e hnt
  simp only [Try.f53, Option.getD_some]
  refine wpQ_seq termsQ ?_
  refine wpQ_region termsQ ?_
  simp only [List.size_toArray, List.length_cons, List.length_nil, Nat.reduceAdd, Nat.zero_add, List.range, List.range.loop]
  refine oq_al rfl (by rfl) (fun w₁ hw₁ K hK => ?_)
  go_simp
  refine hK _ _ (fun e he => ?_) ?_
  · have hm := mem_listed he
    simp [go_sem] at hm
  clear hK K hw₁ w₁
  try walk_nrm
  obtain ⟨hB0, hk0⟩ := boxed w s
  obtain ⟨B, hB⟩ : ∃ B, B = w.heap.size := ⟨_, rfl⟩
  rw [← hB] at hB0
  generalize w.alloc (Obj.cells #[.int .i64 s.k, .int .u64 s.a, .int .u64 s.b] 26) = w0 at hB0 hk0 ⊢
  rw [← hB]
  have nB : ¬ c.1 B := fun x => by have := hSb _ x; omega
  have hBa : B ≤ w.heap.size := by omega
  have hBb : w.heap.size ≤ B := by omega
  clear hB
  have hSb0 : ∀ b, c.1 b → b < w0.heap.size := fun b hb => Nat.lt_of_lt_of_le (hSb b hb) hk0.size
  refine oq_rd rfl (by rfl) (fun w₁ hw₁ K hK => ?_)
  clear hw₁
  go_simp
  refine hK _ (fun e he => ?_) ?_
  · have hm := mem_listed he
    simp [go_sem] at hm
  clear hK K w₁
  try walk_nrm
  refine oq_rd rfl (by rfl) (fun w₁ hw₁ K hK => ?_)
  clear hw₁
  go_simp
  refine hK _ (fun e he => ?_) ?_
  · have hm := mem_listed he
    simp [go_sem] at hm
  clear hK K w₁
  try walk_nrm
  refine opsQ_nil termsQ ?_
  refine wpQ_seq termsQ ?_
  refine wpQ_seq termsQ ?_
  refine wpQ_region termsQ ?_
  simp only [List.size_toArray, List.length_cons, List.length_nil, Nat.reduceAdd, Nat.zero_add, List.range, List.range.loop]
  refine oq_rd rfl (by rfl) (fun w₁ hw₁ K hK => ?_)
  clear hw₁
  go_simp
  refine hK _ (fun e he => ?_) ?_
  · have hm := mem_listed he
    simp [go_sem] at hm
  clear hK K w₁
  try walk_nrm
  refine oq_call rfl (by rfl) rfl (by simp [Act.eval]) (cq_in work 1 8 hSb0) ?_
  rintro v1 c1 w1 ⟨rfl, hc1, hk1⟩
  obtain rfl := hc1
  rw [h]
  replace hB0 : w1.heap[B]? = some (SdObj s) := hk1.some hB0 id
  replace hk1 : KeepQ (fun _ => False) w w1 := (hk0.trans hk1).mono fun b _ x => x.elim id id
  clear hk0 hSb0
  clear w0
  have hSb1 : ∀ b, c1.1 b → b < w1.heap.size := fun b hb => Nat.lt_of_lt_of_le (hSb b hb) hk1.size
  try walk_nrm
  refine oq_rd rfl (by rfl) (fun w₁ hw₁ K hK => ?_)
  clear hw₁
  go_simp
  refine hK _ (fun e he => ?_) ?_
  · have hm := mem_listed he
    simp [go_sem] at hm
  clear hK K w₁
  try walk_nrm
  refine opsQ_nil termsQ ?_
  refine wpQ_cond termsQ (t := false) (by first | rfl | simp [Act.eval, *]) ?_
  simp only [if_true, if_false, Bool.false_eq_true, ↓reduceIte]
  refine wpQ_skip termsQ ?_
  refine wpQ_seq termsQ ?_
  refine wpQ_region termsQ ?_
  simp only [List.size_toArray, List.length_cons, List.length_nil, Nat.reduceAdd, Nat.zero_add, List.range, List.range.loop]
  refine oq_rd rfl (by rfl) (fun w₁ hw₁ K hK => ?_)
  obtain ⟨d0, d1, d2, -⟩ := cells3 (w := w₁) (B := B) (s := s) (by rw [hw₁]; exact hB0)
  clear hw₁
  go_simp
  refine hK _ (fun e he => ?_) ?_
  · have hm := mem_listed he
    simp [go_sem, d0, d1, d2] at hm
    rcases hm with rfl | rfl | rfl <;> exact evq_cell nB (lt_of_some hB0)
  clear hK K d0 d1 d2 w₁
  try walk_nrm
  refine oq_rd rfl (by rfl) (fun w₁ hw₁ K hK => ?_)
  clear hw₁
  go_simp
  refine hK _ (fun e he => ?_) ?_
  · have hm := mem_listed he
    simp [go_sem] at hm
  clear hK K w₁
  try walk_nrm
  refine oq_rd rfl (by rfl) (fun w₁ hw₁ K hK => ?_)
  clear hw₁
  go_simp
  refine hK _ (fun e he => ?_) ?_
  · have hm := mem_listed he
    simp [go_sem] at hm
  clear hK K w₁
  try walk_nrm
  refine oq_call rfl (by rfl) rfl (by simp [Act.eval]) (cq_specBad hs h2 hSb1) ?_
  rintro v2 c2 w2 ⟨rfl, hc2, hk2⟩
  obtain rfl := hc2
  try walk_nrm
  refine oq_rd rfl (by rfl) (fun w₁ hw₁ K hK => ?_)
  clear hw₁
  go_simp
  refine hK _ (fun e he => ?_) ?_
  · have hm := mem_listed he
    simp [go_sem] at hm
  clear hK K w₁
  try walk_nrm
  refine oq_rd rfl (by rfl) (fun w₁ hw₁ K hK => ?_)
  clear hw₁
  go_simp
  refine hK _ (fun e he => ?_) ?_
  · have hm := mem_listed he
    simp [go_sem] at hm
  clear hK K w₁
  try walk_nrm
  refine oq_rd rfl (by rfl) (fun w₁ hw₁ K hK => ?_)
  clear hw₁
  go_simp
  refine hK _ (fun e he => ?_) ?_
  · have hm := mem_listed he
    simp [go_sem] at hm
  clear hK K w₁
  try walk_nrm
  refine oq_rd rfl (by rfl) (fun w₁ hw₁ K hK => ?_)
  clear hw₁
  go_simp
  refine hK _ (fun e he => ?_) ?_
  · have hm := mem_listed he
    simp [go_sem] at hm
  clear hK K w₁
  try walk_nrm
  refine opsQ_nil termsQ ?_
  refine wpQ_ret termsQ ?_
  exact ⟨rfl, _, resultsC_tmp2 (t := 8) (u := 9) (by kernel_rfl) _, rfl, rfl, (hk1.trans hk2).mono fun b _ x => x.elim id id⟩
set_option maxRecDepth 100000 in
set_option maxHeartbeats 8000000 in
theorem sh_good {s : Sd} {n cnt stp : Nat} (hs : s.Ok) (hv : validB s = true) (hn : n ≤ 16) (hc : cnt ≤ 256) (hw1 : 1 ≤ stp) (hw2 : stp ≤ 8) (hSb : ∀ b, c.1 b → b < w.heap.size) :
    CQ Fin 53 #[.agg #[.int .i64 s.k, .int .u64 s.a, .int .u64 s.b], .int .i64 n, .int .i64 cnt, .int .i64 stp] c w (SpecRes s n cnt c w) := by
  have h : (decide ((1 : Int) ≤ stp) && decide ((stp : Int) ≤ 8)) = true := by simp; omega
  have hnt : Try.f53.ntmps = 19 := by kernel_rfl
  have e : (#[Value.agg #[.int .i64 s.k, .int .u64 s.a, .int .u64 s.b], .int .i64 n, .int .i64 cnt, .int .i64 stp] ++ Array.replicate (Try.f53.ntmps - (#[Value.agg #[.int .i64 s.k, .int .u64 s.a, .int .u64 s.b], .int .i64 n, .int .i64 cnt, .int .i64 stp] : Array Value).size) undef) = #[Value.agg #[.int .i64 s.k, .int .u64 s.a, .int .u64 s.b], .int .i64 n, .int .i64 cnt, .int .i64 stp, undef, undef, undef, undef, undef, undef, undef, undef, undef, undef, undef, undef, undef, undef, undef] := by
    rw [hnt]
    simp
  refine callQ_of termsQ Try.func53 (by kernel_rfl) (x := Try.f53.body.getD .skip) (by rfl) ?_
  rw [e]
  clear e hnt
  simp only [Try.f53, Option.getD_some]
  refine wpQ_seq termsQ ?_
  refine wpQ_region termsQ ?_
  simp only [List.size_toArray, List.length_cons, List.length_nil, Nat.reduceAdd, Nat.zero_add, List.range, List.range.loop]
  refine oq_al rfl (by rfl) (fun w₁ hw₁ K hK => ?_)
  go_simp
  refine hK _ _ (fun e he => ?_) ?_
  · have hm := mem_listed he
    simp [go_sem] at hm
  clear hK K hw₁ w₁
  try walk_nrm
  obtain ⟨hB0, hk0⟩ := boxed w s
  obtain ⟨B, hB⟩ : ∃ B, B = w.heap.size := ⟨_, rfl⟩
  rw [← hB] at hB0
  generalize w.alloc (Obj.cells #[.int .i64 s.k, .int .u64 s.a, .int .u64 s.b] 26) = w0 at hB0 hk0 ⊢
  rw [← hB]
  have nB : ¬ c.1 B := fun x => by have := hSb _ x; omega
  have hBa : B ≤ w.heap.size := by omega
  have hBb : w.heap.size ≤ B := by omega
  clear hB
  have hSb0 : ∀ b, c.1 b → b < w0.heap.size := fun b hb => Nat.lt_of_lt_of_le (hSb b hb) hk0.size
  refine oq_rd rfl (by rfl) (fun w₁ hw₁ K hK => ?_)
  clear hw₁
  go_simp
  refine hK _ (fun e he => ?_) ?_
  · have hm := mem_listed he
    simp [go_sem] at hm
  clear hK K w₁
  try walk_nrm
  refine oq_rd rfl (by rfl) (fun w₁ hw₁ K hK => ?_)
  clear hw₁
  go_simp
  refine hK _ (fun e he => ?_) ?_
  · have hm := mem_listed he
    simp [go_sem] at hm
  clear hK K w₁
  try walk_nrm
  refine opsQ_nil termsQ ?_
  refine wpQ_seq termsQ ?_
  refine wpQ_seq termsQ ?_
  refine wpQ_region termsQ ?_
  simp only [List.size_toArray, List.length_cons, List.length_nil, Nat.reduceAdd, Nat.zero_add, List.range, List.range.loop]
  refine oq_rd rfl (by rfl) (fun w₁ hw₁ K hK => ?_)
  clear hw₁
  go_simp
  refine hK _ (fun e he => ?_) ?_
  · have hm := mem_listed he
    simp [go_sem] at hm
  clear hK K w₁
  try walk_nrm
  refine oq_call rfl (by rfl) rfl (by simp [Act.eval]) (cq_in stp 1 8 hSb0) ?_
  rintro v1 c1 w1 ⟨rfl, hc1, hk1⟩
  obtain rfl := hc1
  rw [h]
  replace hB0 : w1.heap[B]? = some (SdObj s) := hk1.some hB0 id
  replace hk1 : KeepQ (fun _ => False) w w1 := (hk0.trans hk1).mono fun b _ x => x.elim id id
  clear hk0 hSb0
  clear w0
  have hSb1 : ∀ b, c1.1 b → b < w1.heap.size := fun b hb => Nat.lt_of_lt_of_le (hSb b hb) hk1.size
  try walk_nrm
  refine oq_rd rfl (by rfl) (fun w₁ hw₁ K hK => ?_)
  clear hw₁
  go_simp
  refine hK _ (fun e he => ?_) ?_
  · have hm := mem_listed he
    simp [go_sem] at hm
  clear hK K w₁
  try walk_nrm
  refine opsQ_nil termsQ ?_
  refine wpQ_cond termsQ (t := false) (by first | rfl | simp [Act.eval, *]) ?_
  simp only [if_true, if_false, Bool.false_eq_true, ↓reduceIte]
  refine wpQ_skip termsQ ?_
  refine wpQ_seq termsQ ?_
  refine wpQ_region termsQ ?_
  simp only [List.size_toArray, List.length_cons, List.length_nil, Nat.reduceAdd, Nat.zero_add, List.range, List.range.loop]
  refine oq_rd rfl (by rfl) (fun w₁ hw₁ K hK => ?_)
  obtain ⟨d0, d1, d2, -⟩ := cells3 (w := w₁) (B := B) (s := s) (by rw [hw₁]; exact hB0)
  clear hw₁
  go_simp
  refine hK _ (fun e he => ?_) ?_
  · have hm := mem_listed he
    simp [go_sem, d0, d1, d2] at hm
    rcases hm with rfl | rfl | rfl <;> exact evq_cell nB (lt_of_some hB0)
  clear hK K d0 d1 d2 w₁
  try walk_nrm
  refine oq_rd rfl (by rfl) (fun w₁ hw₁ K hK => ?_)
  clear hw₁
  go_simp
  refine hK _ (fun e he => ?_) ?_
  · have hm := mem_listed he
    simp [go_sem] at hm
  clear hK K w₁
  try walk_nrm
  refine oq_rd rfl (by rfl) (fun w₁ hw₁ K hK => ?_)
  clear hw₁
  go_simp
  refine hK _ (fun e he => ?_) ?_
  · have hm := mem_listed he
    simp [go_sem] at hm
  clear hK K w₁
  try walk_nrm
  refine oq_call rfl (by rfl) rfl (by simp [Act.eval]) (cq_specGood hs hv hn hc hSb1) ?_
  rintro v2 c2 w2 ⟨hc2, hk2, v, rs, rfl, hR⟩
  obtain rfl := hc2
  try walk_nrm
  refine oq_rd rfl (by rfl) (fun w₁ hw₁ K hK => ?_)
  clear hw₁
  go_simp
  refine hK _ (fun e he => ?_) ?_
  · have hm := mem_listed he
    simp [go_sem] at hm
  clear hK K w₁
  try walk_nrm
  refine oq_rd rfl (by rfl) (fun w₁ hw₁ K hK => ?_)
  clear hw₁
  go_simp
  refine hK _ (fun e he => ?_) ?_
  · have hm := mem_listed he
    simp [go_sem] at hm
  clear hK K w₁
  try walk_nrm
  refine oq_rd rfl (by rfl) (fun w₁ hw₁ K hK => ?_)
  clear hw₁
  go_simp
  refine hK _ (fun e he => ?_) ?_
  · have hm := mem_listed he
    simp [go_sem] at hm
  clear hK K w₁
  try walk_nrm
  refine oq_rd rfl (by rfl) (fun w₁ hw₁ K hK => ?_)
  clear hw₁
  go_simp
  refine hK _ (fun e he => ?_) ?_
  · have hm := mem_listed he
    simp [go_sem] at hm
  clear hK K w₁
  try walk_nrm
  refine opsQ_nil termsQ ?_
  refine wpQ_ret termsQ ?_
  exact ⟨rfl, _, resultsC_tmp2 (t := 8) (u := 9) (by kernel_rfl) _, rfl, (hk1.trans hk2).mono fun b _ x => x.elim id id, v, rs, rfl, hR.base (by have := hk1.size; omega)⟩
set_option maxRecDepth 100000 in
set_option maxHeartbeats 8000000 in
theorem words_bad {s : Sd} {many count : Int} (hs : s.Ok) (h : (validB s && ((decide ((0 : Int) ≤ many) && decide (many ≤ 16)) && (decide ((0 : Int) ≤ count) && decide (count ≤ 256)))) = false) (hSb : ∀ b, c.1 b → b < w.heap.size) :
    CQ Fin 20 #[.agg #[.int .i64 s.k, .int .u64 s.a, .int .u64 s.b], .int .i64 many, .int .i64 count] c w (NoRes c w) := by
  have hnt : Try.f20.ntmps = 14 := by kernel_rfl
  have e : (#[Value.agg #[.int .i64 s.k, .int .u64 s.a, .int .u64 s.b], .int .i64 many, .int .i64 count] ++ Array.replicate (Try.f20.ntmps - (#[Value.agg #[.int .i64 s.k, .int .u64 s.a, .int .u64 s.b], .int .i64 many, .int .i64 count] : Array Value).size) undef) = #[Value.agg #[.int .i64 s.k, .int .u64 s.a, .int .u64 s.b], .int .i64 many, .int .i64 count, undef, undef, undef, undef, undef, undef, undef, undef, undef, undef, undef] := by
    rw [hnt]
    simp
  refine callQ_of termsQ Try.func20 (by kernel_rfl) (x := Try.f20.body.getD .skip) (by rfl) ?_
  rw [e]
  clear e hnt
  simp only [Try.f20, Option.getD_some]
  refine wpQ_seq termsQ ?_
  refine wpQ_region termsQ ?_
  simp only [List.size_toArray, List.length_cons, List.length_nil, Nat.reduceAdd, Nat.zero_add, List.range, List.range.loop]
  refine oq_al rfl (by rfl) (fun w₁ hw₁ K hK => ?_)
  go_simp
  refine hK _ _ (fun e he => ?_) ?_
  · have hm := mem_listed he
    simp [go_sem] at hm
  clear hK K hw₁ w₁
  try walk_nrm
  obtain ⟨hB0, hk0⟩ := boxed w s
  obtain ⟨B, hB⟩ : ∃ B, B = w.heap.size := ⟨_, rfl⟩
  rw [← hB] at hB0
  generalize w.alloc (Obj.cells #[.int .i64 s.k, .int .u64 s.a, .int .u64 s.b] 26) = w0 at hB0 hk0 ⊢
  rw [← hB]
  have nB : ¬ c.1 B := fun x => by have := hSb _ x; omega
  have hBa : B ≤ w.heap.size := by omega
  have hBb : w.heap.size ≤ B := by omega
  clear hB
  have hSb0 : ∀ b, c.1 b → b < w0.heap.size := fun b hb => Nat.lt_of_lt_of_le (hSb b hb) hk0.size
  refine oq_rd rfl (by rfl) (fun w₁ hw₁ K hK => ?_)
  clear hw₁
  go_simp
  refine hK _ (fun e he => ?_) ?_
  · have hm := mem_listed he
    simp [go_sem] at hm
  clear hK K w₁
  try walk_nrm
  refine oq_rd rfl (by rfl) (fun w₁ hw₁ K hK => ?_)
  clear hw₁
  go_simp
  refine hK _ (fun e he => ?_) ?_
  · have hm := mem_listed he
    simp [go_sem] at hm
  clear hK K w₁
  try walk_nrm
  refine opsQ_nil termsQ ?_
  refine wpQ_seq termsQ ?_
  refine wpQ_region termsQ ?_
  simp only [List.size_toArray, List.length_cons, List.length_nil, Nat.reduceAdd, Nat.zero_add, List.range, List.range.loop]
  refine oq_rd rfl (by rfl) (fun w₁ hw₁ K hK => ?_)
  obtain ⟨d0, d1, d2, -⟩ := cells3 (w := w₁) (B := B) (s := s) (by rw [hw₁]; exact hB0)
  clear hw₁
  go_simp
  refine hK _ (fun e he => ?_) ?_
  · have hm := mem_listed he
    simp [go_sem, d0, d1, d2] at hm
    rcases hm with rfl | rfl | rfl <;> exact evq_cell nB (lt_of_some hB0)
  clear hK K d0 d1 d2 w₁
  try walk_nrm
  refine oq_rd rfl (by rfl) (fun w₁ hw₁ K hK => ?_)
  clear hw₁
  go_simp
  refine hK _ (fun e he => ?_) ?_
  · have hm := mem_listed he
    simp [go_sem] at hm
  clear hK K w₁
  try walk_nrm
  refine oq_rd rfl (by rfl) (fun w₁ hw₁ K hK => ?_)
  clear hw₁
  go_simp
  refine hK _ (fun e he => ?_) ?_
  · have hm := mem_listed he
    simp [go_sem] at hm
  clear hK K w₁
  try walk_nrm
  have h2 : (validB s && ((decide ((0 : Int) ≤ many) && decide (many ≤ 16)) && ((decide ((0 : Int) ≤ count) && decide (count ≤ 256)) && (decide ((1 : Int) ≤ 1) && decide ((1 : Int) ≤ 8))))) = false := by
    simpa using h
  refine oq_call rfl (by rfl) rfl (by simp [Act.eval]) (cq_streamsBad hs h2 hSb0) ?_
  rintro v2 c2 w2 ⟨rfl, hc2, hk2⟩
  obtain rfl := hc2
  try walk_nrm
  refine oq_rd rfl (by rfl) (fun w₁ hw₁ K hK => ?_)
  clear hw₁
  go_simp
  refine hK _ (fun e he => ?_) ?_
  · have hm := mem_listed he
    simp [go_sem] at hm
  clear hK K w₁
  try walk_nrm
  refine oq_rd rfl (by rfl) (fun w₁ hw₁ K hK => ?_)
  clear hw₁
  go_simp
  refine hK _ (fun e he => ?_) ?_
  · have hm := mem_listed he
    simp [go_sem] at hm
  clear hK K w₁
  try walk_nrm
  refine oq_rd rfl (by rfl) (fun w₁ hw₁ K hK => ?_)
  clear hw₁
  go_simp
  refine hK _ (fun e he => ?_) ?_
  · have hm := mem_listed he
    simp [go_sem] at hm
  clear hK K w₁
  try walk_nrm
  refine oq_rd rfl (by rfl) (fun w₁ hw₁ K hK => ?_)
  clear hw₁
  go_simp
  refine hK _ (fun e he => ?_) ?_
  · have hm := mem_listed he
    simp [go_sem] at hm
  clear hK K w₁
  try walk_nrm
  refine opsQ_nil termsQ ?_
  refine wpQ_ret termsQ ?_
  exact ⟨rfl, _, resultsC_tmp2 (t := 6) (u := 7) (by kernel_rfl) _, rfl, rfl, (hk0.trans hk2).mono fun b _ x => x.elim id id⟩
set_option maxRecDepth 100000 in
set_option maxHeartbeats 8000000 in
theorem words_good {Sb : Nat → Prop} {J : Nat} {s : Sd} {n cnt : Nat} (hs : s.Ok) (hv : validB s = true) (hn : n ≤ 16) (hc : cnt ≤ 256) (hJ : J + 1 < 2147483648) (hSb : ∀ b, Sb b → b < w.heap.size) :
    CQ Fin 20 #[.agg #[.int .i64 s.k, .int .u64 s.a, .int .u64 s.b], .int .i64 n, .int .i64 cnt] (Sb, J) w (ImplRes s n cnt 1 Sb J w) := by
  have hnt : Try.f20.ntmps = 14 := by kernel_rfl
  have e : (#[Value.agg #[.int .i64 s.k, .int .u64 s.a, .int .u64 s.b], .int .i64 n, .int .i64 cnt] ++ Array.replicate (Try.f20.ntmps - (#[Value.agg #[.int .i64 s.k, .int .u64 s.a, .int .u64 s.b], .int .i64 n, .int .i64 cnt] : Array Value).size) undef) = #[Value.agg #[.int .i64 s.k, .int .u64 s.a, .int .u64 s.b], .int .i64 n, .int .i64 cnt, undef, undef, undef, undef, undef, undef, undef, undef, undef, undef, undef] := by
    rw [hnt]
    simp
  refine callQ_of termsQ Try.func20 (by kernel_rfl) (x := Try.f20.body.getD .skip) (by rfl) ?_
  rw [e]
  clear e hnt
  simp only [Try.f20, Option.getD_some]
  refine wpQ_seq termsQ ?_
  refine wpQ_region termsQ ?_
  simp only [List.size_toArray, List.length_cons, List.length_nil, Nat.reduceAdd, Nat.zero_add, List.range, List.range.loop]
  refine oq_al rfl (by rfl) (fun w₁ hw₁ K hK => ?_)
  go_simp
  refine hK _ _ (fun e he => ?_) ?_
  · have hm := mem_listed he
    simp [go_sem] at hm
  clear hK K hw₁ w₁
  try walk_nrm
  obtain ⟨hB0, hk0⟩ := boxed w s
  obtain ⟨B, hB⟩ : ∃ B, B = w.heap.size := ⟨_, rfl⟩
  rw [← hB] at hB0
  generalize w.alloc (Obj.cells #[.int .i64 s.k, .int .u64 s.a, .int .u64 s.b] 26) = w0 at hB0 hk0 ⊢
  rw [← hB]
  have nB : ¬ Sb B := fun x => by have := hSb _ x; omega
  have hBa : B ≤ w.heap.size := by omega
  have hBb : w.heap.size ≤ B := by omega
  clear hB
  have hSb0 : ∀ b, Sb b → b < w0.heap.size := fun b hb => Nat.lt_of_lt_of_le (hSb b hb) hk0.size
  refine oq_rd rfl (by rfl) (fun w₁ hw₁ K hK => ?_)
  clear hw₁
  go_simp
  refine hK _ (fun e he => ?_) ?_
  · have hm := mem_listed he
    simp [go_sem] at hm
  clear hK K w₁
  try walk_nrm
  refine oq_rd rfl (by rfl) (fun w₁ hw₁ K hK => ?_)
  clear hw₁
  go_simp
  refine hK _ (fun e he => ?_) ?_
  · have hm := mem_listed he
    simp [go_sem] at hm
  clear hK K w₁
  try walk_nrm
  refine opsQ_nil termsQ ?_
  refine wpQ_seq termsQ ?_
  refine wpQ_region termsQ ?_
  simp only [List.size_toArray, List.length_cons, List.length_nil, Nat.reduceAdd, Nat.zero_add, List.range, List.range.loop]
  refine oq_rd rfl (by rfl) (fun w₁ hw₁ K hK => ?_)
  obtain ⟨d0, d1, d2, -⟩ := cells3 (w := w₁) (B := B) (s := s) (by rw [hw₁]; exact hB0)
  clear hw₁
  go_simp
  refine hK _ (fun e he => ?_) ?_
  · have hm := mem_listed he
    simp [go_sem, d0, d1, d2] at hm
    rcases hm with rfl | rfl | rfl <;> exact evq_cell nB (lt_of_some hB0)
  clear hK K d0 d1 d2 w₁
  try walk_nrm
  refine oq_rd rfl (by rfl) (fun w₁ hw₁ K hK => ?_)
  clear hw₁
  go_simp
  refine hK _ (fun e he => ?_) ?_
  · have hm := mem_listed he
    simp [go_sem] at hm
  clear hK K w₁
  try walk_nrm
  refine oq_rd rfl (by rfl) (fun w₁ hw₁ K hK => ?_)
  clear hw₁
  go_simp
  refine hK _ (fun e he => ?_) ?_
  · have hm := mem_listed he
    simp [go_sem] at hm
  clear hK K w₁
  try walk_nrm
  refine oq_call rfl (by rfl) rfl (by simp [Act.eval]) (cq_streamsGood (stp := 1) hs hv hn hc (by omega) (by omega) hJ hSb0) ?_
  rintro v2 c2 w2 ⟨Wg, hWa, hWb, hc2, hk2, v, rs, rfl, hR, hno⟩
  try walk_nrm
  refine oq_rd rfl (by rfl) (fun w₁ hw₁ K hK => ?_)
  clear hw₁
  go_simp
  refine hK _ (fun e he => ?_) ?_
  · have hm := mem_listed he
    simp [go_sem] at hm
  clear hK K w₁
  try walk_nrm
  refine oq_rd rfl (by rfl) (fun w₁ hw₁ K hK => ?_)
  clear hw₁
  go_simp
  refine hK _ (fun e he => ?_) ?_
  · have hm := mem_listed he
    simp [go_sem] at hm
  clear hK K w₁
  try walk_nrm
  refine oq_rd rfl (by rfl) (fun w₁ hw₁ K hK => ?_)
  clear hw₁
  go_simp
  refine hK _ (fun e he => ?_) ?_
  · have hm := mem_listed he
    simp [go_sem] at hm
  clear hK K w₁
  try walk_nrm
  refine oq_rd rfl (by rfl) (fun w₁ hw₁ K hK => ?_)
  clear hw₁
  go_simp
  refine hK _ (fun e he => ?_) ?_
  · have hm := mem_listed he
    simp [go_sem] at hm
  clear hK K w₁
  try walk_nrm
  refine opsQ_nil termsQ ?_
  refine wpQ_ret termsQ ?_
  have := hk0.size
  exact ⟨rfl, _, resultsC_tmp2 (t := 6) (u := 7) (by kernel_rfl) _, Wg, by omega, hWb, hc2, (hk0.trans hk2).mono fun b _ x => x.elim id id, v, rs, rfl, hR.base (by omega), hno⟩
end
end Go.Proofs.Ytmhbjmkdekgmlaa.Sim
