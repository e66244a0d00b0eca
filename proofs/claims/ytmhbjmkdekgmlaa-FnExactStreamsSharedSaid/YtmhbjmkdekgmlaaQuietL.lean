/-
  The laws FnExactStreamWords and FnExactStreamsShared, walked by goroutine 0: they answer true, and leave alone what was there.
  Conditions: the seed's words are uint64s; few goroutines.
-/
import Derived.Test.YtmhbjmkdekgmlaaQuietK
set_option linter.unusedSimpArgs false
set_option linter.unusedVariables false
namespace Go.Proofs.Ytmhbjmkdekgmlaa.Sim
open Go Go.Conc Go.ConcN Go.RowKit
open Go.Proofs.Ytmhbjmkdekgmlaa.Seeds (Sd SdObj splitS wordsV wordsL validB cells3 marksL)

theorem ev_neqB (x y : Bool) (w : World) : Sem.events Try.prog (binOp BinOp.neq 4 (.bool x) (.bool y)) w #[] = #[] := by
  cases x <;> cases y <;> kernel_rfl
/-- Either the arguments are let by, and these are their numbers; or they are refused. -/
def Case (s : Sd) (many count work : Int) (ok : Bool) (n cnt stp : Nat) : Prop :=
  (ok = true ∧ validB s = true ∧ many = n ∧ count = cnt ∧ work = stp ∧ n ≤ 16 ∧ cnt ≤ 256 ∧ 1 ≤ stp ∧ stp ≤ 8) ∨
  (ok = false ∧ n = 0 ∧ cnt = 0 ∧ (validB s && ((decide ((0 : Int) ≤ many) && decide (many ≤ 16)) && ((decide ((0 : Int) ≤ count) && decide (count ≤ 256)) && (decide ((1 : Int) ≤ work) && decide (work ≤ 8))))) = false)
theorem case_of (s : Sd) (many count work : Int) : ∃ ok n cnt stp, Case s many count work ok n cnt stp := by
  cases h : (validB s && ((decide ((0 : Int) ≤ many) && decide (many ≤ 16)) && ((decide ((0 : Int) ≤ count) && decide (count ≤ 256)) && (decide ((1 : Int) ≤ work) && decide (work ≤ 8))))) with
  | false => exact ⟨false, 0, 0, 0, .inr ⟨rfl, rfl, rfl, h⟩⟩
  | true =>
    simp only [Bool.and_eq_true, decide_eq_true_eq] at h
    obtain ⟨h1, ⟨h2, h3⟩, ⟨h4, h5⟩, h6, h7⟩ := h
    exact ⟨true, many.toNat, count.toNat, work.toNat, .inl ⟨rfl, h1, by omega, by omega, by omega, by omega, by omega, by omega, by omega⟩⟩
theorem Case.le {s : Sd} {many count work : Int} {ok : Bool} {n cnt stp : Nat} (h : Case s many count work ok n cnt stp) : n ≤ 16 ∧ cnt ≤ 256 := by
  rcases h with ⟨_, _, _, _, _, h1, h2, _⟩ | ⟨_, h1, h2, _⟩
  · exact ⟨h1, h2⟩
  · omega
theorem rows_nil (w : World) (lo : Nat) (X : Nat → List Value) : Rows w lo 0 0 (.slice none 0 0) X [] :=
  ⟨World.ownsRow_nil _ _ _ _, fun j r hr => by simp at hr, fun j j' r r' g hr => by simp at hr, fun j r g hr => by simp at hr⟩
/-- The reference's answer. -/
def AnsS (s : Sd) (ok : Bool) (n cnt : Nat) (c : Gh) (w : World) (v' : Value) (c' : Gh) (w' : World) : Prop :=
  c' = c ∧ KeepQ (fun _ => False) w w' ∧ ∃ v rs, v' = .tuple #[v, .bool ok] ∧ Rows w' w.heap.size n cnt v (fun i => wordsV (splitS s i) cnt) rs
/-- The program's answer. -/
def AnsI (s : Sd) (ok : Bool) (n cnt : Nat) (c : Gh) (w : World) (v' : Value) (c' : Gh) (w' : World) : Prop :=
  (∀ b, c'.1 b → c.1 b ∨ w.heap.size ≤ b) ∧ (∀ b, c'.1 b → b < w'.heap.size) ∧ c'.2 ≤ c.2 + 8 ∧ KeepQ (fun _ => False) w w' ∧
    ∃ v rs, v' = .tuple #[v, .bool ok] ∧ Rows w' w.heap.size n cnt v (fun i => wordsV (splitS s i) cnt) rs ∧ ∀ g, v.ownBlock = some g ∨ RowsIn rs g → ¬ c'.1 g

section
variable {Fin : End} {c : Gh} {w : World} {s : Sd} {many count work : Int} {ok : Bool} {n cnt stp : Nat}
theorem ansS_no {v' : Value} {c' : Gh} {w' : World} (h : NoRes c w v' c' w') : AnsS s false 0 0 c w v' c' w' := by
  obtain ⟨rfl, rfl, hk⟩ := h
  exact ⟨rfl, hk, _, _, rfl, rows_nil _ _ _⟩
theorem ansI_no {v' : Value} {c' : Gh} {w' : World} (hSb : ∀ b, c.1 b → b < w.heap.size) (h : NoRes c w v' c' w') : AnsI s false 0 0 c w v' c' w' := by
  obtain ⟨rfl, rfl, hk⟩ := h
  refine ⟨fun b => .inl, fun b hb => Nat.lt_of_lt_of_le (hSb b hb) hk.size, by omega, hk, _, _, rfl, rows_nil _ _ _, ?_⟩
  rintro g (hg | ⟨j, r, hr, _⟩)
  · simp [Value.ownBlock] at hg
  · simp at hr
theorem ansI_yes {Sb : Nat → Prop} {J : Nat} {v' : Value} {c' : Gh} {w' : World} (hs : stp ≤ 8) (hSb : ∀ b, Sb b → b < w.heap.size) (h : ImplRes s n cnt stp Sb J w v' c' w') : AnsI s true n cnt (Sb, J) w v' c' w' := by
  obtain ⟨Wg, h1, h2, rfl, hk, v, rs, rfl, hR, hn⟩ := h
  exact ⟨fun b hb => hb.imp id fun e => by omega, fun b hb => hb.elim (fun x => Nat.lt_of_lt_of_le (hSb b x) hk.size) fun e => by omega, by show J + stp ≤ J + 8; omega, hk, v, rs, rfl, hR, hn⟩
theorem cq_specS (hs : s.Ok) (hC : Case s many count work ok n cnt stp) (hSb : ∀ b, c.1 b → b < w.heap.size) : CQ Fin 53 #[.agg #[.int .i64 s.k, .int .u64 s.a, .int .u64 s.b], .int .i64 many, .int .i64 count, .int .i64 work] c w (AnsS s ok n cnt c w) := by
  rcases hC with ⟨rfl, hv, rfl, rfl, rfl, h1, h2, h3, h4⟩ | ⟨rfl, rfl, rfl, h⟩
  · exact CallQ.mono (sh_good hs hv h1 h2 h3 h4 hSb) fun v c' w' h => h
  · cases hw : (decide ((1 : Int) ≤ work) && decide (work ≤ 8)) with
    | false => exact CallQ.mono (sh_bad0 hw hSb) fun v c' w' => ansS_no
    | true =>
      rw [hw, Bool.and_true] at h
      exact CallQ.mono (sh_bad1 hs hw h hSb) fun v c' w' => ansS_no
theorem cq_specW (hs : s.Ok) (hC : Case s many count 1 ok n cnt stp) (hSb : ∀ b, c.1 b → b < w.heap.size) : CQ Fin 49 #[.agg #[.int .i64 s.k, .int .u64 s.a, .int .u64 s.b], .int .i64 many, .int .i64 count] c w (AnsS s ok n cnt c w) := by
  rcases hC with ⟨rfl, hv, rfl, rfl, _, h1, h2, _, _⟩ | ⟨rfl, rfl, rfl, h⟩
  · exact CallQ.mono (cq_specGood hs hv h1 h2 hSb) fun v c' w' ⟨a, b, v, rs, d, e⟩ => ⟨a, b, v, rs, d, e.base (by omega)⟩
  · exact CallQ.mono (cq_specBad hs (by simpa using h) hSb) fun v c' w' => ansS_no
theorem cq_implS (hs : s.Ok) (hC : Case s many count work ok n cnt stp) (hJ : c.2 + 8 < 2147483648) (hSb : ∀ b, c.1 b → b < w.heap.size) : CQ Fin 21 #[.agg #[.int .i64 s.k, .int .u64 s.a, .int .u64 s.b], .int .i64 many, .int .i64 count, .int .i64 work] c w (AnsI s ok n cnt c w) := by
  rcases hC with ⟨rfl, hv, rfl, rfl, rfl, h1, h2, h3, h4⟩ | ⟨rfl, rfl, rfl, h⟩
  · obtain ⟨Sb, J⟩ := c
    exact CallQ.mono (cq_streamsGood hs hv h1 h2 h3 h4 (by simp only at hJ; omega) hSb) fun v c' w' h => ansI_yes h4 hSb h
  · exact CallQ.mono (cq_streamsBad hs h hSb) fun v c' w' => ansI_no hSb
theorem cq_implW (hs : s.Ok) (hC : Case s many count 1 ok n cnt stp) (hJ : c.2 + 8 < 2147483648) (hSb : ∀ b, c.1 b → b < w.heap.size) : CQ Fin 20 #[.agg #[.int .i64 s.k, .int .u64 s.a, .int .u64 s.b], .int .i64 many, .int .i64 count] c w (AnsI s ok n cnt c w) := by
  rcases hC with ⟨rfl, hv, rfl, rfl, _, h1, h2, _, _⟩ | ⟨rfl, rfl, rfl, h⟩
  · obtain ⟨Sb, J⟩ := c
    exact CallQ.mono (words_good hs hv h1 h2 (by simp only at hJ; omega) hSb) fun v c' w' h => ansI_yes (by omega) hSb h
  · exact CallQ.mono (words_bad hs (by simpa using h) hSb) fun v c' w' => ansI_no hSb
end

/-- What stands while a law is walked. -/
structure St8 (c : Gh) (w0 : World) (B : Nat) (s : Sd) (w : World) (J : Nat) : Prop where
  keep : KeepQ (fun _ => False) w0 w
  box : w.heap[B]? = some (.cells #[.int .i64 s.k, .int .u64 s.a, .int .u64 s.b] 63)
  lo : w0.heap.size ≤ B
  sb : ∀ b, c.1 b → b < w.heap.size
  nB : ¬ c.1 B
  few : c.2 ≤ J
theorem St8.step {c : Gh} {w0 w w' : World} {B : Nat} {s : Sd} {J : Nat} (h : St8 c w0 B s w J) (hk : KeepQ (fun _ => False) w w') : St8 c w0 B s w' J :=
  ⟨(h.keep.trans hk).mono fun b _ x => x.elim id id, hk.some h.box id, h.lo, fun b hb => Nat.lt_of_lt_of_le (h.sb b hb) hk.size, h.nB, h.few⟩
theorem St8.lt {c : Gh} {w0 w : World} {B : Nat} {s : Sd} {J : Nat} (h : St8 c w0 B s w J) : B < w.heap.size := lt_of_some h.box
/-- Rows that nobody else holds. -/
structure Own8 (c : Gh) (B n cnt : Nat) (v : Value) (X : Nat → List Value) (rs : List Value) (w : World) : Prop where
  rows : Rows w (B + 1) n cnt v X rs
  free : ∀ g, v.ownBlock = some g ∨ RowsIn rs g → ¬ c.1 g
theorem Own8.step {c : Gh} {B n cnt : Nat} {v : Value} {X : Nat → List Value} {rs : List Value} {w w' : World} (h : Own8 c B n cnt v X rs w) (hk : KeepQ (fun _ => False) w w') : Own8 c B n cnt v X rs w' := ⟨h.rows.keep hk fun _ _ x => x, h.free⟩
theorem Own8.crew {c c' : Gh} {B n cnt : Nat} {v : Value} {X : Nat → List Value} {rs : List Value} {w w' : World} (h : Own8 c B n cnt v X rs w) (hk : KeepQ (fun _ => False) w w') (hc : ∀ b, c'.1 b → c.1 b ∨ w.heap.size ≤ b) : Own8 c' B n cnt v X rs w' :=
  ⟨h.rows.keep hk fun _ _ x => x, fun g hg x => (hc g x).elim (h.free g hg) fun y => by have := (h.rows.lt hg).1; omega⟩
set_option maxRecDepth 100000 in
set_option maxHeartbeats 8000000 in
theorem law8 {Fin : End} {c : Gh} {w : World} {s : Sd} {many count : Int} (hs : s.Ok) (hJ : c.2 = 0) (hSb : ∀ b, c.1 b → b < w.heap.size) :
    WQ Fin 8 (Try.f8.body.getD .skip) (fun e a' _ w' => e = .ret ∧ a'.defers = [] ∧ a'.tmps.getD 6 undef = .bool true ∧ KeepQ (fun _ => False) w w') ⟨#[Value.agg #[.int .i64 s.k, .int .u64 s.a, .int .u64 s.b], .int .i64 many, .int .i64 count, undef, undef, undef, undef, undef, undef, undef, undef, undef, undef, undef, undef, undef, undef, undef, undef, undef, undef, undef, undef, undef, undef, undef, undef, undef, undef, undef, undef, undef, undef, undef, undef, undef, undef, undef, undef, undef, undef, undef, undef, undef, undef, undef, undef, undef, undef, undef, undef, undef, undef, undef, undef, undef, undef, undef, undef, undef, undef, undef, undef, undef, undef, undef, undef, undef, undef, undef, undef, undef, undef, undef, undef, undef], []⟩ c w := by
  obtain ⟨ok, n, cnt, stp, hC⟩ := case_of s many count 1
  obtain ⟨hn, hcn⟩ := hC.le
  simp only [Try.f8, Option.getD_some]
  refine wpQ_seq termsQ ?_
  refine wpQ_region termsQ ?_
  simp only [List.size_toArray, List.length_cons, List.length_nil, Nat.reduceAdd, Nat.zero_add, List.range, List.range.loop]
  refine oq_al rfl (by rfl) (fun w₁ hw₁ K hK => ?_)
  go_simp
  refine hK _ _ (fun e he => ?_) ?_
  · have hm := mem_listed he
    simp [go_sem] at hm
  clear hK K hw₁ w₁
  try walk_nrm
  have HS : St8 c w w.heap.size s (w.alloc (.cells #[.int .i64 s.k, .int .u64 s.a, .int .u64 s.b] 63)) 0 := ⟨⟨⟨rfl, rfl, rfl⟩, by rw [World.size_alloc]; omega, fun b hb _ => Below.heap_alloc _ _ _ hb⟩, heap_alloc_new _ _, Nat.le_refl _, fun b hb => by rw [World.size_alloc]; have := hSb b hb; omega, fun x => by have := hSb _ x; omega, by omega⟩
  clear hSb hJ
  generalize w.alloc (Obj.cells #[.int .i64 s.k, .int .u64 s.a, .int .u64 s.b] 63) = w0 at HS ⊢
  obtain ⟨B, hB⟩ : ∃ B, B = w.heap.size := ⟨_, rfl⟩
  rw [← hB] at HS ⊢
  clear hB
  refine oq_rd rfl (by rfl) (fun w₁ hw₁ K hK => ?_)
  clear hw₁
  go_simp
  refine hK _ (fun e he => ?_) ?_
  · have hm := mem_listed he
    simp [go_sem] at hm
  clear hK K w₁
  try walk_nrm
  refine opsQ_nil termsQ ?_
  refine wpQ_seq termsQ ?_
  refine wpQ_region termsQ ?_
  simp only [List.size_toArray, List.length_cons, List.length_nil, Nat.reduceAdd, Nat.zero_add, List.range, List.range.loop]
  refine oq_rd rfl (by rfl) (fun w₁ hw₁ K hK => ?_)
  have d0 : w₁.cell? ⟨B, 0, none⟩ = some (.int .i64 s.k) := by simp [World.cell?, hw₁, HS.box]
  have d1 : w₁.cell? ⟨B, 1, none⟩ = some (.int .u64 s.a) := by simp [World.cell?, hw₁, HS.box]
  have d2 : w₁.cell? ⟨B, 2, none⟩ = some (.int .u64 s.b) := by simp [World.cell?, hw₁, HS.box]
  clear hw₁
  go_simp
  refine hK _ (fun e he => ?_) ?_
  · have hm := mem_listed he
    simp [go_sem, d0, d1, d2] at hm
    rcases hm with rfl | rfl | rfl <;> exact evq_cell HS.nB HS.lt
  clear hK K d0 d1 d2 w₁
  try walk_nrm
  refine oq_call rfl (by rfl) rfl (by simp [Act.eval, Sd.val]) (cq_toSeed s HS.sb) ?_
  rintro v1 c1 w1 ⟨rfl, hc1, hk1⟩
  obtain rfl : c1 = _ := hc1
  simp only [Sd.val]
  replace HS := HS.step hk1
  clear hk1
  try walk_nrm
  refine oq_rd rfl (by rfl) (fun w₁ hw₁ K hK => ?_)
  clear hw₁
  go_simp
  refine hK _ (fun e he => ?_) ?_
  · have hm := mem_listed he
    simp [go_sem] at hm
  clear hK K w₁
  try walk_nrm
  refine oq_rd rfl (by rfl) (fun w₁ hw₁ K hK => ?_)
  clear hw₁
  go_simp
  refine hK _ (fun e he => ?_) ?_
  · have hm := mem_listed he
    simp [go_sem] at hm
  clear hK K w₁
  try walk_nrm
  refine oq_call rfl (by rfl) rfl (by simp [Act.eval]) (cq_specW hs hC HS.sb) ?_
  rintro v2 c2 w2 ⟨hc2, hk2, vw, rw_, rfl, hR⟩
  obtain rfl : c2 = _ := hc2
  have HW : Own8 c2 B n cnt vw (fun i => wordsV (splitS s i) cnt) rw_ w2 := ⟨hR.base (by have := HS.lt; omega), fun g hg x => by have := (hR.lt hg).2; have := HS.sb _ x; omega⟩
  replace HS := HS.step hk2
  clear hk2 hR
  try walk_nrm
  refine oq_rd rfl (by rfl) (fun w₁ hw₁ K hK => ?_)
  clear hw₁
  go_simp
  refine hK _ (fun e he => ?_) ?_
  · have hm := mem_listed he
    simp [go_sem] at hm
  clear hK K w₁
  try walk_nrm
  refine oq_rd rfl (by rfl) (fun w₁ hw₁ K hK => ?_)
  clear hw₁
  go_simp
  refine hK _ (fun e he => ?_) ?_
  · have hm := mem_listed he
    simp [go_sem] at hm
  clear hK K w₁
  try walk_nrm
  refine oq_rd rfl (by rfl) (fun w₁ hw₁ K hK => ?_)
  clear hw₁
  go_simp
  refine hK _ (fun e he => ?_) ?_
  · have hm := mem_listed he
    simp [go_sem] at hm
  clear hK K w₁
  try walk_nrm
  refine oq_rd rfl (by rfl) (fun w₁ hw₁ K hK => ?_)
  clear hw₁
  go_simp
  refine hK _ (fun e he => ?_) ?_
  · have hm := mem_listed he
    simp [go_sem] at hm
  clear hK K w₁
  try walk_nrm
  refine oq_rd rfl (by rfl) (fun w₁ hw₁ K hK => ?_)
  clear hw₁
  go_simp
  refine hK _ (fun e he => ?_) ?_
  · have hm := mem_listed he
    simp [go_sem] at hm
  clear hK K w₁
  try walk_nrm
  refine opsQ_nil termsQ ?_
  refine wpQ_seq termsQ ?_
  refine wpQ_region termsQ ?_
  simp only [List.size_toArray, List.length_cons, List.length_nil, Nat.reduceAdd, Nat.zero_add, List.range, List.range.loop]
  refine oq_rd rfl (by rfl) (fun w₁ hw₁ K hK => ?_)
  have d0 : w₁.cell? ⟨B, 0, none⟩ = some (.int .i64 s.k) := by simp [World.cell?, hw₁, HS.box]
  have d1 : w₁.cell? ⟨B, 1, none⟩ = some (.int .u64 s.a) := by simp [World.cell?, hw₁, HS.box]
  have d2 : w₁.cell? ⟨B, 2, none⟩ = some (.int .u64 s.b) := by simp [World.cell?, hw₁, HS.box]
  clear hw₁
  go_simp
  refine hK _ (fun e he => ?_) ?_
  · have hm := mem_listed he
    simp [go_sem, d0, d1, d2] at hm
    rcases hm with rfl | rfl | rfl <;> exact evq_cell HS.nB HS.lt
  clear hK K d0 d1 d2 w₁
  try walk_nrm
  refine oq_call rfl (by rfl) rfl (by simp [Act.eval, Sd.val]) (cq_toSeed s HS.sb) ?_
  rintro v1 c1 w3 ⟨rfl, hc1, hk1⟩
  obtain rfl : c1 = _ := hc1
  simp only [Sd.val]
  replace HS := HS.step hk1
  replace HW := HW.step hk1
  clear hk1
  try walk_nrm
  refine oq_rd rfl (by rfl) (fun w₁ hw₁ K hK => ?_)
  clear hw₁
  go_simp
  refine hK _ (fun e he => ?_) ?_
  · have hm := mem_listed he
    simp [go_sem] at hm
  clear hK K w₁
  try walk_nrm
  refine oq_rd rfl (by rfl) (fun w₁ hw₁ K hK => ?_)
  clear hw₁
  go_simp
  refine hK _ (fun e he => ?_) ?_
  · have hm := mem_listed he
    simp [go_sem] at hm
  clear hK K w₁
  try walk_nrm
  refine oq_call rfl (by rfl) rfl (by simp [Act.eval]) (cq_implW hs hC (by have := HS.few; omega) HS.sb) ?_
  rintro v3 c3 w4 ⟨hca, hcb, hcc, hk3, vg, rg, rfl, hR, hfree⟩
  have HG : Own8 c3 B n cnt vg (fun i => wordsV (splitS s i) cnt) rg w4 := ⟨hR.base (by have := HS.lt; omega), hfree⟩
  have hdHW : ∀ g, RowsIn rg g → ¬ (vw.ownBlock = some g ∨ RowsIn rw_ g) := fun g hg hg' => by have := (hR.lt (.inr hg)).2; have := (HW.rows.lt hg').1; omega
  replace HW := HW.crew hk3 hca
  replace HS : St8 c3 w B s w4 8 := ⟨(HS.keep.trans hk3).mono fun b _ x => x.elim id id, hk3.some HS.box id, HS.lo, hcb, fun x => (hca _ x).elim HS.nB fun y => by have := HS.lt; omega, by have := HS.few; omega⟩
  clear hca hcb hcc hk3 hR hfree
  try walk_nrm
  refine oq_rd rfl (by rfl) (fun w₁ hw₁ K hK => ?_)
  clear hw₁
  go_simp
  refine hK _ (fun e he => ?_) ?_
  · have hm := mem_listed he
    simp [go_sem] at hm
  clear hK K w₁
  try walk_nrm
  refine oq_rd rfl (by rfl) (fun w₁ hw₁ K hK => ?_)
  clear hw₁
  go_simp
  refine hK _ (fun e he => ?_) ?_
  · have hm := mem_listed he
    simp [go_sem] at hm
  clear hK K w₁
  try walk_nrm
  refine oq_rd rfl (by rfl) (fun w₁ hw₁ K hK => ?_)
  clear hw₁
  go_simp
  refine hK _ (fun e he => ?_) ?_
  · have hm := mem_listed he
    simp [go_sem] at hm
  clear hK K w₁
  try walk_nrm
  refine oq_rd rfl (by rfl) (fun w₁ hw₁ K hK => ?_)
  clear hw₁
  go_simp
  refine hK _ (fun e he => ?_) ?_
  · have hm := mem_listed he
    simp [go_sem] at hm
  clear hK K w₁
  try walk_nrm
  refine oq_rd rfl (by rfl) (fun w₁ hw₁ K hK => ?_)
  clear hw₁
  go_simp
  refine hK _ (fun e he => ?_) ?_
  · have hm := mem_listed he
    simp [go_sem] at hm
  clear hK K w₁
  try walk_nrm
  refine opsQ_nil termsQ ?_
  refine wpQ_seq termsQ ?_
  refine wpQ_seq termsQ ?_
  refine wpQ_region termsQ ?_
  simp only [List.size_toArray, List.length_cons, List.length_nil, Nat.reduceAdd, Nat.zero_add, List.range, List.range.loop]
  refine oq_rd rfl (by rfl) (fun w₁ hw₁ K hK => ?_)
  clear hw₁
  go_simp
  refine hK _ (fun e he => ?_) ?_
  · have hm := mem_listed he
    simp [go_sem] at hm
  clear hK K w₁
  try walk_nrm
  refine oq_rd rfl (by rfl) (fun w₁ hw₁ K hK => ?_)
  clear hw₁
  go_simp
  refine hK _ (fun e he => ?_) ?_
  · have hm := mem_listed he
    simp [go_sem] at hm
  clear hK K w₁
  try walk_nrm
  refine oq_call rfl (by rfl) rfl (by simp [Act.eval]) (cq_eqSS (L := fun i => wordsL (splitS s i) cnt) HG.rows HW.rows (fun g hg hg' => hdHW g hg (.inr hg')) hn hcn HS.sb HG.free HW.free) ?_
  rintro v4 c4 w5 ⟨rfl, hc4, hk4⟩
  obtain rfl : c4 = _ := hc4
  replace HS := HS.step hk4
  replace HW := HW.step hk4
  replace HG := HG.step hk4
  clear hk4
  try walk_nrm
  refine oq_rd rfl (by rfl) (fun w₁ hw₁ K hK => ?_)
  clear hw₁
  go_simp
  refine hK _ (fun e he => ?_) ?_
  · have hm := mem_listed he
    simp [go_sem, ev_neqB] at hm
  clear hK K w₁
  try walk_nrm
  refine oq_rd rfl (by rfl) (fun w₁ hw₁ K hK => ?_)
  clear hw₁
  go_simp
  refine hK _ (fun e he => ?_) ?_
  · have hm := mem_listed he
    simp [go_sem, ev_neqB] at hm
  clear hK K w₁
  try walk_nrm
  refine oq_rd rfl (by rfl) (fun w₁ hw₁ K hK => ?_)
  clear hw₁
  go_simp
  refine hK _ (fun e he => ?_) ?_
  · have hm := mem_listed he
    simp [go_sem, ev_neqB] at hm
  clear hK K w₁
  try walk_nrm
  refine oq_rd rfl (by rfl) (fun w₁ hw₁ K hK => ?_)
  clear hw₁
  go_simp
  refine hK _ (fun e he => ?_) ?_
  · have hm := mem_listed he
    simp [go_sem, ev_neqB] at hm
  clear hK K w₁
  try walk_nrm
  refine oq_rd rfl (by rfl) (fun w₁ hw₁ K hK => ?_)
  clear hw₁
  go_simp
  refine hK _ (fun e he => ?_) ?_
  · have hm := mem_listed he
    simp [go_sem, ev_neqB] at hm
  clear hK K w₁
  try walk_nrm
  refine oq_rd rfl (by rfl) (fun w₁ hw₁ K hK => ?_)
  clear hw₁
  go_simp
  refine hK _ (fun e he => ?_) ?_
  · have hm := mem_listed he
    simp [go_sem, ev_neqB] at hm
  clear hK K w₁
  try walk_nrm
  refine opsQ_nil termsQ ?_
  refine wpQ_cond termsQ (t := false) (by first | rfl | simp [Act.eval, *]) ?_
  simp only [if_true, if_false, Bool.false_eq_true, ↓reduceIte]
  refine wpQ_skip termsQ ?_
  refine wpQ_seq termsQ ?_
  refine wpQ_region termsQ ?_
  simp only [List.size_toArray, List.length_cons, List.length_nil, Nat.reduceAdd, Nat.zero_add, List.range, List.range.loop]
  refine oq_rd rfl (by rfl) (fun w₁ hw₁ K hK => ?_)
  clear hw₁
  go_simp
  refine hK _ (fun e he => ?_) ?_
  · have hm := mem_listed he
    simp [go_sem] at hm
  clear hK K w₁
  try walk_nrm
  refine opsQ_nil termsQ ?_
  refine wpQ_seq termsQ ?_
  refine wpQ_region termsQ ?_
  simp only [List.size_toArray, List.length_cons, List.length_nil, Nat.reduceAdd, Nat.zero_add, List.range, List.range.loop]
  refine oq_rd rfl (by rfl) (fun w₁ hw₁ K hK => ?_)
  clear hw₁
  go_simp
  refine hK _ (fun e he => ?_) ?_
  · have hm := mem_listed he
    simp [go_sem] at hm
  clear hK K w₁
  try walk_nrm
  refine oq_rd rfl (by rfl) (fun w₁ hw₁ K hK => ?_)
  clear hw₁
  go_simp
  refine hK _ (fun e he => ?_) ?_
  · have hm := mem_listed he
    simp [go_sem] at hm
  clear hK K w₁
  try walk_nrm
  refine oq_call rfl (by rfl) rfl (by simp [Act.eval]) (cq_markSS (k := 1) HG.rows hn hcn (by omega) HS.sb HG.free) ?_
  rintro v5 c5 w6 ⟨rfl, hc5, hk5, hR5⟩
  obtain rfl : c5 = _ := hc5
  replace HS : St8 c5 w B s w6 8 := by
    have hlo : ∀ g, RowsIn rg g → B < g := fun g hg => by have := (HG.rows.lt (.inr hg)).2; omega
    exact ⟨(HS.keep.trans hk5).mono fun b hb x => x.elim id fun y => by have := hlo b y; have := HS.lo; omega, hk5.some HS.box fun y => by have := hlo _ y; omega, HS.lo, fun b hb => Nat.lt_of_lt_of_le (HS.sb b hb) hk5.size, HS.nB, HS.few⟩
  replace HW : Own8 c5 B n cnt vw (fun i => wordsV (splitS s i) cnt) rw_ w6 := ⟨HW.rows.keep hk5 fun g hg y => hdHW g y hg, HW.free⟩
  replace HG : Own8 c5 B n cnt vg (fun i => (marksL (1 + i * cnt) cnt).map (Value.int .i64)) rg w6 := ⟨hR5, HG.free⟩
  clear hk5 hR5
  have hq0 : 1 + n * cnt ≤ 4097 := by have : n * cnt ≤ 16 * 256 := Nat.mul_le_mul hn hcn; omega
  obtain ⟨q, hq⟩ : ∃ q, q = 1 + n * cnt := ⟨_, rfl⟩
  rw [← hq]
  have hqn : decide ((q : Int) < 0) = false := decide_eq_false (by omega)
  have HQ := Lib.hid hq
  clear hq0 hq
  try walk_nrm
  refine oq_rd rfl (by rfl) (fun w₁ hw₁ K hK => ?_)
  clear hw₁
  go_simp
  refine hK _ (fun e he => ?_) ?_
  · have hm := mem_listed he
    simp [go_sem] at hm
  clear hK K w₁
  try walk_nrm
  refine opsQ_nil termsQ ?_
  refine wpQ_seq termsQ ?_
  refine wpQ_region termsQ ?_
  simp only [List.size_toArray, List.length_cons, List.length_nil, Nat.reduceAdd, Nat.zero_add, List.range, List.range.loop]
  refine oq_rd rfl (by rfl) (fun w₁ hw₁ K hK => ?_)
  clear hw₁
  go_simp
  refine hK _ (fun e he => ?_) ?_
  · have hm := mem_listed he
    simp [go_sem] at hm
  clear hK K w₁
  try walk_nrm
  refine opsQ_nil termsQ ?_
  refine wpQ_seq termsQ ?_
  refine wpQ_region termsQ ?_
  simp only [List.size_toArray, List.length_cons, List.length_nil, Nat.reduceAdd, Nat.zero_add, List.range, List.range.loop]
  refine oq_rd rfl (by rfl) (fun w₁ hw₁ K hK => ?_)
  clear hw₁
  go_simp
  refine hK _ (fun e he => ?_) ?_
  · have hm := mem_listed he
    simp [go_sem] at hm
  clear hK K w₁
  try walk_nrm
  refine oq_rd rfl (by rfl) (fun w₁ hw₁ K hK => ?_)
  clear hw₁
  go_simp
  refine hK _ (fun e he => ?_) ?_
  · have hm := mem_listed he
    simp [go_sem] at hm
  clear hK K w₁
  try walk_nrm
  refine oq_call rfl (by rfl) rfl (by simp [Act.eval]) (cq_heldSS (k := 1) HG.rows hn hcn (by omega) HS.sb HG.free) ?_
  rintro v6 c6 w7 ⟨rfl, hc6, hk6⟩
  obtain rfl : c6 = _ := hc6
  rw [← HQ.out]
  replace HS := HS.step hk6
  replace HW := HW.step hk6
  replace HG := HG.step hk6
  clear hk6
  try walk_nrm
  refine oq_rd rfl (by rfl) (fun w₁ hw₁ K hK => ?_)
  clear hw₁
  go_simp
  refine hK _ (fun e he => ?_) ?_
  · have hm := mem_listed he
    simp [go_sem] at hm
  clear hK K w₁
  try walk_nrm
  refine opsQ_nil termsQ ?_
  refine wpQ_seq termsQ ?_
  refine wpQ_seq termsQ ?_
  refine wpQ_region termsQ ?_
  simp only [List.size_toArray, List.length_cons, List.length_nil, Nat.reduceAdd, Nat.zero_add, List.range, List.range.loop]
  refine oq_rd rfl (by rfl) (fun w₁ hw₁ K hK => ?_)
  clear hw₁
  go_simp
  refine hK _ (fun e he => ?_) ?_
  · have hm := mem_listed he
    simp [go_sem] at hm
  clear hK K w₁
  try walk_nrm
  refine oq_rd rfl (by rfl) (fun w₁ hw₁ K hK => ?_)
  clear hw₁
  go_simp
  refine hK _ (fun e he => ?_) ?_
  · have hm := mem_listed he
    simp [go_sem] at hm
  clear hK K w₁
  try walk_nrm
  refine opsQ_nil termsQ ?_
  refine wpQ_cond termsQ (t := false) (by first | rfl | simp [Act.eval, *]) ?_
  simp only [if_true, if_false, Bool.false_eq_true, ↓reduceIte]
  refine wpQ_skip termsQ ?_
  refine wpQ_seq termsQ ?_
  refine wpQ_seq termsQ ?_
  refine wpQ_region termsQ ?_
  simp only [List.size_toArray, List.length_cons, List.length_nil, Nat.reduceAdd, Nat.zero_add, List.range, List.range.loop]
  refine oq_rd rfl (by rfl) (fun w₁ hw₁ K hK => ?_)
  clear hw₁
  go_simp
  refine hK _ (fun e he => ?_) ?_
  · have hm := mem_listed he
    simp [go_sem] at hm
  clear hK K w₁
  try walk_nrm
  refine oq_rd rfl (by rfl) (fun w₁ hw₁ K hK => ?_)
  clear hw₁
  go_simp
  refine hK _ (fun e he => ?_) ?_
  · have hm := mem_listed he
    simp [go_sem] at hm
  clear hK K w₁
  try walk_nrm
  refine oq_rd rfl (by rfl) (fun w₁ hw₁ K hK => ?_)
  clear hw₁
  go_simp
  refine hK _ (fun e he => ?_) ?_
  · have hm := mem_listed he
    simp [go_sem] at hm
  clear hK K w₁
  try walk_nrm
  refine opsQ_nil termsQ ?_
  refine wpQ_cond termsQ (t := false) (by first | rfl | simp [Act.eval, *]) ?_
  simp only [if_true, if_false, Bool.false_eq_true, ↓reduceIte]
  refine wpQ_skip termsQ ?_
  refine wpQ_seq termsQ ?_
  refine wpQ_region termsQ ?_
  simp only [List.size_toArray, List.length_cons, List.length_nil, Nat.reduceAdd, Nat.zero_add, List.range, List.range.loop]
  refine oq_rd rfl (by rfl) (fun w₁ hw₁ K hK => ?_)
  have d0 : w₁.cell? ⟨B, 0, none⟩ = some (.int .i64 s.k) := by simp [World.cell?, hw₁, HS.box]
  have d1 : w₁.cell? ⟨B, 1, none⟩ = some (.int .u64 s.a) := by simp [World.cell?, hw₁, HS.box]
  have d2 : w₁.cell? ⟨B, 2, none⟩ = some (.int .u64 s.b) := by simp [World.cell?, hw₁, HS.box]
  clear hw₁
  go_simp
  refine hK _ (fun e he => ?_) ?_
  · have hm := mem_listed he
    simp [go_sem, d0, d1, d2] at hm
    rcases hm with rfl | rfl | rfl <;> exact evq_cell HS.nB HS.lt
  clear hK K d0 d1 d2 w₁
  try walk_nrm
  refine oq_call rfl (by rfl) rfl (by simp [Act.eval, Sd.val]) (cq_toSeed s HS.sb) ?_
  rintro v1 c1 w8 ⟨rfl, hc1, hk1⟩
  obtain rfl : c1 = _ := hc1
  simp only [Sd.val]
  replace HS := HS.step hk1
  replace HW := HW.step hk1
  replace HG := HG.step hk1
  clear hk1
  try walk_nrm
  refine oq_rd rfl (by rfl) (fun w₁ hw₁ K hK => ?_)
  clear hw₁
  go_simp
  refine hK _ (fun e he => ?_) ?_
  · have hm := mem_listed he
    simp [go_sem] at hm
  clear hK K w₁
  try walk_nrm
  refine oq_rd rfl (by rfl) (fun w₁ hw₁ K hK => ?_)
  clear hw₁
  go_simp
  refine hK _ (fun e he => ?_) ?_
  · have hm := mem_listed he
    simp [go_sem] at hm
  clear hK K w₁
  try walk_nrm
  refine oq_call rfl (by rfl) rfl (by simp [Act.eval]) (cq_implW hs hC (by have := HS.few; omega) HS.sb) ?_
  rintro v3 c3 w9 ⟨hca, hcb, hcc, hk3, vh, rh, rfl, hR, hfree⟩
  have HH : Own8 c3 B n cnt vh (fun i => wordsV (splitS s i) cnt) rh w9 := ⟨hR.base (by have := HS.lt; omega), hfree⟩
  have hdHH : ∀ g, RowsIn rh g → ¬ (vw.ownBlock = some g ∨ RowsIn rw_ g) := fun g hg hg' => by have := (hR.lt (.inr hg)).2; have := (HW.rows.lt hg').1; omega
  have hdHG2 : ∀ g, RowsIn rh g → ¬ (vg.ownBlock = some g ∨ RowsIn rg g) := fun g hg hg' => by have := (hR.lt (.inr hg)).2; have := (HG.rows.lt hg').1; omega
  replace HW := HW.crew hk3 hca
  replace HG := HG.crew hk3 hca
  replace HS : St8 c3 w B s w9 16 := ⟨(HS.keep.trans hk3).mono fun b _ x => x.elim id id, hk3.some HS.box id, HS.lo, hcb, fun x => (hca _ x).elim HS.nB fun y => by have := HS.lt; omega, by have := HS.few; omega⟩
  clear hca hcb hcc hk3 hR hfree
  try walk_nrm
  refine oq_rd rfl (by rfl) (fun w₁ hw₁ K hK => ?_)
  clear hw₁
  go_simp
  refine hK _ (fun e he => ?_) ?_
  · have hm := mem_listed he
    simp [go_sem] at hm
  clear hK K w₁
  try walk_nrm
  refine oq_rd rfl (by rfl) (fun w₁ hw₁ K hK => ?_)
  clear hw₁
  go_simp
  refine hK _ (fun e he => ?_) ?_
  · have hm := mem_listed he
    simp [go_sem] at hm
  clear hK K w₁
  try walk_nrm
  refine oq_rd rfl (by rfl) (fun w₁ hw₁ K hK => ?_)
  clear hw₁
  go_simp
  refine hK _ (fun e he => ?_) ?_
  · have hm := mem_listed he
    simp [go_sem] at hm
  clear hK K w₁
  try walk_nrm
  refine oq_rd rfl (by rfl) (fun w₁ hw₁ K hK => ?_)
  clear hw₁
  go_simp
  refine hK _ (fun e he => ?_) ?_
  · have hm := mem_listed he
    simp [go_sem] at hm
  clear hK K w₁
  try walk_nrm
  refine oq_rd rfl (by rfl) (fun w₁ hw₁ K hK => ?_)
  clear hw₁
  go_simp
  refine hK _ (fun e he => ?_) ?_
  · have hm := mem_listed he
    simp [go_sem] at hm
  clear hK K w₁
  try walk_nrm
  refine opsQ_nil termsQ ?_
  refine wpQ_seq termsQ ?_
  refine wpQ_seq termsQ ?_
  refine wpQ_region termsQ ?_
  simp only [List.size_toArray, List.length_cons, List.length_nil, Nat.reduceAdd, Nat.zero_add, List.range, List.range.loop]
  refine oq_rd rfl (by rfl) (fun w₁ hw₁ K hK => ?_)
  clear hw₁
  go_simp
  refine hK _ (fun e he => ?_) ?_
  · have hm := mem_listed he
    simp [go_sem] at hm
  clear hK K w₁
  try walk_nrm
  refine oq_rd rfl (by rfl) (fun w₁ hw₁ K hK => ?_)
  clear hw₁
  go_simp
  refine hK _ (fun e he => ?_) ?_
  · have hm := mem_listed he
    simp [go_sem] at hm
  clear hK K w₁
  try walk_nrm
  refine oq_call rfl (by rfl) rfl (by simp [Act.eval]) (cq_eqSS (L := fun i => wordsL (splitS s i) cnt) HH.rows HW.rows (fun g hg hg' => hdHH g hg (.inr hg')) hn hcn HS.sb HH.free HW.free) ?_
  rintro v4 c4 w10 ⟨rfl, hc4, hk4⟩
  obtain rfl : c4 = _ := hc4
  replace HS := HS.step hk4
  replace HW := HW.step hk4
  replace HG := HG.step hk4
  clear hk4
  try walk_nrm
  refine oq_rd rfl (by rfl) (fun w₁ hw₁ K hK => ?_)
  clear hw₁
  go_simp
  refine hK _ (fun e he => ?_) ?_
  · have hm := mem_listed he
    simp [go_sem, ev_neqB] at hm
  clear hK K w₁
  try walk_nrm
  refine oq_rd rfl (by rfl) (fun w₁ hw₁ K hK => ?_)
  clear hw₁
  go_simp
  refine hK _ (fun e he => ?_) ?_
  · have hm := mem_listed he
    simp [go_sem, ev_neqB] at hm
  clear hK K w₁
  try walk_nrm
  refine oq_rd rfl (by rfl) (fun w₁ hw₁ K hK => ?_)
  clear hw₁
  go_simp
  refine hK _ (fun e he => ?_) ?_
  · have hm := mem_listed he
    simp [go_sem, ev_neqB] at hm
  clear hK K w₁
  try walk_nrm
  refine oq_rd rfl (by rfl) (fun w₁ hw₁ K hK => ?_)
  clear hw₁
  go_simp
  refine hK _ (fun e he => ?_) ?_
  · have hm := mem_listed he
    simp [go_sem, ev_neqB] at hm
  clear hK K w₁
  try walk_nrm
  refine oq_rd rfl (by rfl) (fun w₁ hw₁ K hK => ?_)
  clear hw₁
  go_simp
  refine hK _ (fun e he => ?_) ?_
  · have hm := mem_listed he
    simp [go_sem, ev_neqB] at hm
  clear hK K w₁
  try walk_nrm
  refine oq_rd rfl (by rfl) (fun w₁ hw₁ K hK => ?_)
  clear hw₁
  go_simp
  refine hK _ (fun e he => ?_) ?_
  · have hm := mem_listed he
    simp [go_sem, ev_neqB] at hm
  clear hK K w₁
  try walk_nrm
  refine opsQ_nil termsQ ?_
  refine wpQ_cond termsQ (t := false) (by first | rfl | simp [Act.eval, *]) ?_
  simp only [if_true, if_false, Bool.false_eq_true, ↓reduceIte]
  refine wpQ_skip termsQ ?_
  refine wpQ_seq termsQ ?_
  refine wpQ_region termsQ ?_
  simp only [List.size_toArray, List.length_cons, List.length_nil, Nat.reduceAdd, Nat.zero_add, List.range, List.range.loop]
  refine oq_rd rfl (by rfl) (fun w₁ hw₁ K hK => ?_)
  clear hw₁
  go_simp
  refine hK _ (fun e he => ?_) ?_
  · have hm := mem_listed he
    simp [go_sem] at hm
  clear hK K w₁
  try walk_nrm
  refine opsQ_nil termsQ ?_
  refine wpQ_seq termsQ ?_
  refine wpQ_region termsQ ?_
  simp only [List.size_toArray, List.length_cons, List.length_nil, Nat.reduceAdd, Nat.zero_add, List.range, List.range.loop]
  refine oq_rd rfl (by rfl) (fun w₁ hw₁ K hK => ?_)
  clear hw₁
  go_simp
  refine hK _ (fun e he => ?_) ?_
  · have hm := mem_listed he
    simp [go_sem] at hm
  clear hK K w₁
  try walk_nrm
  refine oq_rd rfl (by rfl) (fun w₁ hw₁ K hK => ?_)
  clear hw₁
  go_simp
  refine hK _ (fun e he => ?_) ?_
  · have hm := mem_listed he
    simp [go_sem] at hm
  clear hK K w₁
  try walk_nrm
  refine oq_call rfl (by rfl) rfl (by simp [Act.eval]) (cq_heldSS (k := 1) HG.rows hn hcn (by omega) HS.sb HG.free) ?_
  rintro v6 c6 w11 ⟨rfl, hc6, hk6⟩
  obtain rfl : c6 = _ := hc6
  rw [← HQ.out]
  replace HS := HS.step hk6
  replace HG := HG.step hk6
  clear hk6
  try walk_nrm
  refine oq_rd rfl (by rfl) (fun w₁ hw₁ K hK => ?_)
  clear hw₁
  go_simp
  refine hK _ (fun e he => ?_) ?_
  · have hm := mem_listed he
    simp [go_sem] at hm
  clear hK K w₁
  try walk_nrm
  refine opsQ_nil termsQ ?_
  refine wpQ_seq termsQ ?_
  refine wpQ_seq termsQ ?_
  refine wpQ_region termsQ ?_
  simp only [List.size_toArray, List.length_cons, List.length_nil, Nat.reduceAdd, Nat.zero_add, List.range, List.range.loop]
  refine oq_rd rfl (by rfl) (fun w₁ hw₁ K hK => ?_)
  clear hw₁
  go_simp
  refine hK _ (fun e he => ?_) ?_
  · have hm := mem_listed he
    simp [go_sem] at hm
  clear hK K w₁
  try walk_nrm
  refine oq_rd rfl (by rfl) (fun w₁ hw₁ K hK => ?_)
  clear hw₁
  go_simp
  refine hK _ (fun e he => ?_) ?_
  · have hm := mem_listed he
    simp [go_sem] at hm
  clear hK K w₁
  try walk_nrm
  refine opsQ_nil termsQ ?_
  refine wpQ_cond termsQ (t := false) (by first | rfl | simp [Act.eval, *]) ?_
  simp only [if_true, if_false, Bool.false_eq_true, ↓reduceIte]
  refine wpQ_skip termsQ ?_
  refine wpQ_seq termsQ ?_
  refine wpQ_seq termsQ ?_
  refine wpQ_region termsQ ?_
  simp only [List.size_toArray, List.length_cons, List.length_nil, Nat.reduceAdd, Nat.zero_add, List.range, List.range.loop]
  refine oq_rd rfl (by rfl) (fun w₁ hw₁ K hK => ?_)
  clear hw₁
  go_simp
  refine hK _ (fun e he => ?_) ?_
  · have hm := mem_listed he
    simp [go_sem] at hm
  clear hK K w₁
  try walk_nrm
  refine oq_rd rfl (by rfl) (fun w₁ hw₁ K hK => ?_)
  clear hw₁
  go_simp
  refine hK _ (fun e he => ?_) ?_
  · have hm := mem_listed he
    simp [go_sem] at hm
  clear hK K w₁
  try walk_nrm
  refine oq_rd rfl (by rfl) (fun w₁ hw₁ K hK => ?_)
  clear hw₁
  go_simp
  refine hK _ (fun e he => ?_) ?_
  · have hm := mem_listed he
    simp [go_sem] at hm
  clear hK K w₁
  try walk_nrm
  refine opsQ_nil termsQ ?_
  refine wpQ_cond termsQ (t := false) (by first | rfl | simp [Act.eval, *]) ?_
  simp only [if_true, if_false, Bool.false_eq_true, ↓reduceIte]
  refine wpQ_skip termsQ ?_
  refine wpQ_seq termsQ ?_
  refine wpQ_region termsQ ?_
  simp only [List.size_toArray, List.length_cons, List.length_nil, Nat.reduceAdd, Nat.zero_add, List.range, List.range.loop]
  refine oq_rd rfl (by rfl) (fun w₁ hw₁ K hK => ?_)
  clear hw₁
  go_simp
  refine hK _ (fun e he => ?_) ?_
  · have hm := mem_listed he
    simp [go_sem] at hm
  clear hK K w₁
  try walk_nrm
  refine opsQ_nil termsQ ?_
  refine wpQ_ret termsQ ?_
  exact ⟨rfl, rfl, rfl, HS.keep⟩
set_option maxRecDepth 100000 in
set_option maxHeartbeats 8000000 in
theorem law9 {Fin : End} {c : Gh} {w : World} {s : Sd} {many count work : Int} (hs : s.Ok) (hJ : c.2 = 0) (hSb : ∀ b, c.1 b → b < w.heap.size) :
    WQ Fin 9 (Try.f9.body.getD .skip) (fun e a' _ w' => e = .ret ∧ a'.defers = [] ∧ a'.tmps.getD 8 undef = .bool true ∧ KeepQ (fun _ => False) w w') ⟨#[Value.agg #[.int .i64 s.k, .int .u64 s.a, .int .u64 s.b], .int .i64 many, .int .i64 count, .int .i64 work, undef, undef, undef, undef, undef, undef, undef, undef, undef, undef, undef, undef, undef, undef, undef, undef, undef, undef, undef, undef, undef, undef, undef, undef, undef, undef, undef, undef, undef, undef, undef, undef, undef, undef, undef, undef, undef, undef, undef, undef, undef, undef, undef, undef, undef, undef, undef, undef, undef, undef, undef, undef, undef, undef, undef, undef, undef, undef, undef, undef, undef, undef, undef, undef, undef, undef, undef, undef, undef, undef, undef, undef, undef, undef, undef, undef, undef], []⟩ c w := by
  obtain ⟨ok, n, cnt, stp, hC⟩ := case_of s many count work
  obtain ⟨hn, hcn⟩ := hC.le
  simp only [Try.f9, Option.getD_some]
  refine wpQ_seq termsQ ?_
  refine wpQ_region termsQ ?_
  simp only [List.size_toArray, List.length_cons, List.length_nil, Nat.reduceAdd, Nat.zero_add, List.range, List.range.loop]
  refine oq_al rfl (by rfl) (fun w₁ hw₁ K hK => ?_)
  go_simp
  refine hK _ _ (fun e he => ?_) ?_
  · have hm := mem_listed he
    simp [go_sem] at hm
  clear hK K hw₁ w₁
  try walk_nrm
  have HS : St8 c w w.heap.size s (w.alloc (.cells #[.int .i64 s.k, .int .u64 s.a, .int .u64 s.b] 63)) 0 := ⟨⟨⟨rfl, rfl, rfl⟩, by rw [World.size_alloc]; omega, fun b hb _ => Below.heap_alloc _ _ _ hb⟩, heap_alloc_new _ _, Nat.le_refl _, fun b hb => by rw [World.size_alloc]; have := hSb b hb; omega, fun x => by have := hSb _ x; omega, by omega⟩
  clear hSb hJ
  generalize w.alloc (Obj.cells #[.int .i64 s.k, .int .u64 s.a, .int .u64 s.b] 63) = w0 at HS ⊢
  obtain ⟨B, hB⟩ : ∃ B, B = w.heap.size := ⟨_, rfl⟩
  rw [← hB] at HS ⊢
  clear hB
  refine oq_rd rfl (by rfl) (fun w₁ hw₁ K hK => ?_)
  clear hw₁
  go_simp
  refine hK _ (fun e he => ?_) ?_
  · have hm := mem_listed he
    simp [go_sem] at hm
  clear hK K w₁
  try walk_nrm
  refine opsQ_nil termsQ ?_
  refine wpQ_seq termsQ ?_
  refine wpQ_region termsQ ?_
  simp only [List.size_toArray, List.length_cons, List.length_nil, Nat.reduceAdd, Nat.zero_add, List.range, List.range.loop]
  refine oq_rd rfl (by rfl) (fun w₁ hw₁ K hK => ?_)
  have d0 : w₁.cell? ⟨B, 0, none⟩ = some (.int .i64 s.k) := by simp [World.cell?, hw₁, HS.box]
  have d1 : w₁.cell? ⟨B, 1, none⟩ = some (.int .u64 s.a) := by simp [World.cell?, hw₁, HS.box]
  have d2 : w₁.cell? ⟨B, 2, none⟩ = some (.int .u64 s.b) := by simp [World.cell?, hw₁, HS.box]
  clear hw₁
  go_simp
  refine hK _ (fun e he => ?_) ?_
  · have hm := mem_listed he
    simp [go_sem, d0, d1, d2] at hm
    rcases hm with rfl | rfl | rfl <;> exact evq_cell HS.nB HS.lt
  clear hK K d0 d1 d2 w₁
  try walk_nrm
  refine oq_call rfl (by rfl) rfl (by simp [Act.eval, Sd.val]) (cq_toSeed s HS.sb) ?_
  rintro v1 c1 w1 ⟨rfl, hc1, hk1⟩
  obtain rfl : c1 = _ := hc1
  simp only [Sd.val]
  replace HS := HS.step hk1
  clear hk1
  try walk_nrm
  refine oq_rd rfl (by rfl) (fun w₁ hw₁ K hK => ?_)
  clear hw₁
  go_simp
  refine hK _ (fun e he => ?_) ?_
  · have hm := mem_listed he
    simp [go_sem] at hm
  clear hK K w₁
  try walk_nrm
  refine oq_rd rfl (by rfl) (fun w₁ hw₁ K hK => ?_)
  clear hw₁
  go_simp
  refine hK _ (fun e he => ?_) ?_
  · have hm := mem_listed he
    simp [go_sem] at hm
  clear hK K w₁
  try walk_nrm
  refine oq_rd rfl (by rfl) (fun w₁ hw₁ K hK => ?_)
  clear hw₁
  go_simp
  refine hK _ (fun e he => ?_) ?_
  · have hm := mem_listed he
    simp [go_sem] at hm
  clear hK K w₁
  try walk_nrm
  refine oq_call rfl (by rfl) rfl (by simp [Act.eval]) (cq_specS hs hC HS.sb) ?_
  rintro v2 c2 w2 ⟨hc2, hk2, vw, rw_, rfl, hR⟩
  obtain rfl : c2 = _ := hc2
  have HW : Own8 c2 B n cnt vw (fun i => wordsV (splitS s i) cnt) rw_ w2 := ⟨hR.base (by have := HS.lt; omega), fun g hg x => by have := (hR.lt hg).2; have := HS.sb _ x; omega⟩
  replace HS := HS.step hk2
  clear hk2 hR
  try walk_nrm
  refine oq_rd rfl (by rfl) (fun w₁ hw₁ K hK => ?_)
  clear hw₁
  go_simp
  refine hK _ (fun e he => ?_) ?_
  · have hm := mem_listed he
    simp [go_sem] at hm
  clear hK K w₁
  try walk_nrm
  refine oq_rd rfl (by rfl) (fun w₁ hw₁ K hK => ?_)
  clear hw₁
  go_simp
  refine hK _ (fun e he => ?_) ?_
  · have hm := mem_listed he
    simp [go_sem] at hm
  clear hK K w₁
  try walk_nrm
  refine oq_rd rfl (by rfl) (fun w₁ hw₁ K hK => ?_)
  clear hw₁
  go_simp
  refine hK _ (fun e he => ?_) ?_
  · have hm := mem_listed he
    simp [go_sem] at hm
  clear hK K w₁
  try walk_nrm
  refine oq_rd rfl (by rfl) (fun w₁ hw₁ K hK => ?_)
  clear hw₁
  go_simp
  refine hK _ (fun e he => ?_) ?_
  · have hm := mem_listed he
    simp [go_sem] at hm
  clear hK K w₁
  try walk_nrm
  refine oq_rd rfl (by rfl) (fun w₁ hw₁ K hK => ?_)
  clear hw₁
  go_simp
  refine hK _ (fun e he => ?_) ?_
  · have hm := mem_listed he
    simp [go_sem] at hm
  clear hK K w₁
  try walk_nrm
  refine opsQ_nil termsQ ?_
  refine wpQ_seq termsQ ?_
  refine wpQ_region termsQ ?_
  simp only [List.size_toArray, List.length_cons, List.length_nil, Nat.reduceAdd, Nat.zero_add, List.range, List.range.loop]
  refine oq_rd rfl (by rfl) (fun w₁ hw₁ K hK => ?_)
  have d0 : w₁.cell? ⟨B, 0, none⟩ = some (.int .i64 s.k) := by simp [World.cell?, hw₁, HS.box]
  have d1 : w₁.cell? ⟨B, 1, none⟩ = some (.int .u64 s.a) := by simp [World.cell?, hw₁, HS.box]
  have d2 : w₁.cell? ⟨B, 2, none⟩ = some (.int .u64 s.b) := by simp [World.cell?, hw₁, HS.box]
  clear hw₁
  go_simp
  refine hK _ (fun e he => ?_) ?_
  · have hm := mem_listed he
    simp [go_sem, d0, d1, d2] at hm
    rcases hm with rfl | rfl | rfl <;> exact evq_cell HS.nB HS.lt
  clear hK K d0 d1 d2 w₁
  try walk_nrm
  refine oq_call rfl (by rfl) rfl (by simp [Act.eval, Sd.val]) (cq_toSeed s HS.sb) ?_
  rintro v1 c1 w3 ⟨rfl, hc1, hk1⟩
  obtain rfl : c1 = _ := hc1
  simp only [Sd.val]
  replace HS := HS.step hk1
  replace HW := HW.step hk1
  clear hk1
  try walk_nrm
  refine oq_rd rfl (by rfl) (fun w₁ hw₁ K hK => ?_)
  clear hw₁
  go_simp
  refine hK _ (fun e he => ?_) ?_
  · have hm := mem_listed he
    simp [go_sem] at hm
  clear hK K w₁
  try walk_nrm
  refine oq_rd rfl (by rfl) (fun w₁ hw₁ K hK => ?_)
  clear hw₁
  go_simp
  refine hK _ (fun e he => ?_) ?_
  · have hm := mem_listed he
    simp [go_sem] at hm
  clear hK K w₁
  try walk_nrm
  refine oq_rd rfl (by rfl) (fun w₁ hw₁ K hK => ?_)
  clear hw₁
  go_simp
  refine hK _ (fun e he => ?_) ?_
  · have hm := mem_listed he
    simp [go_sem] at hm
  clear hK K w₁
  try walk_nrm
  refine oq_call rfl (by rfl) rfl (by simp [Act.eval]) (cq_implS hs hC (by have := HS.few; omega) HS.sb) ?_
  rintro v3 c3 w4 ⟨hca, hcb, hcc, hk3, vg, rg, rfl, hR, hfree⟩
  have HG : Own8 c3 B n cnt vg (fun i => wordsV (splitS s i) cnt) rg w4 := ⟨hR.base (by have := HS.lt; omega), hfree⟩
  have hdHW : ∀ g, RowsIn rg g → ¬ (vw.ownBlock = some g ∨ RowsIn rw_ g) := fun g hg hg' => by have := (hR.lt (.inr hg)).2; have := (HW.rows.lt hg').1; omega
  replace HW := HW.crew hk3 hca
  replace HS : St8 c3 w B s w4 8 := ⟨(HS.keep.trans hk3).mono fun b _ x => x.elim id id, hk3.some HS.box id, HS.lo, hcb, fun x => (hca _ x).elim HS.nB fun y => by have := HS.lt; omega, by have := HS.few; omega⟩
  clear hca hcb hcc hk3 hR hfree
  try walk_nrm
  refine oq_rd rfl (by rfl) (fun w₁ hw₁ K hK => ?_)
  clear hw₁
  go_simp
  refine hK _ (fun e he => ?_) ?_
  · have hm := mem_listed he
    simp [go_sem] at hm
  clear hK K w₁
  try walk_nrm
  refine oq_rd rfl (by rfl) (fun w₁ hw₁ K hK => ?_)
  clear hw₁
  go_simp
  refine hK _ (fun e he => ?_) ?_
  · have hm := mem_listed he
    simp [go_sem] at hm
  clear hK K w₁
  try walk_nrm
  refine oq_rd rfl (by rfl) (fun w₁ hw₁ K hK => ?_)
  clear hw₁
  go_simp
  refine hK _ (fun e he => ?_) ?_
  · have hm := mem_listed he
    simp [go_sem] at hm
  clear hK K w₁
  try walk_nrm
  refine oq_rd rfl (by rfl) (fun w₁ hw₁ K hK => ?_)
  clear hw₁
  go_simp
  refine hK _ (fun e he => ?_) ?_
  · have hm := mem_listed he
    simp [go_sem] at hm
  clear hK K w₁
  try walk_nrm
  refine oq_rd rfl (by rfl) (fun w₁ hw₁ K hK => ?_)
  clear hw₁
  go_simp
  refine hK _ (fun e he => ?_) ?_
  · have hm := mem_listed he
    simp [go_sem] at hm
  clear hK K w₁
  try walk_nrm
  refine opsQ_nil termsQ ?_
  refine wpQ_seq termsQ ?_
  refine wpQ_seq termsQ ?_
  refine wpQ_region termsQ ?_
  simp only [List.size_toArray, List.length_cons, List.length_nil, Nat.reduceAdd, Nat.zero_add, List.range, List.range.loop]
  refine oq_rd rfl (by rfl) (fun w₁ hw₁ K hK => ?_)
  clear hw₁
  go_simp
  refine hK _ (fun e he => ?_) ?_
  · have hm := mem_listed he
    simp [go_sem] at hm
  clear hK K w₁
  try walk_nrm
  refine oq_rd rfl (by rfl) (fun w₁ hw₁ K hK => ?_)
  clear hw₁
  go_simp
  refine hK _ (fun e he => ?_) ?_
  · have hm := mem_listed he
    simp [go_sem] at hm
  clear hK K w₁
  try walk_nrm
  refine oq_call rfl (by rfl) rfl (by simp [Act.eval]) (cq_eqSS (L := fun i => wordsL (splitS s i) cnt) HG.rows HW.rows (fun g hg hg' => hdHW g hg (.inr hg')) hn hcn HS.sb HG.free HW.free) ?_
  rintro v4 c4 w5 ⟨rfl, hc4, hk4⟩
  obtain rfl : c4 = _ := hc4
  replace HS := HS.step hk4
  replace HW := HW.step hk4
  replace HG := HG.step hk4
  clear hk4
  try walk_nrm
  refine oq_rd rfl (by rfl) (fun w₁ hw₁ K hK => ?_)
  clear hw₁
  go_simp
  refine hK _ (fun e he => ?_) ?_
  · have hm := mem_listed he
    simp [go_sem, ev_neqB] at hm
  clear hK K w₁
  try walk_nrm
  refine oq_rd rfl (by rfl) (fun w₁ hw₁ K hK => ?_)
  clear hw₁
  go_simp
  refine hK _ (fun e he => ?_) ?_
  · have hm := mem_listed he
    simp [go_sem, ev_neqB] at hm
  clear hK K w₁
  try walk_nrm
  refine oq_rd rfl (by rfl) (fun w₁ hw₁ K hK => ?_)
  clear hw₁
  go_simp
  refine hK _ (fun e he => ?_) ?_
  · have hm := mem_listed he
    simp [go_sem, ev_neqB] at hm
  clear hK K w₁
  try walk_nrm
  refine oq_rd rfl (by rfl) (fun w₁ hw₁ K hK => ?_)
  clear hw₁
  go_simp
  refine hK _ (fun e he => ?_) ?_
  · have hm := mem_listed he
    simp [go_sem, ev_neqB] at hm
  clear hK K w₁
  try walk_nrm
  refine oq_rd rfl (by rfl) (fun w₁ hw₁ K hK => ?_)
  clear hw₁
  go_simp
  refine hK _ (fun e he => ?_) ?_
  · have hm := mem_listed he
    simp [go_sem, ev_neqB] at hm
  clear hK K w₁
  try walk_nrm
  refine oq_rd rfl (by rfl) (fun w₁ hw₁ K hK => ?_)
  clear hw₁
  go_simp
  refine hK _ (fun e he => ?_) ?_
  · have hm := mem_listed he
    simp [go_sem, ev_neqB] at hm
  clear hK K w₁
  try walk_nrm
  refine opsQ_nil termsQ ?_
  refine wpQ_cond termsQ (t := false) (by first | rfl | simp [Act.eval, *]) ?_
  simp only [if_true, if_false, Bool.false_eq_true, ↓reduceIte]
  refine wpQ_skip termsQ ?_
  refine wpQ_seq termsQ ?_
  refine wpQ_region termsQ ?_
  simp only [List.size_toArray, List.length_cons, List.length_nil, Nat.reduceAdd, Nat.zero_add, List.range, List.range.loop]
  refine oq_rd rfl (by rfl) (fun w₁ hw₁ K hK => ?_)
  clear hw₁
  go_simp
  refine hK _ (fun e he => ?_) ?_
  · have hm := mem_listed he
    simp [go_sem] at hm
  clear hK K w₁
  try walk_nrm
  refine opsQ_nil termsQ ?_
  refine wpQ_seq termsQ ?_
  refine wpQ_region termsQ ?_
  simp only [List.size_toArray, List.length_cons, List.length_nil, Nat.reduceAdd, Nat.zero_add, List.range, List.range.loop]
  refine oq_rd rfl (by rfl) (fun w₁ hw₁ K hK => ?_)
  clear hw₁
  go_simp
  refine hK _ (fun e he => ?_) ?_
  · have hm := mem_listed he
    simp [go_sem] at hm
  clear hK K w₁
  try walk_nrm
  refine oq_rd rfl (by rfl) (fun w₁ hw₁ K hK => ?_)
  clear hw₁
  go_simp
  refine hK _ (fun e he => ?_) ?_
  · have hm := mem_listed he
    simp [go_sem] at hm
  clear hK K w₁
  try walk_nrm
  refine oq_call rfl (by rfl) rfl (by simp [Act.eval]) (cq_markSS (k := 1) HG.rows hn hcn (by omega) HS.sb HG.free) ?_
  rintro v5 c5 w6 ⟨rfl, hc5, hk5, hR5⟩
  obtain rfl : c5 = _ := hc5
  replace HS : St8 c5 w B s w6 8 := by
    have hlo : ∀ g, RowsIn rg g → B < g := fun g hg => by have := (HG.rows.lt (.inr hg)).2; omega
    exact ⟨(HS.keep.trans hk5).mono fun b hb x => x.elim id fun y => by have := hlo b y; have := HS.lo; omega, hk5.some HS.box fun y => by have := hlo _ y; omega, HS.lo, fun b hb => Nat.lt_of_lt_of_le (HS.sb b hb) hk5.size, HS.nB, HS.few⟩
  replace HW : Own8 c5 B n cnt vw (fun i => wordsV (splitS s i) cnt) rw_ w6 := ⟨HW.rows.keep hk5 fun g hg y => hdHW g y hg, HW.free⟩
  replace HG : Own8 c5 B n cnt vg (fun i => (marksL (1 + i * cnt) cnt).map (Value.int .i64)) rg w6 := ⟨hR5, HG.free⟩
  clear hk5 hR5
  have hq0 : 1 + n * cnt ≤ 4097 := by have : n * cnt ≤ 16 * 256 := Nat.mul_le_mul hn hcn; omega
  obtain ⟨q, hq⟩ : ∃ q, q = 1 + n * cnt := ⟨_, rfl⟩
  rw [← hq]
  have hqn : decide ((q : Int) < 0) = false := decide_eq_false (by omega)
  have HQ := Lib.hid hq
  clear hq0 hq
  try walk_nrm
  refine oq_rd rfl (by rfl) (fun w₁ hw₁ K hK => ?_)
  clear hw₁
  go_simp
  refine hK _ (fun e he => ?_) ?_
  · have hm := mem_listed he
    simp [go_sem] at hm
  clear hK K w₁
  try walk_nrm
  refine opsQ_nil termsQ ?_
  refine wpQ_seq termsQ ?_
  refine wpQ_region termsQ ?_
  simp only [List.size_toArray, List.length_cons, List.length_nil, Nat.reduceAdd, Nat.zero_add, List.range, List.range.loop]
  refine oq_rd rfl (by rfl) (fun w₁ hw₁ K hK => ?_)
  clear hw₁
  go_simp
  refine hK _ (fun e he => ?_) ?_
  · have hm := mem_listed he
    simp [go_sem] at hm
  clear hK K w₁
  try walk_nrm
  refine opsQ_nil termsQ ?_
  refine wpQ_seq termsQ ?_
  refine wpQ_region termsQ ?_
  simp only [List.size_toArray, List.length_cons, List.length_nil, Nat.reduceAdd, Nat.zero_add, List.range, List.range.loop]
  refine oq_rd rfl (by rfl) (fun w₁ hw₁ K hK => ?_)
  clear hw₁
  go_simp
  refine hK _ (fun e he => ?_) ?_
  · have hm := mem_listed he
    simp [go_sem] at hm
  clear hK K w₁
  try walk_nrm
  refine oq_rd rfl (by rfl) (fun w₁ hw₁ K hK => ?_)
  clear hw₁
  go_simp
  refine hK _ (fun e he => ?_) ?_
  · have hm := mem_listed he
    simp [go_sem] at hm
  clear hK K w₁
  try walk_nrm
  refine oq_call rfl (by rfl) rfl (by simp [Act.eval]) (cq_heldSS (k := 1) HG.rows hn hcn (by omega) HS.sb HG.free) ?_
  rintro v6 c6 w7 ⟨rfl, hc6, hk6⟩
  obtain rfl : c6 = _ := hc6
  rw [← HQ.out]
  replace HS := HS.step hk6
  replace HW := HW.step hk6
  replace HG := HG.step hk6
  clear hk6
  try walk_nrm
  refine oq_rd rfl (by rfl) (fun w₁ hw₁ K hK => ?_)
  clear hw₁
  go_simp
  refine hK _ (fun e he => ?_) ?_
  · have hm := mem_listed he
    simp [go_sem] at hm
  clear hK K w₁
  try walk_nrm
  refine opsQ_nil termsQ ?_
  refine wpQ_seq termsQ ?_
  refine wpQ_seq termsQ ?_
  refine wpQ_region termsQ ?_
  simp only [List.size_toArray, List.length_cons, List.length_nil, Nat.reduceAdd, Nat.zero_add, List.range, List.range.loop]
  refine oq_rd rfl (by rfl) (fun w₁ hw₁ K hK => ?_)
  clear hw₁
  go_simp
  refine hK _ (fun e he => ?_) ?_
  · have hm := mem_listed he
    simp [go_sem] at hm
  clear hK K w₁
  try walk_nrm
  refine oq_rd rfl (by rfl) (fun w₁ hw₁ K hK => ?_)
  clear hw₁
  go_simp
  refine hK _ (fun e he => ?_) ?_
  · have hm := mem_listed he
    simp [go_sem] at hm
  clear hK K w₁
  try walk_nrm
  refine opsQ_nil termsQ ?_
  refine wpQ_cond termsQ (t := false) (by first | rfl | simp [Act.eval, *]) ?_
  simp only [if_true, if_false, Bool.false_eq_true, ↓reduceIte]
  refine wpQ_skip termsQ ?_
  refine wpQ_seq termsQ ?_
  refine wpQ_seq termsQ ?_
  refine wpQ_region termsQ ?_
  simp only [List.size_toArray, List.length_cons, List.length_nil, Nat.reduceAdd, Nat.zero_add, List.range, List.range.loop]
  refine oq_rd rfl (by rfl) (fun w₁ hw₁ K hK => ?_)
  clear hw₁
  go_simp
  refine hK _ (fun e he => ?_) ?_
  · have hm := mem_listed he
    simp [go_sem] at hm
  clear hK K w₁
  try walk_nrm
  refine oq_rd rfl (by rfl) (fun w₁ hw₁ K hK => ?_)
  clear hw₁
  go_simp
  refine hK _ (fun e he => ?_) ?_
  · have hm := mem_listed he
    simp [go_sem] at hm
  clear hK K w₁
  try walk_nrm
  refine oq_rd rfl (by rfl) (fun w₁ hw₁ K hK => ?_)
  clear hw₁
  go_simp
  refine hK _ (fun e he => ?_) ?_
  · have hm := mem_listed he
    simp [go_sem] at hm
  clear hK K w₁
  try walk_nrm
  refine opsQ_nil termsQ ?_
  refine wpQ_cond termsQ (t := false) (by first | rfl | simp [Act.eval, *]) ?_
  simp only [if_true, if_false, Bool.false_eq_true, ↓reduceIte]
  refine wpQ_skip termsQ ?_
  refine wpQ_seq termsQ ?_
  refine wpQ_region termsQ ?_
  simp only [List.size_toArray, List.length_cons, List.length_nil, Nat.reduceAdd, Nat.zero_add, List.range, List.range.loop]
  refine oq_rd rfl (by rfl) (fun w₁ hw₁ K hK => ?_)
  have d0 : w₁.cell? ⟨B, 0, none⟩ = some (.int .i64 s.k) := by simp [World.cell?, hw₁, HS.box]
  have d1 : w₁.cell? ⟨B, 1, none⟩ = some (.int .u64 s.a) := by simp [World.cell?, hw₁, HS.box]
  have d2 : w₁.cell? ⟨B, 2, none⟩ = some (.int .u64 s.b) := by simp [World.cell?, hw₁, HS.box]
  clear hw₁
  go_simp
  refine hK _ (fun e he => ?_) ?_
  · have hm := mem_listed he
    simp [go_sem, d0, d1, d2] at hm
    rcases hm with rfl | rfl | rfl <;> exact evq_cell HS.nB HS.lt
  clear hK K d0 d1 d2 w₁
  try walk_nrm
  refine oq_call rfl (by rfl) rfl (by simp [Act.eval, Sd.val]) (cq_toSeed s HS.sb) ?_
  rintro v1 c1 w8 ⟨rfl, hc1, hk1⟩
  obtain rfl : c1 = _ := hc1
  simp only [Sd.val]
  replace HS := HS.step hk1
  replace HW := HW.step hk1
  replace HG := HG.step hk1
  clear hk1
  try walk_nrm
  refine oq_rd rfl (by rfl) (fun w₁ hw₁ K hK => ?_)
  clear hw₁
  go_simp
  refine hK _ (fun e he => ?_) ?_
  · have hm := mem_listed he
    simp [go_sem] at hm
  clear hK K w₁
  try walk_nrm
  refine oq_rd rfl (by rfl) (fun w₁ hw₁ K hK => ?_)
  clear hw₁
  go_simp
  refine hK _ (fun e he => ?_) ?_
  · have hm := mem_listed he
    simp [go_sem] at hm
  clear hK K w₁
  try walk_nrm
  refine oq_rd rfl (by rfl) (fun w₁ hw₁ K hK => ?_)
  clear hw₁
  go_simp
  refine hK _ (fun e he => ?_) ?_
  · have hm := mem_listed he
    simp [go_sem] at hm
  clear hK K w₁
  try walk_nrm
  refine oq_call rfl (by rfl) rfl (by simp [Act.eval]) (cq_implS hs hC (by have := HS.few; omega) HS.sb) ?_
  rintro v3 c3 w9 ⟨hca, hcb, hcc, hk3, vh, rh, rfl, hR, hfree⟩
  have HH : Own8 c3 B n cnt vh (fun i => wordsV (splitS s i) cnt) rh w9 := ⟨hR.base (by have := HS.lt; omega), hfree⟩
  have hdHH : ∀ g, RowsIn rh g → ¬ (vw.ownBlock = some g ∨ RowsIn rw_ g) := fun g hg hg' => by have := (hR.lt (.inr hg)).2; have := (HW.rows.lt hg').1; omega
  have hdHG2 : ∀ g, RowsIn rh g → ¬ (vg.ownBlock = some g ∨ RowsIn rg g) := fun g hg hg' => by have := (hR.lt (.inr hg)).2; have := (HG.rows.lt hg').1; omega
  replace HW := HW.crew hk3 hca
  replace HG := HG.crew hk3 hca
  replace HS : St8 c3 w B s w9 16 := ⟨(HS.keep.trans hk3).mono fun b _ x => x.elim id id, hk3.some HS.box id, HS.lo, hcb, fun x => (hca _ x).elim HS.nB fun y => by have := HS.lt; omega, by have := HS.few; omega⟩
  clear hca hcb hcc hk3 hR hfree
  try walk_nrm
  refine oq_rd rfl (by rfl) (fun w₁ hw₁ K hK => ?_)
  clear hw₁
  go_simp
  refine hK _ (fun e he => ?_) ?_
  · have hm := mem_listed he
    simp [go_sem] at hm
  clear hK K w₁
  try walk_nrm
  refine oq_rd rfl (by rfl) (fun w₁ hw₁ K hK => ?_)
  clear hw₁
  go_simp
  refine hK _ (fun e he => ?_) ?_
  · have hm := mem_listed he
    simp [go_sem] at hm
  clear hK K w₁
  try walk_nrm
  refine oq_rd rfl (by rfl) (fun w₁ hw₁ K hK => ?_)
  clear hw₁
  go_simp
  refine hK _ (fun e he => ?_) ?_
  · have hm := mem_listed he
    simp [go_sem] at hm
  clear hK K w₁
  try walk_nrm
  refine oq_rd rfl (by rfl) (fun w₁ hw₁ K hK => ?_)
  clear hw₁
  go_simp
  refine hK _ (fun e he => ?_) ?_
  · have hm := mem_listed he
    simp [go_sem] at hm
  clear hK K w₁
  try walk_nrm
  refine oq_rd rfl (by rfl) (fun w₁ hw₁ K hK => ?_)
  clear hw₁
  go_simp
  refine hK _ (fun e he => ?_) ?_
  · have hm := mem_listed he
    simp [go_sem] at hm
  clear hK K w₁
  try walk_nrm
  refine opsQ_nil termsQ ?_
  refine wpQ_seq termsQ ?_
  refine wpQ_seq termsQ ?_
  refine wpQ_region termsQ ?_
  simp only [List.size_toArray, List.length_cons, List.length_nil, Nat.reduceAdd, Nat.zero_add, List.range, List.range.loop]
  refine oq_rd rfl (by rfl) (fun w₁ hw₁ K hK => ?_)
  clear hw₁
  go_simp
  refine hK _ (fun e he => ?_) ?_
  · have hm := mem_listed he
    simp [go_sem] at hm
  clear hK K w₁
  try walk_nrm
  refine oq_rd rfl (by rfl) (fun w₁ hw₁ K hK => ?_)
  clear hw₁
  go_simp
  refine hK _ (fun e he => ?_) ?_
  · have hm := mem_listed he
    simp [go_sem] at hm
  clear hK K w₁
  try walk_nrm
  refine oq_call rfl (by rfl) rfl (by simp [Act.eval]) (cq_eqSS (L := fun i => wordsL (splitS s i) cnt) HH.rows HW.rows (fun g hg hg' => hdHH g hg (.inr hg')) hn hcn HS.sb HH.free HW.free) ?_
  rintro v4 c4 w10 ⟨rfl, hc4, hk4⟩
  obtain rfl : c4 = _ := hc4
  replace HS := HS.step hk4
  replace HW := HW.step hk4
  replace HG := HG.step hk4
  clear hk4
  try walk_nrm
  refine oq_rd rfl (by rfl) (fun w₁ hw₁ K hK => ?_)
  clear hw₁
  go_simp
  refine hK _ (fun e he => ?_) ?_
  · have hm := mem_listed he
    simp [go_sem, ev_neqB] at hm
  clear hK K w₁
  try walk_nrm
  refine oq_rd rfl (by rfl) (fun w₁ hw₁ K hK => ?_)
  clear hw₁
  go_simp
  refine hK _ (fun e he => ?_) ?_
  · have hm := mem_listed he
    simp [go_sem, ev_neqB] at hm
  clear hK K w₁
  try walk_nrm
  refine oq_rd rfl (by rfl) (fun w₁ hw₁ K hK => ?_)
  clear hw₁
  go_simp
  refine hK _ (fun e he => ?_) ?_
  · have hm := mem_listed he
    simp [go_sem, ev_neqB] at hm
  clear hK K w₁
  try walk_nrm
  refine oq_rd rfl (by rfl) (fun w₁ hw₁ K hK => ?_)
  clear hw₁
  go_simp
  refine hK _ (fun e he => ?_) ?_
  · have hm := mem_listed he
    simp [go_sem, ev_neqB] at hm
  clear hK K w₁
  try walk_nrm
  refine oq_rd rfl (by rfl) (fun w₁ hw₁ K hK => ?_)
  clear hw₁
  go_simp
  refine hK _ (fun e he => ?_) ?_
  · have hm := mem_listed he
    simp [go_sem, ev_neqB] at hm
  clear hK K w₁
  try walk_nrm
  refine oq_rd rfl (by rfl) (fun w₁ hw₁ K hK => ?_)
  clear hw₁
  go_simp
  refine hK _ (fun e he => ?_) ?_
  · have hm := mem_listed he
    simp [go_sem, ev_neqB] at hm
  clear hK K w₁
  try walk_nrm
  refine opsQ_nil termsQ ?_
  refine wpQ_cond termsQ (t := false) (by first | rfl | simp [Act.eval, *]) ?_
  simp only [if_true, if_false, Bool.false_eq_true, ↓reduceIte]
  refine wpQ_skip termsQ ?_
  refine wpQ_seq termsQ ?_
  refine wpQ_region termsQ ?_
  simp only [List.size_toArray, List.length_cons, List.length_nil, Nat.reduceAdd, Nat.zero_add, List.range, List.range.loop]
  refine oq_rd rfl (by rfl) (fun w₁ hw₁ K hK => ?_)
  clear hw₁
  go_simp
  refine hK _ (fun e he => ?_) ?_
  · have hm := mem_listed he
    simp [go_sem] at hm
  clear hK K w₁
  try walk_nrm
  refine opsQ_nil termsQ ?_
  refine wpQ_seq termsQ ?_
  refine wpQ_region termsQ ?_
  simp only [List.size_toArray, List.length_cons, List.length_nil, Nat.reduceAdd, Nat.zero_add, List.range, List.range.loop]
  refine oq_rd rfl (by rfl) (fun w₁ hw₁ K hK => ?_)
  clear hw₁
  go_simp
  refine hK _ (fun e he => ?_) ?_
  · have hm := mem_listed he
    simp [go_sem] at hm
  clear hK K w₁
  try walk_nrm
  refine oq_rd rfl (by rfl) (fun w₁ hw₁ K hK => ?_)
  clear hw₁
  go_simp
  refine hK _ (fun e he => ?_) ?_
  · have hm := mem_listed he
    simp [go_sem] at hm
  clear hK K w₁
  try walk_nrm
  refine oq_call rfl (by rfl) rfl (by simp [Act.eval]) (cq_heldSS (k := 1) HG.rows hn hcn (by omega) HS.sb HG.free) ?_
  rintro v6 c6 w11 ⟨rfl, hc6, hk6⟩
  obtain rfl : c6 = _ := hc6
  rw [← HQ.out]
  replace HS := HS.step hk6
  replace HG := HG.step hk6
  clear hk6
  try walk_nrm
  refine oq_rd rfl (by rfl) (fun w₁ hw₁ K hK => ?_)
  clear hw₁
  go_simp
  refine hK _ (fun e he => ?_) ?_
  · have hm := mem_listed he
    simp [go_sem] at hm
  clear hK K w₁
  try walk_nrm
  refine opsQ_nil termsQ ?_
  refine wpQ_seq termsQ ?_
  refine wpQ_seq termsQ ?_
  refine wpQ_region termsQ ?_
  simp only [List.size_toArray, List.length_cons, List.length_nil, Nat.reduceAdd, Nat.zero_add, List.range, List.range.loop]
  refine oq_rd rfl (by rfl) (fun w₁ hw₁ K hK => ?_)
  clear hw₁
  go_simp
  refine hK _ (fun e he => ?_) ?_
  · have hm := mem_listed he
    simp [go_sem] at hm
  clear hK K w₁
  try walk_nrm
  refine oq_rd rfl (by rfl) (fun w₁ hw₁ K hK => ?_)
  clear hw₁
  go_simp
  refine hK _ (fun e he => ?_) ?_
  · have hm := mem_listed he
    simp [go_sem] at hm
  clear hK K w₁
  try walk_nrm
  refine opsQ_nil termsQ ?_
  refine wpQ_cond termsQ (t := false) (by first | rfl | simp [Act.eval, *]) ?_
  simp only [if_true, if_false, Bool.false_eq_true, ↓reduceIte]
  refine wpQ_skip termsQ ?_
  refine wpQ_seq termsQ ?_
  refine wpQ_seq termsQ ?_
  refine wpQ_region termsQ ?_
  simp only [List.size_toArray, List.length_cons, List.length_nil, Nat.reduceAdd, Nat.zero_add, List.range, List.range.loop]
  refine oq_rd rfl (by rfl) (fun w₁ hw₁ K hK => ?_)
  clear hw₁
  go_simp
  refine hK _ (fun e he => ?_) ?_
  · have hm := mem_listed he
    simp [go_sem] at hm
  clear hK K w₁
  try walk_nrm
  refine oq_rd rfl (by rfl) (fun w₁ hw₁ K hK => ?_)
  clear hw₁
  go_simp
  refine hK _ (fun e he => ?_) ?_
  · have hm := mem_listed he
    simp [go_sem] at hm
  clear hK K w₁
  try walk_nrm
  refine oq_rd rfl (by rfl) (fun w₁ hw₁ K hK => ?_)
  clear hw₁
  go_simp
  refine hK _ (fun e he => ?_) ?_
  · have hm := mem_listed he
    simp [go_sem] at hm
  clear hK K w₁
  try walk_nrm
  refine opsQ_nil termsQ ?_
  refine wpQ_cond termsQ (t := false) (by first | rfl | simp [Act.eval, *]) ?_
  simp only [if_true, if_false, Bool.false_eq_true, ↓reduceIte]
  refine wpQ_skip termsQ ?_
  refine wpQ_seq termsQ ?_
  refine wpQ_region termsQ ?_
  simp only [List.size_toArray, List.length_cons, List.length_nil, Nat.reduceAdd, Nat.zero_add, List.range, List.range.loop]
  refine oq_rd rfl (by rfl) (fun w₁ hw₁ K hK => ?_)
  clear hw₁
  go_simp
  refine hK _ (fun e he => ?_) ?_
  · have hm := mem_listed he
    simp [go_sem] at hm
  clear hK K w₁
  try walk_nrm
  refine opsQ_nil termsQ ?_
  refine wpQ_ret termsQ ?_
  exact ⟨rfl, rfl, rfl, HS.keep⟩
end Go.Proofs.Ytmhbjmkdekgmlaa.Sim
