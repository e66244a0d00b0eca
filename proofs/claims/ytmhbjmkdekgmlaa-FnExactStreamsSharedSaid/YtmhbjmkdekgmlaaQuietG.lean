/-
  The laws' helpers on rows of rows, called between two crews: the rows are marked; they are held; equal rows are told equal.
  Conditions: the rows lie apart, hold nothing that names a place, and are not among the blocks that are touched atomically alone; they are not long.
-/
import Derived.Test.YtmhbjmkdekgmlaaQuietF
import Derived.Test.YtmhbjmkdekgmlaaQuietD
import Derived.IntWalk
set_option linter.unusedSimpArgs false
set_option linter.unusedVariables false
namespace Go.Proofs.Ytmhbjmkdekgmlaa.Sim
open Go Go.Conc Go.ConcN Go.RowKit
open Go.Proofs.Ytmhbjmkdekgmlaa.Seeds (Sd SdObj splitS wordsV validB cells3 RdRow marksL marksL_len)

/-- Rows of int64: the slice of rows, and each row; they lie apart. -/
structure Rows (w : World) (lo n cnt : Nat) (v : Value) (X : Nat → List Value) (rs : List Value) : Prop where
  out : w.ownsRow lo 29 1 v n rs
  row : ∀ (j : Nat) r, rs[j]? = some r → RowC w lo 2 1 r cnt (X j)
  sep : ∀ (j j' : Nat) r r' g, rs[j]? = some r → rs[j']? = some r' → j ≠ j' → r.ownBlock = some g → r'.ownBlock ≠ some g
  off : ∀ (j : Nat) r g, rs[j]? = some r → r.ownBlock = some g → v.ownBlock ≠ some g
/-- The blocks of the rows. -/
def RowsIn (rs : List Value) (g : Nat) : Prop := ∃ (j : Nat) (r : Value), rs[j]? = some r ∧ r.ownBlock = some g
section
variable {w w' : World} {lo n cnt : Nat} {v : Value} {X Y : Nat → List Value} {rs : List Value}
theorem Rows.of (h : Rows w lo n cnt v X rs) (hk : ∀ g, v.ownBlock = some g ∨ RowsIn rs g → w'.heap[g]? = w.heap[g]?) : Rows w' lo n cnt v X rs :=
  ⟨Seeds.ownsRow_of h.out fun g hg => hk g (.inl hg), fun j r hr => (h.row j r hr).of fun g hg => hk g (.inr ⟨j, r, hr, hg⟩), h.sep, h.off⟩
theorem Rows.lt (h : Rows w lo n cnt v X rs) {g : Nat} (hg : v.ownBlock = some g ∨ RowsIn rs g) : g < w.heap.size ∧ lo ≤ g := by
  rcases hg with hg | ⟨j, r, hr, hg⟩
  · exact ownsRow_lt h.out hg
  · exact (h.row j r hr).lt hg
theorem Rows.keep {X' : Nat → Prop} (h : Rows w lo n cnt v X rs) (k : KeepQ X' w w') (hX : ∀ g, v.ownBlock = some g ∨ RowsIn rs g → ¬ X' g) : Rows w' lo n cnt v X rs :=
  h.of fun g hg => k.keep g (h.lt hg).1 (hX g hg)
theorem Rows.len (h : Rows w lo n cnt v X rs) : rs.length = n := by have := h.out.1; omega
theorem Rows.ext (h : Rows w lo n cnt v X rs) (hx : ∀ j, j < n → X j = Y j) : Rows w lo n cnt v Y rs :=
  ⟨h.out, fun j r hr => by rw [← hx j (by have := (List.getElem?_eq_some_iff.1 hr).1; rw [h.len] at this; exact this)]; exact h.row j r hr, h.sep, h.off⟩
theorem Rows.form (h : Rows w lo n cnt v X rs) : ∃ pa ca, v = .slice pa n ca := by
  rcases h.out.2 with ⟨rfl, rfl⟩ | ⟨g, cap, cur, rfl, _⟩
  · exact ⟨_, _, rfl⟩
  · exact ⟨_, _, rfl⟩
/-- Row number j. -/
theorem Rows.at {pa : Option Addr} {ca j : Nat} (h : Rows w lo n cnt (.slice pa n ca) X rs) (hj : j < n) : ∃ g r, pa = some ⟨g, 0, none⟩ ∧ rs[j]? = some r ∧ w.cell? ⟨g, j, none⟩ = some r ∧ RowC w lo 2 1 r cnt (X j) ∧ g < w.heap.size ∧ ∃ p c', r = .slice p cnt c' := by
  have hr : rs[j]? = some (rs[j]'(by rw [h.len]; exact hj)) := List.getElem?_eq_getElem _
  have hrow := h.row j _ hr
  have hf : ∃ p c', rs[j]'(by rw [h.len]; exact hj) = .slice p cnt c' := by
    rcases hrow.1.2 with ⟨e, rfl⟩ | ⟨g, cap, cur, e, _⟩
    · exact ⟨_, _, e⟩
    · exact ⟨_, _, e⟩
  rcases h.out.2 with ⟨e, rfl⟩ | ⟨g, cap, cur, e, _⟩
  · omega
  · cases e
    exact ⟨g, _, rfl, hr, (h.out.cellAt j (by omega)).trans hr, hrow, (h.lt (.inl rfl)).1, hf⟩
end

theorem thenQ_rely {Fin : End} {fn : FuncId} {x : Code} {Q Q' : Exit → Act → Gh → World → Prop} : ∀ (a : Act) (c : Gh) (w w1 : World), ThenQ (fun a' c' w' => WpQ Try.prog true (γ := Gh) AtR DQ (Fine Fin) fn x Q a' c' w') Q' .normal a c w → AtR c w w1 → ThenQ (fun a' c' w' => WpQ Try.prog true (γ := Gh) AtR DQ (Fine Fin) fn x Q a' c' w') Q' .normal a c w1 :=
  fun _ _ _ _ h r => wpQ_rely termsQ h r
section
variable {Fin : End} {c : Gh} {w : World}
set_option maxRecDepth 100000 in
set_option maxHeartbeats 8000000 in
theorem cq_markSS {lo n cnt k : Nat} {v : Value} {X : Nat → List Value} {rs : List Value} (h : Rows w lo n cnt v X rs) (hn : n ≤ 16) (hc : cnt ≤ 256) (hk : k ≤ 1000)
    (hSb : ∀ b, c.1 b → b < w.heap.size) (na : ∀ g, v.ownBlock = some g ∨ RowsIn rs g → ¬ c.1 g) :
    CQ Fin 51 #[v, .int .i64 k] c w fun v' c' w' => v' = .int .i64 ((k + n * cnt : Nat) : Int) ∧ c' = c ∧ KeepQ (RowsIn rs) w w' ∧ Rows w' lo n cnt v (fun i => (marksL (k + i * cnt) cnt).map (Value.int .i64)) rs := by
  obtain ⟨pa, ca, rfl⟩ := h.form
  have hnt : Try.f51.ntmps = 19 := by kernel_rfl
  have e : (#[Value.slice pa n ca, Value.int .i64 k] ++ Array.replicate (Try.f51.ntmps - (#[Value.slice pa n ca, Value.int .i64 k] : Array Value).size) undef) = #[Value.slice pa n ca, Value.int .i64 k, undef, undef, undef, undef, undef, undef, undef, undef, undef, undef, undef, undef, undef, undef, undef, undef, undef] := by
    rw [hnt]
    simp
  refine callQ_of termsQ Try.func51 (by kernel_rfl) (x := Try.f51.body.getD .skip) (by rfl) ?_
  rw [e]
  clear e hnt
  simp only [Try.f51, Option.getD_some]
  refine wpQ_seq termsQ ?_
  refine wpQ_region termsQ ?_
  simp only [List.size_toArray, List.length_cons, List.length_nil, Nat.reduceAdd, Nat.zero_add, List.range, List.range.loop]
  refine oq_rd rfl (by rfl) (fun w₁ hw₁ K hK => ?_)
  clear hw₁
  go_simp
  refine hK _ (fun e he => ?_) ?_
  · have hm := mem_listed he
    simp [go_sem] at hm
  clear hK K w₁
  try walk_nrm
  refine opsQ_nil termsQ ?_
  refine wpQ_seq termsQ ?_
  refine wpQ_seq termsQ ?_
  refine wpQ_region termsQ ?_
  simp only [List.size_toArray, List.length_cons, List.length_nil, Nat.reduceAdd, Nat.zero_add, List.range, List.range.loop]
  refine oq_rd rfl (by rfl) (fun w₁ hw₁ K hK => ?_)
  clear hw₁
  go_simp
  refine hK _ (fun e he => ?_) ?_
  · have hm := mem_listed he
    simp [go_sem] at hm
  clear hK K w₁
  try walk_nrm
  refine opsQ_nil termsQ ?_
  refine wpQ_block termsQ (wpQ_loop termsQ (N := n) (fun N a c' w' => ∃ (j : Nat) (u6 u7 u8 u9 u10 u11 u12 u13 u14 u15 u16 u17 : Value), a = ⟨#[.slice pa n ca, .int .i64 ((k + j * cnt : Nat) : Int), undef, undef, .int .i64 0, .int .i64 j, u6, u7, u8, u9, u10, u11, u12, u13, u14, u15, u16, u17, undef], []⟩ ∧ j ≤ n ∧ N = n - j ∧ c' = c ∧ KeepQ (RowsIn rs) w w' ∧ Rows w' lo n cnt (.slice pa n ca) (fun i => if i < j then (marksL (k + i * cnt) cnt).map (Value.int .i64) else X i) rs)
    ⟨0, undef, undef, undef, undef, undef, undef, undef, undef, undef, undef, undef, undef, by simp, Nat.zero_le _, rfl, rfl, KeepQ.refl _ _, h.ext fun j hj => by simp⟩ ?_)
  rintro N a c' w' ⟨j, u6, u7, u8, u9, u10, u11, u12, u13, u14, u15, u16, u17, rfl, hj, rfl, rfl, hkp, hR⟩
  have hSb' : ∀ b, c'.1 b → b < w'.heap.size := fun b hb => Nat.lt_of_lt_of_le (hSb b hb) hkp.size
  by_cases hjn : j < n
  · have hlt : decide (j < n) = true := decide_eq_true hjn
    obtain ⟨g, r, rfl, hrs, hcell, hrow, hg, p1, c1, hr⟩ := hR.at hjn
    have ng : ¬ c'.1 g := na g (.inl rfl)
    have hown : ∀ g', r.ownBlock = some g' → RowsIn rs g' := fun g' hg' => ⟨j, r, hrs, hg'⟩
    obtain ⟨q, hq⟩ : ∃ q, q = k + j * cnt := ⟨_, rfl⟩
    rw [← hq]
    have hcall := cq_markRow (Fin := Fin) (c := c') (w := w') (k := q) hrow (by omega) (by have : j * cnt ≤ 16 * 256 := Nat.mul_le_mul (by omega) hc; omega) hSb' (fun g' hg' => na g' (.inr (hown g' hg')))
    rw [hr] at hcall hcell
    have HR := Lib.hid hR
    have HC := Lib.hid hcall
    have HQ := Lib.hid hq
    clear hR hcall hq
    refine wpQ_seq termsQ ?_
    refine wpQ_seq termsQ ?_
    refine wpQ_region termsQ ?_
    simp only [List.size_toArray, List.length_cons, List.length_nil, Nat.reduceAdd, Nat.zero_add, List.range, List.range.loop]
    refine oq_rd rfl (by rfl) (fun w₁ hw₁ K hK => ?_)
    clear hw₁
    go_simp
    refine hK _ (fun e he => ?_) ?_
    · have hm := mem_listed he
      simp [go_sem] at hm
    clear hK K w₁
    try walk_nrm
    refine oq_rd rfl (by rfl) (fun w₁ hw₁ K hK => ?_)
    clear hw₁
    go_simp
    refine hK _ (fun e he => ?_) ?_
    · have hm := mem_listed he
      simp [go_sem] at hm
    clear hK K w₁
    try walk_nrm
    refine oq_rd rfl (by rfl) (fun w₁ hw₁ K hK => ?_)
    clear hw₁
    go_simp
    refine hK _ (fun e he => ?_) ?_
    · have hm := mem_listed he
      simp [go_sem] at hm
    clear hK K w₁
    try walk_nrm
    refine oq_rd rfl (by rfl) (fun w₁ hw₁ K hK => ?_)
    clear hw₁
    go_simp
    refine hK _ (fun e he => ?_) ?_
    · have hm := mem_listed he
      simp [go_sem] at hm
    clear hK K w₁
    try walk_nrm
    refine opsQ_nil termsQ ?_
    refine wpQ_cond termsQ (t := true) (by first | rfl | simp [Act.eval, *]) ?_
    simp only [if_true, if_false, Bool.false_eq_true, ↓reduceIte]
    refine wpQ_skip termsQ ?_
    refine wpQ_seq termsQ ?_
    refine wpQ_block termsQ ?_
    refine wpQ_region termsQ ?_
    simp only [List.size_toArray, List.length_cons, List.length_nil, Nat.reduceAdd, Nat.zero_add, List.range, List.range.loop]
    refine oq_rd rfl (by rfl) (fun w₁ hw₁ K hK => ?_)
    clear hw₁
    go_simp
    refine hK _ (fun e he => ?_) ?_
    · have hm := mem_listed he
      simp [go_sem] at hm
    clear hK K w₁
    try walk_nrm
    refine oq_rd rfl (by rfl) (fun w₁ hw₁ K hK => ?_)
    clear hw₁
    go_simp
    refine hK _ (fun e he => ?_) ?_
    · have hm := mem_listed he
      simp [go_sem] at hm
    clear hK K w₁
    try walk_nrm
    refine oq_rd rfl (by rfl) (fun w₁ hw₁ K hK => ?_)
    clear hw₁
    go_simp
    refine hK _ (fun e he => ?_) ?_
    · have hm := mem_listed he
      simp [go_sem] at hm
      rw [events_indexAt_slice _ _ _ _ _ _ (by kernel_rfl) ⟨by omega, by omega⟩] at hm
      simp at hm
    clear hK K w₁
    try walk_nrm
    refine oq_rd rfl (by rfl) (fun w₁ hw₁ K hK => ?_)
    have h1 := (cell_same hw₁ ⟨g, j, none⟩).1.trans hcell
    clear hw₁
    go_simp
    refine hK _ (fun e he => ?_) ?_
    · have hm := mem_listed he
      simp [go_sem, h1] at hm
      subst hm
      exact evq_cell ng hg
    clear hK K h1 w₁
    try walk_nrm
    refine oq_rd rfl (by rfl) (fun w₁ hw₁ K hK => ?_)
    clear hw₁
    go_simp
    refine hK _ (fun e he => ?_) ?_
    · have hm := mem_listed he
      simp [go_sem] at hm
    clear hK K w₁
    try walk_nrm
    refine oq_call rfl (by rfl) rfl (by simp [Act.eval]) HC.out ?_
    rintro v1 c1' w1 ⟨rfl, rfl, hk1, hrow1⟩
    try walk_nrm
    refine oq_rd rfl (by rfl) (fun w₁ hw₁ K hK => ?_)
    clear hw₁
    go_simp
    refine hK _ (fun e he => ?_) ?_
    · have hm := mem_listed he
      simp [go_sem] at hm
    clear hK K w₁
    try walk_nrm
    refine opsQ_nil termsQ ?_
    refine wpQ_region termsQ ?_
    simp only [List.size_toArray, List.length_cons, List.length_nil, Nat.reduceAdd, Nat.zero_add, List.range, List.range.loop]
    refine oq_rd rfl (by rfl) (fun w₁ hw₁ K hK => ?_)
    clear hw₁
    go_simp
    refine hK _ (fun e he => ?_) ?_
    · have hm := mem_listed he
      simp [go_sem] at hm
    clear hK K w₁
    try walk_nrm
    refine oq_rd rfl (by rfl) (fun w₁ hw₁ K hK => ?_)
    clear hw₁
    go_simp
    refine hK _ (fun e he => ?_) ?_
    · have hm := mem_listed he
      simp [go_sem] at hm
    clear hK K w₁
    try walk_nrm
    refine oq_rd rfl (by rfl) (fun w₁ hw₁ K hK => ?_)
    clear hw₁
    go_simp
    refine hK _ (fun e he => ?_) ?_
    · have hm := mem_listed he
      simp [go_sem] at hm
    clear hK K w₁
    try walk_nrm
    refine opsQ_nil termsQ ?_
    have hq := HQ.out
    have e1 : ((q : Int) + (cnt : Int)) = ((k + (j + 1) * cnt : Nat) : Int) := by rw [Nat.succ_mul]; omega
    have e2 : IntKind.i64.wrap ((j : Int) + 1) = ((j + 1 : Nat) : Int) := by rw [IntKind.wrap_i64]; omega
    rw [e1, e2]
    subst hq
    refine ⟨n - (j + 1), by omega, j + 1, _, _, _, _, _, _, _, _, _, _, _, _, rfl, by omega, rfl, rfl, (hkp.trans hk1).mono fun b _ hb => ?_, ?_⟩
    · rw [← hr] at hb
      exact hb.elim id fun x => hown b x
    · rw [← hr] at hk1 hrow1
      refine ⟨Seeds.ownsRow_of HR.out.out fun g' hg' => hk1.keep g' (HR.out.lt (.inl hg')).1 fun x => HR.out.off j r g' hrs x hg', fun i r' hr' => ?_, HR.out.sep, HR.out.off⟩
      by_cases hij : i = j
      · subst hij
        rw [hrs] at hr'
        cases hr'
        simp only [Nat.lt_succ_self, if_true]
        exact hrow1
      · have := HR.out.row i r' hr'
        have e : (if i < j + 1 then (marksL (k + i * cnt) cnt).map (Value.int .i64) else X i) = (if i < j then (marksL (k + i * cnt) cnt).map (Value.int .i64) else X i) := by
          by_cases h1 : i < j
          · rw [if_pos h1, if_pos (by omega)]
          · rw [if_neg h1, if_neg (by omega)]
        simp only [e]
        exact this.of fun g' hg' => hk1.keep g' (this.lt hg').1 fun x => HR.out.sep i j r' r g' hr' hrs hij hg' x
  · have hlt : decide (j < n) = false := decide_eq_false hjn
    refine wpQ_seq termsQ ?_
    refine wpQ_seq termsQ ?_
    refine wpQ_region termsQ ?_
    simp only [List.size_toArray, List.length_cons, List.length_nil, Nat.reduceAdd, Nat.zero_add, List.range, List.range.loop]
    refine oq_rd rfl (by rfl) (fun w₁ hw₁ K hK => ?_)
    clear hw₁
    go_simp
    refine hK _ (fun e he => ?_) ?_
    · have hm := mem_listed he
      simp [go_sem] at hm
    clear hK K w₁
    try walk_nrm
    refine oq_rd rfl (by rfl) (fun w₁ hw₁ K hK => ?_)
    clear hw₁
    go_simp
    refine hK _ (fun e he => ?_) ?_
    · have hm := mem_listed he
      simp [go_sem] at hm
    clear hK K w₁
    try walk_nrm
    refine oq_rd rfl (by rfl) (fun w₁ hw₁ K hK => ?_)
    clear hw₁
    go_simp
    refine hK _ (fun e he => ?_) ?_
    · have hm := mem_listed he
      simp [go_sem] at hm
    clear hK K w₁
    try walk_nrm
    refine oq_rd rfl (by rfl) (fun w₁ hw₁ K hK => ?_)
    clear hw₁
    go_simp
    refine hK _ (fun e he => ?_) ?_
    · have hm := mem_listed he
      simp [go_sem] at hm
    clear hK K w₁
    try walk_nrm
    refine opsQ_nil termsQ ?_
    refine wpQ_cond termsQ (t := false) (by first | rfl | simp [Act.eval, *]) ?_
    simp only [if_true, if_false, Bool.false_eq_true, ↓reduceIte]
    refine wpQ_exit termsQ ?_
    simp only [BlockQ, ThenQ, if_true]
    refine wpQ_seq termsQ ?_
    refine wpQ_region termsQ ?_
    simp only [List.size_toArray, List.length_cons, List.length_nil, Nat.reduceAdd, Nat.zero_add, List.range, List.range.loop]
    refine oq_rd rfl (by rfl) (fun w₁ hw₁ K hK => ?_)
    clear hw₁
    go_simp
    refine hK _ (fun e he => ?_) ?_
    · have hm := mem_listed he
      simp [go_sem] at hm
    clear hK K w₁
    try walk_nrm
    refine oq_rd rfl (by rfl) (fun w₁ hw₁ K hK => ?_)
    clear hw₁
    go_simp
    refine hK _ (fun e he => ?_) ?_
    · have hm := mem_listed he
      simp [go_sem] at hm
    clear hK K w₁
    try walk_nrm
    refine opsQ_nil termsQ ?_
    refine wpQ_ret termsQ ?_
    refine ⟨rfl, _, resultsC_tmp (t := 4) (by kernel_rfl) _, ?_, rfl, hkp, ?_⟩
    · have : j = n := by omega
      subst this
      simp
    · exact hR.ext fun i hi => by rw [if_pos (by omega)]

set_option maxRecDepth 100000 in
set_option maxHeartbeats 8000000 in
theorem cq_heldSS {lo n cnt k : Nat} {v : Value} {rs : List Value} (h : Rows w lo n cnt v (fun i => (marksL (k + i * cnt) cnt).map (Value.int .i64)) rs) (hn : n ≤ 16) (hc : cnt ≤ 256) (hk : k ≤ 1000)
    (hSb : ∀ b, c.1 b → b < w.heap.size) (na : ∀ g, v.ownBlock = some g ∨ RowsIn rs g → ¬ c.1 g) :
    CQ Fin 52 #[v, .int .i64 k] c w fun v' c' w' => v' = .int .i64 ((k + n * cnt : Nat) : Int) ∧ c' = c ∧ KeepQ (fun _ => False) w w' := by
  obtain ⟨pa, ca, rfl⟩ := h.form
  have hnt : Try.f52.ntmps = 21 := by kernel_rfl
  have e : (#[Value.slice pa n ca, Value.int .i64 k] ++ Array.replicate (Try.f52.ntmps - (#[Value.slice pa n ca, Value.int .i64 k] : Array Value).size) undef) = #[Value.slice pa n ca, Value.int .i64 k, undef, undef, undef, undef, undef, undef, undef, undef, undef, undef, undef, undef, undef, undef, undef, undef, undef, undef, undef] := by
    rw [hnt]
    simp
  refine callQ_of termsQ Try.func52 (by kernel_rfl) (x := Try.f52.body.getD .skip) (by rfl) ?_
  rw [e]
  clear e hnt
  simp only [Try.f52, Option.getD_some]
  refine wpQ_seq termsQ ?_
  refine wpQ_region termsQ ?_
  simp only [List.size_toArray, List.length_cons, List.length_nil, Nat.reduceAdd, Nat.zero_add, List.range, List.range.loop]
  refine oq_rd rfl (by rfl) (fun w₁ hw₁ K hK => ?_)
  clear hw₁
  go_simp
  refine hK _ (fun e he => ?_) ?_
  · have hm := mem_listed he
    simp [go_sem] at hm
  clear hK K w₁
  try walk_nrm
  refine opsQ_nil termsQ ?_
  refine wpQ_seq termsQ ?_
  refine wpQ_seq termsQ ?_
  refine wpQ_region termsQ ?_
  simp only [List.size_toArray, List.length_cons, List.length_nil, Nat.reduceAdd, Nat.zero_add, List.range, List.range.loop]
  refine oq_rd rfl (by rfl) (fun w₁ hw₁ K hK => ?_)
  clear hw₁
  go_simp
  refine hK _ (fun e he => ?_) ?_
  · have hm := mem_listed he
    simp [go_sem] at hm
  clear hK K w₁
  try walk_nrm
  refine opsQ_nil termsQ ?_
  refine wpQ_block termsQ (wpQ_loop termsQ (N := n) (fun N a c' w' => ∃ (j : Nat) (u6 u7 u8 u9 u10 u11 u12 u13 u14 u15 u16 u17 u18 u19 : Value), a = ⟨#[.slice pa n ca, .int .i64 ((k + j * cnt : Nat) : Int), undef, undef, .int .i64 0, .int .i64 j, u6, u7, u8, u9, u10, u11, u12, u13, u14, u15, u16, u17, u18, u19, undef], []⟩ ∧ j ≤ n ∧ N = n - j ∧ c' = c ∧ KeepQ (fun _ => False) w w')
    ⟨0, undef, undef, undef, undef, undef, undef, undef, undef, undef, undef, undef, undef, undef, undef, by simp, Nat.zero_le _, rfl, rfl, KeepQ.refl _ _⟩ ?_)
  rintro N a c' w' ⟨j, u6, u7, u8, u9, u10, u11, u12, u13, u14, u15, u16, u17, u18, u19, rfl, hj, rfl, rfl, hkp⟩
  have hSb' : ∀ b, c'.1 b → b < w'.heap.size := fun b hb => Nat.lt_of_lt_of_le (hSb b hb) hkp.size
  by_cases hjn : j < n
  · have hlt : decide (j < n) = true := decide_eq_true hjn
    have hR := h.keep hkp fun _ _ x => x
    obtain ⟨g, r, rfl, hrs, hcell, hrow, hg, p1, c1, hr⟩ := hR.at hjn
    have ng : ¬ c'.1 g := na g (.inl rfl)
    have hown : ∀ g', r.ownBlock = some g' → RowsIn rs g' := fun g' hg' => ⟨j, r, hrs, hg'⟩
    obtain ⟨q, hq⟩ : ∃ q, q = k + j * cnt := ⟨_, rfl⟩
    rw [← hq]
    rw [← hq] at hrow
    have hcall := cq_heldRow (Fin := Fin) (c := c') (w := w') (k := q) hrow (by omega) (by have : j * cnt ≤ 16 * 256 := Nat.mul_le_mul (by omega) hc; omega) hSb' (fun g' hg' => na g' (.inr (hown g' hg')))
    rw [hr] at hcall hcell
    have hnn : decide ((q : Int) + (cnt : Int) < 0) = false := decide_eq_false (by omega)
    have HH := Lib.hid h
    have HC := Lib.hid hcall
    have HQ := Lib.hid hq
    clear h hR hcall hq hrow
    refine wpQ_seq termsQ ?_
    refine wpQ_seq termsQ ?_
    refine wpQ_region termsQ ?_
    simp only [List.size_toArray, List.length_cons, List.length_nil, Nat.reduceAdd, Nat.zero_add, List.range, List.range.loop]
    refine oq_rd rfl (by rfl) (fun w₁ hw₁ K hK => ?_)
    clear hw₁
    go_simp
    refine hK _ (fun e he => ?_) ?_
    · have hm := mem_listed he
      simp [go_sem] at hm
    clear hK K w₁
    try walk_nrm
    refine oq_rd rfl (by rfl) (fun w₁ hw₁ K hK => ?_)
    clear hw₁
    go_simp
    refine hK _ (fun e he => ?_) ?_
    · have hm := mem_listed he
      simp [go_sem] at hm
    clear hK K w₁
    try walk_nrm
    refine oq_rd rfl (by rfl) (fun w₁ hw₁ K hK => ?_)
    clear hw₁
    go_simp
    refine hK _ (fun e he => ?_) ?_
    · have hm := mem_listed he
      simp [go_sem] at hm
    clear hK K w₁
    try walk_nrm
    refine oq_rd rfl (by rfl) (fun w₁ hw₁ K hK => ?_)
    clear hw₁
    go_simp
    refine hK _ (fun e he => ?_) ?_
    · have hm := mem_listed he
      simp [go_sem] at hm
    clear hK K w₁
    try walk_nrm
    refine opsQ_nil termsQ ?_
    refine wpQ_cond termsQ (t := true) (by first | rfl | simp [Act.eval, *]) ?_
    simp only [if_true, if_false, Bool.false_eq_true, ↓reduceIte]
    refine wpQ_skip termsQ ?_
    refine wpQ_seq termsQ ?_
    refine wpQ_block termsQ ?_
    refine wpQ_seq termsQ ?_
    refine wpQ_region termsQ ?_
    simp only [List.size_toArray, List.length_cons, List.length_nil, Nat.reduceAdd, Nat.zero_add, List.range, List.range.loop]
    refine oq_rd rfl (by rfl) (fun w₁ hw₁ K hK => ?_)
    clear hw₁
    go_simp
    refine hK _ (fun e he => ?_) ?_
    · have hm := mem_listed he
      simp [go_sem] at hm
    clear hK K w₁
    try walk_nrm
    refine oq_rd rfl (by rfl) (fun w₁ hw₁ K hK => ?_)
    clear hw₁
    go_simp
    refine hK _ (fun e he => ?_) ?_
    · have hm := mem_listed he
      simp [go_sem] at hm
    clear hK K w₁
    try walk_nrm
    refine oq_rd rfl (by rfl) (fun w₁ hw₁ K hK => ?_)
    clear hw₁
    go_simp
    refine hK _ (fun e he => ?_) ?_
    · have hm := mem_listed he
      simp [go_sem] at hm
      rw [events_indexAt_slice _ _ _ _ _ _ (by kernel_rfl) ⟨by omega, by omega⟩] at hm
      simp at hm
    clear hK K w₁
    try walk_nrm
    refine oq_rd rfl (by rfl) (fun w₁ hw₁ K hK => ?_)
    have h1 := (cell_same hw₁ ⟨g, j, none⟩).1.trans hcell
    clear hw₁
    go_simp
    refine hK _ (fun e he => ?_) ?_
    · have hm := mem_listed he
      simp [go_sem, h1] at hm
      subst hm
      exact evq_cell ng hg
    clear hK K h1 w₁
    try walk_nrm
    refine oq_rd rfl (by rfl) (fun w₁ hw₁ K hK => ?_)
    clear hw₁
    go_simp
    refine hK _ (fun e he => ?_) ?_
    · have hm := mem_listed he
      simp [go_sem] at hm
    clear hK K w₁
    try walk_nrm
    refine oq_call rfl (by rfl) rfl (by simp [Act.eval]) HC.out ?_
    rintro v1 c1' w1 ⟨rfl, rfl, hk1⟩
    try walk_nrm
    refine oq_rd rfl (by rfl) (fun w₁ hw₁ K hK => ?_)
    clear hw₁
    go_simp
    refine hK _ (fun e he => ?_) ?_
    · have hm := mem_listed he
      simp [go_sem] at hm
    clear hK K w₁
    try walk_nrm
    refine opsQ_nil termsQ ?_
    refine wpQ_seq termsQ ?_
    refine wpQ_region termsQ ?_
    simp only [List.size_toArray, List.length_cons, List.length_nil, Nat.reduceAdd, Nat.zero_add, List.range, List.range.loop]
    refine oq_rd rfl (by rfl) (fun w₁ hw₁ K hK => ?_)
    clear hw₁
    go_simp
    refine hK _ (fun e he => ?_) ?_
    · have hm := mem_listed he
      simp [go_sem] at hm
    clear hK K w₁
    try walk_nrm
    refine oq_rd rfl (by rfl) (fun w₁ hw₁ K hK => ?_)
    clear hw₁
    go_simp
    refine hK _ (fun e he => ?_) ?_
    · have hm := mem_listed he
      simp [go_sem] at hm
    clear hK K w₁
    try walk_nrm
    refine opsQ_nil termsQ ?_
    refine wpQ_cond termsQ (t := false) (by first | rfl | simp [Act.eval, *]) ?_
    simp only [if_true, if_false, Bool.false_eq_true, ↓reduceIte]
    refine wpQ_skip termsQ ?_
    refine wpQ_region termsQ ?_
    simp only [List.size_toArray, List.length_cons, List.length_nil, Nat.reduceAdd, Nat.zero_add, List.range, List.range.loop]
    refine oq_rd rfl (by rfl) (fun w₁ hw₁ K hK => ?_)
    clear hw₁
    go_simp
    refine hK _ (fun e he => ?_) ?_
    · have hm := mem_listed he
      simp [go_sem] at hm
    clear hK K w₁
    try walk_nrm
    refine oq_rd rfl (by rfl) (fun w₁ hw₁ K hK => ?_)
    clear hw₁
    go_simp
    refine hK _ (fun e he => ?_) ?_
    · have hm := mem_listed he
      simp [go_sem] at hm
    clear hK K w₁
    try walk_nrm
    refine oq_rd rfl (by rfl) (fun w₁ hw₁ K hK => ?_)
    clear hw₁
    go_simp
    refine hK _ (fun e he => ?_) ?_
    · have hm := mem_listed he
      simp [go_sem] at hm
    clear hK K w₁
    try walk_nrm
    refine opsQ_nil termsQ ?_
    have hq := HQ.out
    have e1 : ((q : Int) + (cnt : Int)) = ((k + (j + 1) * cnt : Nat) : Int) := by rw [Nat.succ_mul]; omega
    have e2 : IntKind.i64.wrap ((j : Int) + 1) = ((j + 1 : Nat) : Int) := by rw [IntKind.wrap_i64]; omega
    rw [e1, e2]
    exact ⟨n - (j + 1), by omega, j + 1, _, _, _, _, _, _, _, _, _, _, _, _, _, _, rfl, by omega, rfl, rfl, (hkp.trans hk1).mono fun b _ hb => hb.elim id id⟩
  · have hlt : decide (j < n) = false := decide_eq_false hjn
    refine wpQ_seq termsQ ?_
    refine wpQ_seq termsQ ?_
    refine wpQ_region termsQ ?_
    simp only [List.size_toArray, List.length_cons, List.length_nil, Nat.reduceAdd, Nat.zero_add, List.range, List.range.loop]
    refine oq_rd rfl (by rfl) (fun w₁ hw₁ K hK => ?_)
    clear hw₁
    go_simp
    refine hK _ (fun e he => ?_) ?_
    · have hm := mem_listed he
      simp [go_sem] at hm
    clear hK K w₁
    try walk_nrm
    refine oq_rd rfl (by rfl) (fun w₁ hw₁ K hK => ?_)
    clear hw₁
    go_simp
    refine hK _ (fun e he => ?_) ?_
    · have hm := mem_listed he
      simp [go_sem] at hm
    clear hK K w₁
    try walk_nrm
    refine oq_rd rfl (by rfl) (fun w₁ hw₁ K hK => ?_)
    clear hw₁
    go_simp
    refine hK _ (fun e he => ?_) ?_
    · have hm := mem_listed he
      simp [go_sem] at hm
    clear hK K w₁
    try walk_nrm
    refine oq_rd rfl (by rfl) (fun w₁ hw₁ K hK => ?_)
    clear hw₁
    go_simp
    refine hK _ (fun e he => ?_) ?_
    · have hm := mem_listed he
      simp [go_sem] at hm
    clear hK K w₁
    try walk_nrm
    refine opsQ_nil termsQ ?_
    refine wpQ_cond termsQ (t := false) (by first | rfl | simp [Act.eval, *]) ?_
    simp only [if_true, if_false, Bool.false_eq_true, ↓reduceIte]
    refine wpQ_exit termsQ ?_
    simp only [BlockQ, ThenQ, if_true]
    refine wpQ_seq termsQ ?_
    refine wpQ_region termsQ ?_
    simp only [List.size_toArray, List.length_cons, List.length_nil, Nat.reduceAdd, Nat.zero_add, List.range, List.range.loop]
    refine oq_rd rfl (by rfl) (fun w₁ hw₁ K hK => ?_)
    clear hw₁
    go_simp
    refine hK _ (fun e he => ?_) ?_
    · have hm := mem_listed he
      simp [go_sem] at hm
    clear hK K w₁
    try walk_nrm
    refine oq_rd rfl (by rfl) (fun w₁ hw₁ K hK => ?_)
    clear hw₁
    go_simp
    refine hK _ (fun e he => ?_) ?_
    · have hm := mem_listed he
      simp [go_sem] at hm
    clear hK K w₁
    try walk_nrm
    refine opsQ_nil termsQ ?_
    refine wpQ_ret termsQ ?_
    refine ⟨rfl, _, resultsC_tmp (t := 4) (by kernel_rfl) _, ?_, rfl, hkp⟩
    have : j = n := by omega
    subst this
    simp

set_option maxRecDepth 100000 in
set_option maxHeartbeats 8000000 in
theorem cq_eqSS {la lb n cnt : Nat} {va vb : Value} {L : Nat → List Int} {ra rb : List Value} (ha : Rows w la n cnt va (fun i => (L i).map (Value.int .i64)) ra) (hb : Rows w lb n cnt vb (fun i => (L i).map (Value.int .i64)) rb) (hd : ∀ g, RowsIn ra g → ¬ RowsIn rb g) (hn : n ≤ 16) (hc : cnt ≤ 256)
    (hSb : ∀ b, c.1 b → b < w.heap.size) (na : ∀ g, va.ownBlock = some g ∨ RowsIn ra g → ¬ c.1 g) (nb : ∀ g, vb.ownBlock = some g ∨ RowsIn rb g → ¬ c.1 g) :
    CQ Fin 50 #[va, vb] c w fun v' c' w' => v' = .bool true ∧ c' = c ∧ KeepQ (fun _ => False) w w' := by
  obtain ⟨pa, ca, rfl⟩ := ha.form
  obtain ⟨pb, cb, rfl⟩ := hb.form
  have hnt : Try.f50.ntmps = 27 := by kernel_rfl
  have e : (#[Value.slice pa n ca, Value.slice pb n cb] ++ Array.replicate (Try.f50.ntmps - (#[Value.slice pa n ca, Value.slice pb n cb] : Array Value).size) undef) = #[Value.slice pa n ca, Value.slice pb n cb, undef, undef, undef, undef, undef, undef, undef, undef, undef, undef, undef, undef, undef, undef, undef, undef, undef, undef, undef, undef, undef, undef, undef, undef, undef] := by
    rw [hnt]
    simp
  refine callQ_of termsQ Try.func50 (by kernel_rfl) (x := Try.f50.body.getD .skip) (by rfl) ?_
  rw [e]
  clear e hnt
  simp only [Try.f50, Option.getD_some]
  refine wpQ_seq termsQ ?_
  refine wpQ_region termsQ ?_
  simp only [List.size_toArray, List.length_cons, List.length_nil, Nat.reduceAdd, Nat.zero_add, List.range, List.range.loop]
  refine oq_rd rfl (by rfl) (fun w₁ hw₁ K hK => ?_)
  clear hw₁
  go_simp
  refine hK _ (fun e he => ?_) ?_
  · have hm := mem_listed he
    simp [go_sem] at hm
  clear hK K w₁
  try walk_nrm
  refine opsQ_nil termsQ ?_
  refine wpQ_seq termsQ ?_
  refine wpQ_seq termsQ ?_
  refine wpQ_region termsQ ?_
  simp only [List.size_toArray, List.length_cons, List.length_nil, Nat.reduceAdd, Nat.zero_add, List.range, List.range.loop]
  refine oq_rd rfl (by rfl) (fun w₁ hw₁ K hK => ?_)
  clear hw₁
  go_simp
  refine hK _ (fun e he => ?_) ?_
  · have hm := mem_listed he
    simp [go_sem] at hm
  clear hK K w₁
  try walk_nrm
  refine oq_rd rfl (by rfl) (fun w₁ hw₁ K hK => ?_)
  clear hw₁
  go_simp
  refine hK _ (fun e he => ?_) ?_
  · have hm := mem_listed he
    simp [go_sem] at hm
  clear hK K w₁
  try walk_nrm
  refine oq_rd rfl (by rfl) (fun w₁ hw₁ K hK => ?_)
  clear hw₁
  go_simp
  refine hK _ (fun e he => ?_) ?_
  · have hm := mem_listed he
    simp [go_sem] at hm
  clear hK K w₁
  try walk_nrm
  refine oq_rd rfl (by rfl) (fun w₁ hw₁ K hK => ?_)
  clear hw₁
  go_simp
  refine hK _ (fun e he => ?_) ?_
  · have hm := mem_listed he
    simp [go_sem] at hm
  clear hK K w₁
  try walk_nrm
  refine oq_rd rfl (by rfl) (fun w₁ hw₁ K hK => ?_)
  clear hw₁
  go_simp
  refine hK _ (fun e he => ?_) ?_
  · have hm := mem_listed he
    simp [go_sem] at hm
  clear hK K w₁
  try walk_nrm
  refine opsQ_nil termsQ ?_
  refine wpQ_cond termsQ (t := false) (by first | rfl | simp [Act.eval, *]) ?_
  simp only [if_true, if_false, Bool.false_eq_true, ↓reduceIte]
  refine wpQ_skip termsQ ?_
  refine wpQ_seq termsQ ?_
  refine wpQ_seq termsQ ?_
  refine wpQ_region termsQ ?_
  simp only [List.size_toArray, List.length_cons, List.length_nil, Nat.reduceAdd, Nat.zero_add, List.range, List.range.loop]
  refine oq_rd rfl (by rfl) (fun w₁ hw₁ K hK => ?_)
  clear hw₁
  go_simp
  refine hK _ (fun e he => ?_) ?_
  · have hm := mem_listed he
    simp [go_sem] at hm
  clear hK K w₁
  try walk_nrm
  refine opsQ_nil termsQ ?_
  refine wpQ_block termsQ (wpQ_loop termsQ (N := n) (fun N a c' w' => ∃ (j : Nat) (u6 u7 u8 u9 u10 u11 u12 u13 u14 u15 u16 u17 u18 u19 u20 u21 u22 u23 u24 u25 u26 : Value), a = ⟨#[.slice pa n ca, .slice pb n cb, undef, undef, .bool false, .int .i64 j, u6, u7, u8, u9, u10, u11, u12, u13, u14, u15, u16, u17, u18, u19, u20, u21, u22, u23, u24, u25, u26], []⟩ ∧ j ≤ n ∧ N = n - j ∧ c' = c ∧ KeepQ (fun _ => False) w w')
    ⟨0, _, _, _, _, _, _, _, _, _, _, _, _, _, _, _, _, _, _, _, _, _, rfl, Nat.zero_le _, rfl, rfl, KeepQ.refl _ _⟩ ?_)
  rintro N a c' w' ⟨j, u6, u7, u8, u9, u10, u11, u12, u13, u14, u15, u16, u17, u18, u19, u20, u21, u22, u23, u24, u25, u26, rfl, hj, rfl, rfl, hkp⟩
  have hSb' : ∀ b, c'.1 b → b < w'.heap.size := fun b hb => Nat.lt_of_lt_of_le (hSb b hb) hkp.size
  by_cases hjn : j < n
  · have hlt : decide (j < n) = true := decide_eq_true hjn
    have hR := ha.keep hkp fun _ _ x => x
    have hR' := hb.keep hkp fun _ _ x => x
    obtain ⟨g, r, rfl, hrs, hcell, hrow, hg, p1, c1, hr⟩ := hR.at hjn
    obtain ⟨g', r', rfl, hrs', hcell', hrow', hg', p1', c1', hr'⟩ := hR'.at hjn
    have ng : ¬ c'.1 g := na g (.inl rfl)
    have ng' : ¬ c'.1 g' := nb g' (.inl rfl)
    have hin : ∀ x, r.ownBlock = some x → RowsIn ra x := fun x hx => ⟨j, r, hrs, hx⟩
    have hin' : ∀ x, r'.ownBlock = some x → RowsIn rb x := fun x hx => ⟨j, r', hrs', hx⟩
    have hcall : ∀ w1, KeepQ (fun _ => False) w' w1 → CQ Fin 42 #[r, r'] c' w1 fun v' c'' w'' => v' = .bool true ∧ c'' = c' ∧ KeepQ (fun _ => False) w1 w'' := fun w1 k1 =>
      cq_eqRow (hrow.of fun x hx => k1.keep x (hrow.lt hx).1 id) (hrow'.of fun x hx => k1.keep x (hrow'.lt hx).1 id) (fun x hx hx' => hd x (hin x hx) (hin' x hx')) (by omega) (fun b hb => Nat.lt_of_lt_of_le (hSb' b hb) k1.size) (fun x hx => na x (.inr (hin x hx))) (fun x hx => nb x (.inr (hin' x hx)))
    rw [hr, hr'] at hcall
    rw [hr] at hcell
    rw [hr'] at hcell'
    have HC := Lib.hid hcall
    clear hcall
    refine wpQ_seq termsQ ?_
    refine wpQ_seq termsQ ?_
    refine wpQ_region termsQ ?_
    simp only [List.size_toArray, List.length_cons, List.length_nil, Nat.reduceAdd, Nat.zero_add, List.range, List.range.loop]
    refine oq_rd rfl (by rfl) (fun w₁ hw₁ K hK => ?_)
    clear hw₁
    go_simp
    refine hK _ (fun e he => ?_) ?_
    · have hm := mem_listed he
      simp [go_sem] at hm
    clear hK K w₁
    try walk_nrm
    refine oq_rd rfl (by rfl) (fun w₁ hw₁ K hK => ?_)
    clear hw₁
    go_simp
    refine hK _ (fun e he => ?_) ?_
    · have hm := mem_listed he
      simp [go_sem] at hm
    clear hK K w₁
    try walk_nrm
    refine oq_rd rfl (by rfl) (fun w₁ hw₁ K hK => ?_)
    clear hw₁
    go_simp
    refine hK _ (fun e he => ?_) ?_
    · have hm := mem_listed he
      simp [go_sem] at hm
    clear hK K w₁
    try walk_nrm
    refine oq_rd rfl (by rfl) (fun w₁ hw₁ K hK => ?_)
    clear hw₁
    go_simp
    refine hK _ (fun e he => ?_) ?_
    · have hm := mem_listed he
      simp [go_sem] at hm
    clear hK K w₁
    try walk_nrm
    refine opsQ_nil termsQ ?_
    refine wpQ_cond termsQ (t := true) (by first | rfl | simp [Act.eval, *]) ?_
    simp only [if_true, if_false, Bool.false_eq_true, ↓reduceIte]
    refine wpQ_skip termsQ ?_
    refine wpQ_seq termsQ ?_
    refine wpQ_block termsQ ?_
    refine wpQ_seq termsQ ?_
    refine wpQ_region_held (S := fun c1 w1 => c1 = c' ∧ KeepQ (fun _ => False) w' w1) termsQ (by rfl) (fun w₁ _ => ⟨rfl, Nat.le_refl _, fun e he => by simp at he⟩) fun w₁ h₁ => ?_
    have hS0 : (fun (c1 : Gh) w1 => c1 = c' ∧ KeepQ (fun _ => False) w' w1) c' { w₁ with drawn := w₁.drawn + 1 } := ⟨rfl, by obtain ⟨d, rfl⟩ := h₁; exact ⟨⟨rfl, rfl, rfl⟩, Nat.le_refl _, fun _ _ _ => rfl⟩⟩
    clear h₁
    generalize ({ w₁ with drawn := w₁.drawn + 1 } : World) = w2 at hS0 ⊢
    clear w₁
    have hSR : ∀ (c1 : Gh) x y, (fun (c1 : Gh) w1 => c1 = c' ∧ KeepQ (fun _ => False) w' w1) c1 x → AtR c1 x y → (fun (c1 : Gh) w1 => c1 = c' ∧ KeepQ (fun _ => False) w' w1) c1 y := by
      rintro c1 x y ⟨rfl, k⟩ ⟨d, rfl⟩
      exact ⟨rfl, k.kin, k.size, k.keep⟩
    refine anyQ_take (v := .slice (some ⟨g, 0, none⟩) n ca) (i := 0) termsQ hSR thenQ_rely rfl (by kernel_rfl) (by kernel_rfl) (by kernel_rfl) (.inl ⟨by rfl, fun c1 w1 hS => ⟨?_, ?_⟩⟩) hS0 ?_
    · skip
      go_simp
    · skip
      refine ⟨rfl, Nat.le_refl _, fun e he => ?_⟩
      have hm := mem_listed he
      simp [go_sem] at hm
    walk_nrm
    refine anyQ_take (v := .int .i64 j) (i := 1) termsQ hSR thenQ_rely rfl (by kernel_rfl) (by kernel_rfl) (by kernel_rfl) (.inl ⟨by rfl, fun c1 w1 hS => ⟨?_, ?_⟩⟩) hS0 ?_
    · skip
      go_simp
    · skip
      refine ⟨rfl, Nat.le_refl _, fun e he => ?_⟩
      have hm := mem_listed he
      simp [go_sem] at hm
    walk_nrm
    refine anyQ_take (v := .slice (some ⟨g', 0, none⟩) n cb) (i := 4) termsQ hSR thenQ_rely rfl (by kernel_rfl) (by kernel_rfl) (by kernel_rfl) (.inl ⟨by rfl, fun c1 w1 hS => ⟨?_, ?_⟩⟩) hS0 ?_
    · skip
      go_simp
    · skip
      refine ⟨rfl, Nat.le_refl _, fun e he => ?_⟩
      have hm := mem_listed he
      simp [go_sem] at hm
    walk_nrm
    refine anyQ_take (v := .int .i64 j) (i := 5) termsQ hSR thenQ_rely rfl (by kernel_rfl) (by kernel_rfl) (by kernel_rfl) (.inl ⟨by rfl, fun c1 w1 hS => ⟨?_, ?_⟩⟩) hS0 ?_
    · skip
      go_simp
    · skip
      refine ⟨rfl, Nat.le_refl _, fun e he => ?_⟩
      have hm := mem_listed he
      simp [go_sem] at hm
    walk_nrm
    refine anyQ_take (v := .pointer (some ⟨g, j, none⟩)) (i := 2) termsQ hSR thenQ_rely rfl (by kernel_rfl) (by kernel_rfl) (by kernel_rfl) (.inl ⟨by rfl, fun c1 w1 hS => ⟨?_, ?_⟩⟩) hS0 ?_
    · skip
      go_simp
    · skip
      refine ⟨rfl, Nat.le_refl _, fun e he => ?_⟩
      have hm := mem_listed he
      simp [go_sem] at hm
      rw [events_indexAt_slice _ _ _ _ _ _ (by kernel_rfl) ⟨by omega, by omega⟩] at hm
      simp at hm
    walk_nrm
    refine anyQ_take (v := .pointer (some ⟨g', j, none⟩)) (i := 6) termsQ hSR thenQ_rely rfl (by kernel_rfl) (by kernel_rfl) (by kernel_rfl) (.inl ⟨by rfl, fun c1 w1 hS => ⟨?_, ?_⟩⟩) hS0 ?_
    · skip
      go_simp
    · skip
      refine ⟨rfl, Nat.le_refl _, fun e he => ?_⟩
      have hm := mem_listed he
      simp [go_sem] at hm
      rw [events_indexAt_slice _ _ _ _ _ _ (by kernel_rfl) ⟨by omega, by omega⟩] at hm
      simp at hm
    walk_nrm
    refine anyQ_take (v := .slice p1 cnt c1) (i := 3) termsQ hSR thenQ_rely rfl (by kernel_rfl) (by kernel_rfl) (by kernel_rfl) (.inl ⟨by rfl, fun c1 w1 hS => ⟨?_, ?_⟩⟩) hS0 ?_
    · obtain ⟨rfl, hk1⟩ := hS
      have h1 := (cell_of_heap (a := ⟨g, j, none⟩) (hk1.keep g hg id)).trans hcell
      go_simp
    · obtain ⟨rfl, hk1⟩ := hS
      have h1 := (cell_of_heap (a := ⟨g, j, none⟩) (hk1.keep g hg id)).trans hcell
      refine ⟨rfl, Nat.le_refl _, fun e he => ?_⟩
      have hm := mem_listed he
      simp [go_sem, h1] at hm
      subst hm
      exact evq_cell ng (Nat.lt_of_lt_of_le hg hk1.size)
    walk_nrm
    refine anyQ_take (v := .slice p1' cnt c1') (i := 7) termsQ hSR thenQ_rely rfl (by kernel_rfl) (by kernel_rfl) (by kernel_rfl) (.inl ⟨by rfl, fun c1 w1 hS => ⟨?_, ?_⟩⟩) hS0 ?_
    · obtain ⟨rfl, hk1⟩ := hS
      have h1 := (cell_of_heap (a := ⟨g', j, none⟩) (hk1.keep g' hg' id)).trans hcell'
      go_simp
    · obtain ⟨rfl, hk1⟩ := hS
      have h1 := (cell_of_heap (a := ⟨g', j, none⟩) (hk1.keep g' hg' id)).trans hcell'
      refine ⟨rfl, Nat.le_refl _, fun e he => ?_⟩
      have hm := mem_listed he
      simp [go_sem, h1] at hm
      subst hm
      exact evq_cell ng' (Nat.lt_of_lt_of_le hg' hk1.size)
    walk_nrm
    refine anyQ_one (i := 8) (by kernel_rfl) ?_
    refine opQ_call (f := 42) rfl (by rfl) rfl (by simp [Act.eval]) (HC.out w2 hS0.2) ?_
    rintro v1 c2 w3 ⟨rfl, rfl, hk1⟩
    replace hS0 : (fun (c1 : Gh) w1 => c1 = c2 ∧ KeepQ (fun _ => False) w' w1) c2 w3 := ⟨rfl, (hS0.2.trans hk1).mono fun b _ hb => hb.elim id id⟩
    clear hk1
    refine ⟨hS0, ?_⟩
    walk_nrm
    refine anyQ_take (v := .bool false) (i := 9) termsQ hSR thenQ_rely rfl (by kernel_rfl) (by kernel_rfl) (by kernel_rfl) (.inl ⟨by rfl, fun c1 w1 hS => ⟨?_, ?_⟩⟩) hS0 ?_
    · skip
      go_simp
    · skip
      refine ⟨rfl, Nat.le_refl _, fun e he => ?_⟩
      have hm := mem_listed he
      simp [go_sem] at hm
    walk_nrm
    refine anyQ_done (by kernel_rfl) ?_ _
    have hk3 := hS0.2
    clear hS0 hSR
    refine wpQ_cond termsQ (t := false) (by first | rfl | simp [Act.eval, *]) ?_
    simp only [if_true, if_false, Bool.false_eq_true, ↓reduceIte]
    refine wpQ_skip termsQ ?_
    refine wpQ_region termsQ ?_
    simp only [List.size_toArray, List.length_cons, List.length_nil, Nat.reduceAdd, Nat.zero_add, List.range, List.range.loop]
    refine oq_rd rfl (by rfl) (fun w₁ hw₁ K hK => ?_)
    clear hw₁
    go_simp
    refine hK _ (fun e he => ?_) ?_
    · have hm := mem_listed he
      simp [go_sem] at hm
    clear hK K w₁
    try walk_nrm
    refine oq_rd rfl (by rfl) (fun w₁ hw₁ K hK => ?_)
    clear hw₁
    go_simp
    refine hK _ (fun e he => ?_) ?_
    · have hm := mem_listed he
      simp [go_sem] at hm
    clear hK K w₁
    try walk_nrm
    refine oq_rd rfl (by rfl) (fun w₁ hw₁ K hK => ?_)
    clear hw₁
    go_simp
    refine hK _ (fun e he => ?_) ?_
    · have hm := mem_listed he
      simp [go_sem] at hm
    clear hK K w₁
    try walk_nrm
    refine opsQ_nil termsQ ?_
    have e2 : IntKind.i64.wrap ((j : Int) + 1) = ((j + 1 : Nat) : Int) := by rw [IntKind.wrap_i64]; omega
    rw [e2]
    exact ⟨n - (j + 1), by omega, j + 1, _, _, _, _, _, _, _, _, _, _, _, _, _, _, _, _, _, _, _, _, _, rfl, by omega, rfl, rfl, (hkp.trans hk3).mono fun b _ hb => hb.elim id id⟩
  · have hlt : decide (j < n) = false := decide_eq_false hjn
    refine wpQ_seq termsQ ?_
    refine wpQ_seq termsQ ?_
    refine wpQ_region termsQ ?_
    simp only [List.size_toArray, List.length_cons, List.length_nil, Nat.reduceAdd, Nat.zero_add, List.range, List.range.loop]
    refine oq_rd rfl (by rfl) (fun w₁ hw₁ K hK => ?_)
    clear hw₁
    go_simp
    refine hK _ (fun e he => ?_) ?_
    · have hm := mem_listed he
      simp [go_sem] at hm
    clear hK K w₁
    try walk_nrm
    refine oq_rd rfl (by rfl) (fun w₁ hw₁ K hK => ?_)
    clear hw₁
    go_simp
    refine hK _ (fun e he => ?_) ?_
    · have hm := mem_listed he
      simp [go_sem] at hm
    clear hK K w₁
    try walk_nrm
    refine oq_rd rfl (by rfl) (fun w₁ hw₁ K hK => ?_)
    clear hw₁
    go_simp
    refine hK _ (fun e he => ?_) ?_
    · have hm := mem_listed he
      simp [go_sem] at hm
    clear hK K w₁
    try walk_nrm
    refine oq_rd rfl (by rfl) (fun w₁ hw₁ K hK => ?_)
    clear hw₁
    go_simp
    refine hK _ (fun e he => ?_) ?_
    · have hm := mem_listed he
      simp [go_sem] at hm
    clear hK K w₁
    try walk_nrm
    refine opsQ_nil termsQ ?_
    refine wpQ_cond termsQ (t := false) (by first | rfl | simp [Act.eval, *]) ?_
    simp only [if_true, if_false, Bool.false_eq_true, ↓reduceIte]
    refine wpQ_exit termsQ ?_
    simp only [BlockQ, ThenQ, if_true]
    refine wpQ_seq termsQ ?_
    refine wpQ_region termsQ ?_
    simp only [List.size_toArray, List.length_cons, List.length_nil, Nat.reduceAdd, Nat.zero_add, List.range, List.range.loop]
    refine oq_rd rfl (by rfl) (fun w₁ hw₁ K hK => ?_)
    clear hw₁
    go_simp
    refine hK _ (fun e he => ?_) ?_
    · have hm := mem_listed he
      simp [go_sem] at hm
    clear hK K w₁
    try walk_nrm
    refine opsQ_nil termsQ ?_
    refine wpQ_ret termsQ ?_
    exact ⟨rfl, _, resultsC_tmp (t := 4) (by kernel_rfl) _, rfl, rfl, hkp⟩
end
end Go.Proofs.Ytmhbjmkdekgmlaa.Sim
