/-
  The reference's StreamWords, called between two crews: each row is made of the words of a stream's seed.
  Conditions: the seed's words are uint64s; what is touched atomically alone stands below the heap's end.
-/
import Derived.Test.YtmhbjmkdekgmlaaQuietG
import Derived.Test.YtmhbjmkdekgmlaaQuietH
set_option linter.unusedSimpArgs false
set_option linter.unusedVariables false
namespace Go.Proofs.Ytmhbjmkdekgmlaa.Sim
open Go Go.Conc Go.ConcN Go.RowKit
open Go.Proofs.Ytmhbjmkdekgmlaa.Seeds (Sd SdObj splitS wordsV validB cells3 RdRow marksL marksL_len store3 store3_ne)

theorem info29 : (Try.prog.info? 29).map (fun i => (i.zero, i.size, i.bytes)) = some (some (.slice none 0 0), 1, 24) := by kernel_rfl
theorem RowsIn.push {rs : List Value} {r : Value} {g : Nat} (h : RowsIn (rs ++ [r]) g) : RowsIn rs g ∨ r.ownBlock = some g := by
  obtain ⟨j, x, hx, hg⟩ := h
  rw [List.getElem?_append] at hx
  split at hx
  · exact .inl ⟨j, x, hx, hg⟩
  · rename_i hlt
    have := (List.getElem?_eq_some_iff.1 hx).1
    simp only [List.length_cons, List.length_nil] at this
    obtain h0 : j - rs.length = 0 := by omega
    rw [h0] at hx
    simp only [List.getElem?_cons_zero, Option.some.injEq] at hx
    subst hx
    exact .inr hg
/-- One row more. -/
theorem Rows.push {w w' w'' : World} {lo n cnt g cap : Nat} {v r : Value} {X : Nat → List Value} {rs : List Value} (h : Rows w lo n cnt v X rs) (hr : RowC w' w.heap.size 2 1 r cnt (X n)) (hlo : lo ≤ w.heap.size)
    (hk : ∀ b, b < w'.heap.size → v.ownBlock ≠ some b → b < w.heap.size ∨ r.ownBlock = some b → w''.heap[b]? = w'.heap[b]?) (hk0 : ∀ b, v.ownBlock = some b ∨ RowsIn rs b → w'.heap[b]? = w.heap[b]?) (hsz : w.heap.size ≤ w'.heap.size)
    (ho : w''.ownsRow lo 29 1 (.slice (some ⟨g, 0, none⟩) (n + 1) cap) (n + 1) (rs ++ [r])) (hg : v.ownBlock = some g ∨ w'.heap.size ≤ g) : Rows w'' lo (n + 1) cnt (.slice (some ⟨g, 0, none⟩) (n + 1) cap) X (rs ++ [r]) := by
  have hlen := h.len
  have split : ∀ (j : Nat) x, (rs ++ [r])[j]? = some x → (j < n ∧ rs[j]? = some x) ∨ (j = n ∧ x = r) := by
    intro j x hx
    rw [List.getElem?_append] at hx
    split at hx
    · exact .inl ⟨by omega, hx⟩
    · have := (List.getElem?_eq_some_iff.1 hx).1
      simp only [List.length_cons, List.length_nil] at this
      obtain h0 : j - rs.length = 0 := by omega
      rw [h0] at hx
      simp only [List.getElem?_cons_zero, Option.some.injEq] at hx
      exact .inr ⟨by omega, hx.symm⟩
  have hrl : ∀ x, r.ownBlock = some x → w.heap.size ≤ x ∧ x < w'.heap.size := fun x hx => ⟨(hr.lt hx).2, (hr.lt hx).1⟩
  refine ⟨ho, fun j x hx => ?_, fun j j' x x' b hx hx' hne hb hb' => ?_, fun j x b hx hb => ?_⟩
  · rcases split j x hx with ⟨_, h1⟩ | ⟨rfl, rfl⟩
    · have := h.row j x h1
      refine this.of fun b hb => ?_
      have hl := (this.lt hb).1
      rw [hk b (by omega) (h.off j x b h1 hb) (.inl hl), hk0 b (.inr ⟨j, x, h1, hb⟩)]
    · refine (hr.of fun b hb => hk b (hrl b hb).2 (fun e => ?_) (.inr hb)).base hlo
      have := (h.lt (.inl e)).1
      have := (hrl b hb).1
      omega
  · rcases split j x hx with ⟨_, h1⟩ | ⟨rfl, rfl⟩ <;> rcases split j' x' hx' with ⟨_, h2⟩ | ⟨rfl, rfl⟩
    · exact h.sep j j' x x' b h1 h2 hne hb hb'
    · have := (h.lt (.inr ⟨j, x, h1, hb⟩)).1
      have := (hrl b hb').1
      omega
    · have := (h.lt (.inr ⟨j', x', h2, hb'⟩)).1
      have := (hrl b hb).1
      omega
    · exact hne rfl
  · simp only [Value.ownBlock, ne_eq, Option.some.injEq]
    rintro rfl
    rcases split j x hx with ⟨_, h1⟩ | ⟨rfl, rfl⟩
    · rcases hg with hg | hg
      · exact h.off j x _ h1 hb hg
      · have := (h.lt (.inr ⟨j, x, h1, hb⟩)).1
        omega
    · rcases hg with hg | hg
      · have := (h.lt (.inl hg)).1
        have := (hrl _ hb).1
        omega
      · have := (hrl _ hb).2
        omega

section
variable {Fin : End} {c : Gh} {w : World}
set_option maxRecDepth 100000 in
set_option maxHeartbeats 8000000 in
theorem cq_specGood {s : Sd} {n cnt : Nat} (hs : s.Ok) (hv : validB s = true) (hn : n ≤ 16) (hc : cnt ≤ 256) (hSb : ∀ b, c.1 b → b < w.heap.size) :
    CQ Fin 49 #[.agg #[.int .i64 s.k, .int .u64 s.a, .int .u64 s.b], .int .i64 n, .int .i64 cnt] c w fun v' c' w' => c' = c ∧ KeepQ (fun _ => False) w w' ∧ ∃ v rs, v' = .tuple #[v, .bool true] ∧ Rows w' (w.heap.size + 1) n cnt v (fun i => wordsV (splitS s i) cnt) rs := by
  obtain ⟨i29, hi29, hz29, hs29, hb29⟩ := info_parts info29
  have hnt : Try.f49.ntmps = 33 := by kernel_rfl
  have e : (#[Value.agg #[.int .i64 s.k, .int .u64 s.a, .int .u64 s.b], .int .i64 n, .int .i64 cnt] ++ Array.replicate (Try.f49.ntmps - (#[Value.agg #[.int .i64 s.k, .int .u64 s.a, .int .u64 s.b], .int .i64 n, .int .i64 cnt] : Array Value).size) undef) = #[Value.agg #[.int .i64 s.k, .int .u64 s.a, .int .u64 s.b], .int .i64 n, .int .i64 cnt, undef, undef, undef, undef, undef, undef, undef, undef, undef, undef, undef, undef, undef, undef, undef, undef, undef, undef, undef, undef, undef, undef, undef, undef, undef, undef, undef, undef, undef, undef] := by
    rw [hnt]
    simp
  refine callQ_of termsQ Try.func49 (by kernel_rfl) (x := Try.f49.body.getD .skip) (by rfl) ?_
  rw [e]
  clear e hnt
  simp only [Try.f49, Option.getD_some]
  refine wpQ_seq termsQ ?_
  refine wpQ_region termsQ ?_
  simp only [List.size_toArray, List.length_cons, List.length_nil, Nat.reduceAdd, Nat.zero_add, List.range, List.range.loop]
  refine oq_al rfl (by rfl) (fun w₁ hw₁ K hK => ?_)
  go_simp
  refine hK _ _ (fun e he => ?_) ?_
  · have hm := mem_listed he
    simp [go_sem] at hm
  clear hK K hw₁ w₁
  try walk_nrm
  have hB0 : (w.alloc (SdObj s)).heap[w.heap.size]? = some (SdObj s) := heap_alloc_new _ _
  have hk0 : KeepQ (fun _ => False) w (w.alloc (SdObj s)) := ⟨⟨rfl, rfl, rfl⟩, by rw [World.size_alloc]; omega, fun b hb _ => Below.heap_alloc _ _ _ hb⟩
  have hsz0 : (w.alloc (SdObj s)).heap.size = w.heap.size + 1 := World.size_alloc _ _
  simp only [SdObj] at hB0 hk0 hsz0
  generalize w.alloc (Obj.cells #[.int .i64 s.k, .int .u64 s.a, .int .u64 s.b] 26) = w0 at hB0 hk0 hsz0 ⊢
  obtain ⟨B, hB⟩ : ∃ B, B = w.heap.size := ⟨_, rfl⟩
  rw [← hB] at hB0 hsz0 ⊢
  have nB : ¬ c.1 B := fun x => by have := hSb _ x; omega
  have hSb0 : ∀ b, c.1 b → b < w0.heap.size := fun b hb => by have := hSb b hb; omega
  have HK0 := Lib.hid hk0
  have HB0 : Hid (w0.heap[B]? = some (SdObj s)) := Lib.hid hB0
  have HBs := Lib.hid hB
  clear hk0 hB0 hB
  refine oq_rd rfl (by rfl) (fun w₁ hw₁ K hK => ?_)
  clear hw₁
  go_simp
  refine hK _ (fun e he => ?_) ?_
  · have hm := mem_listed he
    simp [go_sem] at hm
  clear hK K w₁
  try walk_nrm
  refine oq_rd rfl (by rfl) (fun w₁ hw₁ K hK => ?_)
  clear hw₁
  go_simp
  refine hK _ (fun e he => ?_) ?_
  · have hm := mem_listed he
    simp [go_sem] at hm
  clear hK K w₁
  try walk_nrm
  refine opsQ_nil termsQ ?_
  refine wpQ_seq termsQ ?_
  refine wpQ_seq termsQ ?_
  refine wpQ_region termsQ ?_
  simp only [List.size_toArray, List.length_cons, List.length_nil, Nat.reduceAdd, Nat.zero_add, List.range, List.range.loop]
  refine oq_rd rfl (by rfl) (fun w₁ hw₁ K hK => ?_)
  clear hw₁
  go_simp
  refine hK _ (fun e he => ?_) ?_
  · have hm := mem_listed he
    simp [go_sem] at hm
  clear hK K w₁
  try walk_nrm
  refine oq_call rfl (by rfl) rfl (by simp [Act.eval]) (cq_can (s := s) (B := B) cnt hs HB0.out hSb0 nB) ?_
  rintro v1 c1 w1 ⟨rfl, rfl, hk1⟩
  have e1 : (validB s && (decide ((0 : Int) ≤ cnt) && decide ((cnt : Int) ≤ 256))) = true := by
    rw [hv]
    simp
    omega
  rw [e1]
  have hSb1 : ∀ b, c1.1 b → b < w1.heap.size := fun b hb => Nat.lt_of_lt_of_le (hSb0 b hb) hk1.size
  try walk_nrm
  refine oq_rd rfl (by rfl) (fun w₁ hw₁ K hK => ?_)
  clear hw₁
  go_simp
  refine hK _ (fun e he => ?_) ?_
  · have hm := mem_listed he
    simp [go_sem] at hm
  clear hK K w₁
  try walk_nrm
  refine oq_rd rfl (by rfl) (fun w₁ hw₁ K hK => ?_)
  clear hw₁
  go_simp
  refine hK _ (fun e he => ?_) ?_
  · have hm := mem_listed he
    simp [go_sem] at hm
  clear hK K w₁
  try walk_nrm
  refine oq_rd rfl (by rfl) (fun w₁ hw₁ K hK => ?_)
  clear hw₁
  go_simp
  refine hK _ (fun e he => ?_) ?_
  · have hm := mem_listed he
    simp [go_sem] at hm
  clear hK K w₁
  try walk_nrm
  refine oq_call rfl (by rfl) rfl (by simp [Act.eval]) (cq_in n 0 16 hSb1) ?_
  rintro v2 c2 w2 ⟨rfl, rfl, hk2⟩
  have e2 : (decide ((0 : Int) ≤ n) && decide ((n : Int) ≤ 16)) = true := by
    simp
    omega
  rw [e2]
  have hB2 : w2.heap[B]? = some (SdObj s) := hk2.some (hk1.some HB0.out id) id
  have hk3 : KeepQ (fun _ => False) w w2 := ((HK0.out.trans hk1).trans hk2).mono fun b _ hb => (hb.elim (fun x => x.elim id id) id)
  have hsz2 : B + 1 ≤ w2.heap.size := by have := hk1.size; have := hk2.size; omega
  clear e1 e2 hSb0 hSb1 hsz0 hk1 hk2 HK0 HB0
  clear w0 w1
  try walk_nrm
  refine oq_rd rfl (by rfl) (fun w₁ hw₁ K hK => ?_)
  clear hw₁
  go_simp
  refine hK _ (fun e he => ?_) ?_
  · have hm := mem_listed he
    simp [go_sem] at hm
  clear hK K w₁
  try walk_nrm
  refine oq_rd rfl (by rfl) (fun w₁ hw₁ K hK => ?_)
  clear hw₁
  go_simp
  refine hK _ (fun e he => ?_) ?_
  · have hm := mem_listed he
    simp [go_sem] at hm
  clear hK K w₁
  try walk_nrm
  refine opsQ_nil termsQ ?_
  refine wpQ_cond termsQ (t := false) (by first | rfl | simp [Act.eval, *]) ?_
  simp only [if_true, if_false, Bool.false_eq_true, ↓reduceIte]
  refine wpQ_skip termsQ ?_
  refine wpQ_seq termsQ ?_
  refine wpQ_region termsQ ?_
  simp only [List.size_toArray, List.length_cons, List.length_nil, Nat.reduceAdd, Nat.zero_add, List.range, List.range.loop]
  refine oq_al rfl (by rfl) (fun w₁ hw₁ K hK => ?_)
  go_simp
  refine hK _ _ (fun e he => ?_) ?_
  · have hm := mem_listed he
    simp [go_sem] at hm
  clear hK K hw₁ w₁
  try walk_nrm
  have hR0 : Rows (w2.alloc (.cells #[] 29)) (B + 1) 0 cnt (.slice (some ⟨w2.heap.size, 0, none⟩) 0 0) (fun i => wordsV (splitS s i) cnt) [] := by
    refine ⟨⟨rfl, .inr ⟨w2.heap.size, 0, #[], rfl, hsz2, heap_alloc_new _ _, Nat.le_refl _, by unfold maxLen; omega, rfl, rfl⟩⟩, fun j r hr => by simp at hr, fun j j' r r' g hr => by simp at hr, fun j r g hr => by simp at hr⟩
  have hS0 : SeedAt (w2.alloc (.cells #[] 29)) B s := .of_obj ((Below.heap_alloc _ _ _ (by omega)).trans hB2)
  have hkA : KeepQ (fun _ => False) w2 (w2.alloc (.cells #[] 29)) := ⟨⟨rfl, rfl, rfl⟩, by rw [World.size_alloc]; omega, fun b hb _ => Below.heap_alloc _ _ _ hb⟩
  have hk4 : KeepQ (fun _ => False) w (w2.alloc (.cells #[] 29)) := (hk3.trans hkA).mono fun b _ hb => hb.elim id id
  clear hkA
  generalize w2.alloc (Obj.cells #[] 29) = w3 at hR0 hS0 hk4 ⊢
  generalize w2.heap.size = b4 at hR0 ⊢
  clear hk3 hsz2 hB2 w2
  try walk_nrm
  refine oq_rd rfl (by rfl) (fun w₁ hw₁ K hK => ?_)
  clear hw₁
  go_simp
  refine hK _ (fun e he => ?_) ?_
  · have hm := mem_listed he
    simp [go_sem] at hm
  clear hK K w₁
  try walk_nrm
  refine opsQ_nil termsQ ?_
  refine wpQ_seq termsQ ?_
  refine wpQ_seq termsQ ?_
  refine wpQ_region termsQ ?_
  simp only [List.size_toArray, List.length_cons, List.length_nil, Nat.reduceAdd, Nat.zero_add, List.range, List.range.loop]
  refine oq_rd rfl (by rfl) (fun w₁ hw₁ K hK => ?_)
  clear hw₁
  go_simp
  refine hK _ (fun e he => ?_) ?_
  · have hm := mem_listed he
    simp [go_sem] at hm
  clear hK K w₁
  try walk_nrm
  refine opsQ_nil termsQ ?_
  refine wpQ_block termsQ (wpQ_loop termsQ (N := n) (fun N a c' w' => ∃ (j : Nat) (v : Value) (rs : List Value) (u10 u11 u12 u13 u14 u15 u16 u17 u18 u19 u20 u21 u22 u23 u24 u25 u26 u27 u28 u29 u30 u31 u32 : Value), a = ⟨#[.agg #[.int .i64 s.k, .int .u64 s.a, .int .u64 s.b], .int .i64 n, .int .i64 cnt, .pointer (some ⟨B, 0, none⟩), undef, undef, .slice none 0 0, .bool false, v, .int .i64 j, u10, u11, u12, u13, u14, u15, u16, u17, u18, u19, u20, u21, u22, u23, u24, u25, u26, u27, u28, u29, u30, u31, u32], []⟩ ∧ j ≤ n ∧ N = n - j ∧ c' = c2 ∧ KeepQ (fun _ => False) w w' ∧ SeedAt w' B s ∧ Rows w' (B + 1) j cnt v (fun i => wordsV (splitS s i) cnt) rs)
    ⟨0, _, [], _, _, _, _, _, _, _, _, _, _, _, _, _, _, _, _, _, _, _, _, _, _, _, rfl, Nat.zero_le _, rfl, rfl, hk4, hS0, hR0⟩ ?_)
  clear hk4 hS0 hR0
  clear w3
  rintro N a c' w' ⟨j, v, rs, u10, u11, u12, u13, u14, u15, u16, u17, u18, u19, u20, u21, u22, u23, u24, u25, u26, u27, u28, u29, u30, u31, u32, rfl, hj, rfl, rfl, hkp, hS, hR⟩
  have hBa : B ≤ w.heap.size := by have := HBs.out; omega
  have hBb : w.heap.size ≤ B := by have := HBs.out; omega
  have hSb' : ∀ b, c'.1 b → b < B := fun b hb => by have := hSb b hb; omega
  have hBl : B < w'.heap.size := hS.lt
  by_cases hjn : j < n
  · have hlt : decide (j < n) = true := decide_eq_true hjn
    refine wpQ_seq termsQ ?_
    refine wpQ_seq termsQ ?_
    refine wpQ_region termsQ ?_
    simp only [List.size_toArray, List.length_cons, List.length_nil, Nat.reduceAdd, Nat.zero_add, List.range, List.range.loop]
    refine oq_rd rfl (by rfl) (fun w₁ hw₁ K hK => ?_)
    clear hw₁
    go_simp
    refine hK _ (fun e he => ?_) ?_
    · have hm := mem_listed he
      simp [go_sem] at hm
    clear hK K w₁
    try walk_nrm
    refine oq_rd rfl (by rfl) (fun w₁ hw₁ K hK => ?_)
    clear hw₁
    go_simp
    refine hK _ (fun e he => ?_) ?_
    · have hm := mem_listed he
      simp [go_sem] at hm
    clear hK K w₁
    try walk_nrm
    refine oq_rd rfl (by rfl) (fun w₁ hw₁ K hK => ?_)
    clear hw₁
    go_simp
    refine hK _ (fun e he => ?_) ?_
    · have hm := mem_listed he
      simp [go_sem] at hm
    clear hK K w₁
    try walk_nrm
    refine opsQ_nil termsQ ?_
    refine wpQ_cond termsQ (t := true) (by first | rfl | simp [Act.eval, *]) ?_
    simp only [if_true, if_false, Bool.false_eq_true, ↓reduceIte]
    refine wpQ_skip termsQ ?_
    refine wpQ_seq termsQ ?_
    refine wpQ_block termsQ ?_
    refine wpQ_seq termsQ ?_
    refine wpQ_region termsQ ?_
    simp only [List.size_toArray, List.length_cons, List.length_nil, Nat.reduceAdd, Nat.zero_add, List.range, List.range.loop]
    refine oq_rd rfl (by rfl) (fun w₁ hw₁ K hK => ?_)
    clear hw₁
    go_simp
    refine hK _ (fun e he => ?_) ?_
    · have hm := mem_listed he
      simp [go_sem] at hm
    clear hK K w₁
    try walk_nrm
    refine oq_call rfl (by rfl) rfl (by simp [Act.eval]) (cq_splitL (B := B) (s := s) j (by omega) hs hS (fun b hb => Nat.lt_trans (hSb' b hb) hBl) nB) ?_
    rintro v1 c1 w1 ⟨rfl, rfl, hk1, hS1⟩
    replace hR := hR.keep hk1 fun g hg => by have := (hR.lt hg).2; omega
    have hkp1 : KeepQ (fun _ => False) w w1 := (hkp.trans hk1).mono fun b hb x => x.elim id fun e => by omega
    have hBl1 : B < w1.heap.size := hS1.lt
    obtain ⟨s2, hs2⟩ : ∃ s2, s2 = splitS s j := ⟨_, rfl⟩
    have hok : s2.Ok := by rw [hs2]; exact split_ok s j
    rw [← hs2]
    have HS2 := Lib.hid hs2
    have HR := Lib.hid hR
    have HK1 := Lib.hid hkp1
    have HS1 := Lib.hid hS1
    clear hs2 hR hkp1 hS1 hk1 hkp hS hBl
    clear w'
    unfold Sd.val
    try walk_nrm
    refine oq_al rfl (by rfl) (fun w₁ hw₁ K hK => ?_)
    go_simp
    refine hK _ _ (fun e he => ?_) ?_
    · have hm := mem_listed he
      simp [go_sem] at hm
    clear hK K hw₁ w₁
    try walk_nrm
    have hA : (w1.alloc (Obj.cells #[.int .i64 0, .int .u64 0, .int .u64 0] 26)).heap[w1.heap.size]? = some (SdObj ⟨0, 0, 0⟩) := heap_alloc_new _ _
    have hA1 : ∀ b, b < w1.heap.size → (w1.alloc (Obj.cells #[.int .i64 0, .int .u64 0, .int .u64 0] 26)).heap[b]? = w1.heap[b]? := fun b hb => Below.heap_alloc _ _ _ hb
    have hA2 : (w1.alloc (Obj.cells #[.int .i64 0, .int .u64 0, .int .u64 0] 26)).heap.size = w1.heap.size + 1 := World.size_alloc _ _
    have hA3 : Kin w1 (w1.alloc (Obj.cells #[.int .i64 0, .int .u64 0, .int .u64 0] 26)) := ⟨rfl, rfl, rfl⟩
    obtain ⟨b5, hb5⟩ : ∃ b, b = w1.heap.size := ⟨_, rfl⟩
    rw [← hb5] at hA hA1 hA2 ⊢
    have h5a : b5 ≤ w1.heap.size := by omega
    have h5b : w1.heap.size ≤ b5 := by omega
    clear hb5
    generalize w1.alloc (Obj.cells #[.int .i64 0, .int .u64 0, .int .u64 0] 26) = w2 at hA hA1 hA2 hA3 ⊢
    have n5 : ¬ c1.1 b5 := fun x => by have := hSb' _ x; omega
    refine oq_st3 rfl (by rfl) (fun w₁ hw₁ K hK => ?_)
    have hX : w₁.heap[b5]? = some (SdObj ⟨0, 0, 0⟩) := by rw [hw₁]; exact hA
    obtain ⟨d0, d1, d2, g0, g1, g2⟩ := cells3 hX
    clear hX hw₁
    go_simp
    refine hK _ _ _ _ _ _ _ (fun e he => ?_) ?_
    · have hm := mem_listed he
      simp [go_sem, d0, d1, d2, g0, g1, g2] at hm
      rcases hm with rfl | rfl | rfl
      · exact evq_cell n5 (by show b5 < _; omega)
      · exact evq_cell n5 (by show b5 < _; omega)
      · exact evq_cell n5 (by show b5 < _; omega)
    clear hK K d0 d1 d2 g0 g1 g2 w₁
    have hC : (((w2.setCell ⟨b5, 0, none⟩ (.int .i64 s2.k)).setCell ⟨b5, 1, none⟩ (.int .u64 s2.a)).setCell ⟨b5, 2, none⟩ (.int .u64 s2.b)).heap[b5]? = some (SdObj s2) := store3 hA _ _ _
    have hC1 : ∀ b, b < b5 → (((w2.setCell ⟨b5, 0, none⟩ (.int .i64 s2.k)).setCell ⟨b5, 1, none⟩ (.int .u64 s2.a)).setCell ⟨b5, 2, none⟩ (.int .u64 s2.b)).heap[b]? = w1.heap[b]? := fun b hb => (store3_ne _ _ _ (by omega) _ _ _).trans (hA1 b hb)
    have hC2 : (((w2.setCell ⟨b5, 0, none⟩ (.int .i64 s2.k)).setCell ⟨b5, 1, none⟩ (.int .u64 s2.a)).setCell ⟨b5, 2, none⟩ (.int .u64 s2.b)).heap.size = b5 + 1 := by simp only [World.size_setCell]; exact hA2
    have hC3 : Kin w1 (((w2.setCell ⟨b5, 0, none⟩ (.int .i64 s2.k)).setCell ⟨b5, 1, none⟩ (.int .u64 s2.a)).setCell ⟨b5, 2, none⟩ (.int .u64 s2.b)) := hA3
    generalize ((w2.setCell ⟨b5, 0, none⟩ (.int .i64 s2.k)).setCell ⟨b5, 1, none⟩ (.int .u64 s2.a)).setCell ⟨b5, 2, none⟩ (.int .u64 s2.b) = w3 at hC hC1 hC2 hC3 ⊢
    clear hA hA1 hA2 hA3
    clear w2
    try walk_nrm
    refine opsQ_nil termsQ ?_
    refine wpQ_region termsQ ?_
    simp only [List.size_toArray, List.length_cons, List.length_nil, Nat.reduceAdd, Nat.zero_add, List.range, List.range.loop]
    refine oq_rd rfl (by rfl) (fun w₁ hw₁ K hK => ?_)
    clear hw₁
    go_simp
    refine hK _ (fun e he => ?_) ?_
    · have hm := mem_listed he
      simp [go_sem] at hm
    clear hK K w₁
    try walk_nrm
    refine oq_rd rfl (by rfl) (fun w₁ hw₁ K hK => ?_)
    clear hw₁
    go_simp
    refine hK _ (fun e he => ?_) ?_
    · have hm := mem_listed he
      simp [go_sem] at hm
    clear hK K w₁
    try walk_nrm
    refine oq_call rfl (by rfl) rfl (by simp [Act.eval]) (cq_wordsL (B := b5) (s := s2) cnt hc hok hC (fun b hb => by have := hSb' b hb; omega) n5) ?_
    rintro r c2 w4 ⟨rfl, hk4, hrow, hnr⟩
    have HR4 : Hid (RowC w4 w3.heap.size 2 1 r cnt (wordsV s2 cnt)) := Lib.hid hrow
    have HK4 := Lib.hid hk4
    have hsz4 := hk4.size
    have h45 : b5 < w4.heap.size := by omega
    have ho1 : r.oneCell' = true := by
      rcases hrow.1.2 with ⟨rfl, _⟩ | ⟨_, _, _, rfl, _⟩ <;> rfl
    obtain ⟨pr, nr, cr, hr⟩ : ∃ p n c, r = .slice p n c := by
      rcases hrow.1.2 with ⟨rfl, _⟩ | ⟨_, _, _, rfl, _⟩
      · exact ⟨_, _, _, rfl⟩
      · exact ⟨_, _, _, rfl⟩
    rw [hr]
    have HHr := Lib.hid hr
    clear hrow hk4 hC hr
    try walk_nrm
    refine oq_al rfl (by rfl) (fun w₁ hw₁ K hK => ?_)
    go_simp
    refine hK _ _ (fun e he => ?_) ?_
    · have hm := mem_listed he
      simp [go_sem] at hm
    clear hK K hw₁ w₁
    try walk_nrm
    rw [← HHr.out]
    have hE : (w4.alloc (Obj.cells #[r] 29)).heap[w4.heap.size]? = some (.cells #[r] 29) := heap_alloc_new _ _
    have hE1 : ∀ b, b < w4.heap.size → (w4.alloc (Obj.cells #[r] 29)).heap[b]? = w4.heap[b]? := fun b hb => Below.heap_alloc _ _ _ hb
    have hE2 : (w4.alloc (Obj.cells #[r] 29)).heap.size = w4.heap.size + 1 := World.size_alloc _ _
    have hE3 : Kin w4 (w4.alloc (Obj.cells #[r] 29)) := ⟨rfl, rfl, rfl⟩
    have hE4 : ∀ (j : Nat) u, [r][j]? = some u → (w4.alloc (Obj.cells #[r] 29)).cell? ((⟨w4.heap.size, 0, none⟩ : Addr).add j) = some u := cell_one_new _ _ _
    obtain ⟨b6, hb6⟩ : ∃ b, b = w4.heap.size := ⟨_, rfl⟩
    rw [← hb6] at hE hE1 hE2 hE4 ⊢
    generalize w4.alloc (Obj.cells #[r] 29) = w5 at hE hE1 hE2 hE3 hE4 ⊢
    have hold : ∀ b, v.ownBlock = some b ∨ RowsIn rs b → w5.heap[b]? = w1.heap[b]? := fun b hb => by
      have hl := (HR.out.lt hb).1
      rw [hE1 b (by omega), HK4.out.keep b (by omega) (by omega), hC1 b (by omega)]
    have hown : w5.ownsRow (B + 1) 29 1 v j rs := Seeds.ownsRow_of HR.out.out fun g hg => hold g (.inl hg)
    refine oq_append rfl (by rfl) (.tmp 27) (.tmp 30) 40 rfl (B + 1) 29 i29 (.slice none 0 0) 1 24 Try.underlying40 hi29 hz29 hs29 hb29 rfl (by omega) v j rs rfl hown ⟨b6, 0, none⟩ 1 1 [r] rfl rfl hE4 (fun u hu => by simp only [List.mem_singleton] at hu; subst hu; exact ho1) (by omega) (by unfold maxLen; omega) (by omega) (by omega)
      (fun g hg x => by have := hSb' _ x; have := (HR.out.lt (.inl hg)).2; omega) (fun x => by have := hSb' _ x; have : b6 < B := this; omega) (by show b6 < _; omega) ?_
    intro g cap w6 ho6 hg6 hb6' hlt6
    have hs6 := hg6.size
    have hR6 : Rows w6 (B + 1) (j + 1) cnt (.slice (some ⟨g, 0, none⟩) (j + 1) cap) (fun i => wordsV (splitS s i) cnt) (rs ++ [r]) := by
      refine HR.out.push (w' := w5) (by rw [← HS2.out]; exact (HR4.out.of fun b hb => hE1 b (by have := (HR4.out.lt hb).1; omega)).base (by omega)) (by omega) (fun b hb hvb _ => hg6.block b hb fun e => hvb e.symm) hold (by omega) ho6 ?_
      rcases hb6' with h | h
      · exact .inl h
      · exact .inr (by omega)
    have hk6 : KeepQ (fun _ => False) w w6 := by
      refine ⟨((((HK1.out.kin.trans hC3).trans HK4.out.kin).trans hE3).trans ⟨hg6.tape, hg6.os, hg6.output⟩), by have := HK1.out.size; omega, fun b hb _ => ?_⟩
      have hb1 : b < B := by have := HBs.out; omega
      rw [hg6.block b (by omega) (fun e => by have := (HR.out.lt (.inl e.symm)).2; omega), hE1 b (by omega), HK4.out.keep b (by omega) (by omega), hC1 b (by omega)]
      exact HK1.out.keep b hb id
    have hS6 : SeedAt w6 B s := HS1.out.of (by
      rw [hg6.block B (by omega) (fun e => by have := (HR.out.lt (.inl e.symm)).2; omega), hE1 B (by omega), HK4.out.keep B (by omega) (by omega), hC1 B (by omega)])
    clear hE hE1 hE2 hE3 hE4 hold hown ho6 hg6 hb6' hlt6 hs6
    clear w5
    try walk_nrm
    refine oq_rd rfl (by rfl) (fun w₁ hw₁ K hK => ?_)
    clear hw₁
    go_simp
    refine hK _ (fun e he => ?_) ?_
    · have hm := mem_listed he
      simp [go_sem] at hm
    clear hK K w₁
    try walk_nrm
    refine opsQ_nil termsQ ?_
    refine wpQ_region termsQ ?_
    simp only [List.size_toArray, List.length_cons, List.length_nil, Nat.reduceAdd, Nat.zero_add, List.range, List.range.loop]
    refine oq_rd rfl (by rfl) (fun w₁ hw₁ K hK => ?_)
    clear hw₁
    go_simp
    refine hK _ (fun e he => ?_) ?_
    · have hm := mem_listed he
      simp [go_sem] at hm
    clear hK K w₁
    try walk_nrm
    refine oq_rd rfl (by rfl) (fun w₁ hw₁ K hK => ?_)
    clear hw₁
    go_simp
    refine hK _ (fun e he => ?_) ?_
    · have hm := mem_listed he
      simp [go_sem] at hm
    clear hK K w₁
    try walk_nrm
    refine oq_rd rfl (by rfl) (fun w₁ hw₁ K hK => ?_)
    clear hw₁
    go_simp
    refine hK _ (fun e he => ?_) ?_
    · have hm := mem_listed he
      simp [go_sem] at hm
    clear hK K w₁
    try walk_nrm
    refine opsQ_nil termsQ ?_
    have e3 : IntKind.i64.wrap ((j : Int) + 1) = ((j + 1 : Nat) : Int) := by rw [IntKind.wrap_i64]; omega
    rw [e3]
    exact ⟨n - (j + 1), by omega, j + 1, _, _, _, _, _, _, _, _, _, _, _, _, _, _, _, _, _, _, _, _, _, _, _, _, _, rfl, by omega, rfl, rfl, hk6, hS6, hR6⟩
  · have hlt : decide (j < n) = false := decide_eq_false hjn
    refine wpQ_seq termsQ ?_
    refine wpQ_seq termsQ ?_
    refine wpQ_region termsQ ?_
    simp only [List.size_toArray, List.length_cons, List.length_nil, Nat.reduceAdd, Nat.zero_add, List.range, List.range.loop]
    refine oq_rd rfl (by rfl) (fun w₁ hw₁ K hK => ?_)
    clear hw₁
    go_simp
    refine hK _ (fun e he => ?_) ?_
    · have hm := mem_listed he
      simp [go_sem] at hm
    clear hK K w₁
    try walk_nrm
    refine oq_rd rfl (by rfl) (fun w₁ hw₁ K hK => ?_)
    clear hw₁
    go_simp
    refine hK _ (fun e he => ?_) ?_
    · have hm := mem_listed he
      simp [go_sem] at hm
    clear hK K w₁
    try walk_nrm
    refine oq_rd rfl (by rfl) (fun w₁ hw₁ K hK => ?_)
    clear hw₁
    go_simp
    refine hK _ (fun e he => ?_) ?_
    · have hm := mem_listed he
      simp [go_sem] at hm
    clear hK K w₁
    try walk_nrm
    refine opsQ_nil termsQ ?_
    refine wpQ_cond termsQ (t := false) (by first | rfl | simp [Act.eval, *]) ?_
    simp only [if_true, if_false, Bool.false_eq_true, ↓reduceIte]
    refine wpQ_exit termsQ ?_
    simp only [BlockQ, ThenQ, if_true]
    refine wpQ_seq termsQ ?_
    refine wpQ_region termsQ ?_
    simp only [List.size_toArray, List.length_cons, List.length_nil, Nat.reduceAdd, Nat.zero_add, List.range, List.range.loop]
    refine oq_rd rfl (by rfl) (fun w₁ hw₁ K hK => ?_)
    clear hw₁
    go_simp
    refine hK _ (fun e he => ?_) ?_
    · have hm := mem_listed he
      simp [go_sem] at hm
    clear hK K w₁
    try walk_nrm
    refine oq_rd rfl (by rfl) (fun w₁ hw₁ K hK => ?_)
    clear hw₁
    go_simp
    refine hK _ (fun e he => ?_) ?_
    · have hm := mem_listed he
      simp [go_sem] at hm
    clear hK K w₁
    try walk_nrm
    refine oq_rd rfl (by rfl) (fun w₁ hw₁ K hK => ?_)
    clear hw₁
    go_simp
    refine hK _ (fun e he => ?_) ?_
    · have hm := mem_listed he
      simp [go_sem] at hm
    clear hK K w₁
    try walk_nrm
    refine opsQ_nil termsQ ?_
    refine wpQ_ret termsQ ?_
    obtain rfl : j = n := by omega
    refine ⟨rfl, _, resultsC_tmp2 (t := 6) (u := 7) (by kernel_rfl) _, rfl, hkp, v, rs, rfl, ?_⟩
    exact hR
end
end Go.Proofs.Ytmhbjmkdekgmlaa.Sim
