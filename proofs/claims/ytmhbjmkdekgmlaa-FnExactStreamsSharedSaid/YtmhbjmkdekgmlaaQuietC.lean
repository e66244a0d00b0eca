/-
  shared with StreamsShared's workers, called by goroutine 0 between two crews: each row of results is made.
  Conditions: what the captured variables hold; what is touched atomically alone stands below the heap's end; few goroutines.
-/
import Derived.Test.YtmhbjmkdekgmlaaQuietB
set_option linter.unusedSimpArgs false
set_option linter.unusedVariables false
namespace Go.Proofs.Ytmhbjmkdekgmlaa.Sim
open Go.Proofs.Ytmhbjmkdekgmlaa.Seeds (link wgLib Sd SdObj splitS wordsV)
open Go Go.Conc Go.ConcN Go.RowKit Go.Conc.Lib Go.ConcR.Gen Go.ConcN.Gen
open Go.ConcR (KK wgBlock WgAt stA smA rd wr mk Payload Aside2 DC0)

instance payTwo : Payload := ⟨2⟩

/-- The rows that stand in the block C. -/
structure Crewed (w : World) (C mny cnt lo : Nat) (xs : Nat → List Value) : Prop where
  blk : ∃ cs, w.heap[C]? = some (.cells cs 29) ∧ cs.size = mny
  row : ∀ i, i < mny → ∃ r, w.cell? ⟨C, i, none⟩ = some r ∧ RowC w lo 2 1 r cnt (xs i)
  sep : ∀ i i' r r' g, i < mny → i' < mny → i ≠ i' → w.cell? ⟨C, i, none⟩ = some r → w.cell? ⟨C, i', none⟩ = some r' → r.ownBlock = some g → r'.ownBlock ≠ some g

def planS (Sb : Nat → Prop) (q0 Wg C mny stp : Nat) : Plan :=
  { p := ⟨124, Wg, C, mny, 29⟩, N := stp, q0 := q0, B0 := Wg + 1, Sb := fun b => Sb b ∨ b = Wg, Cell := fun k i => i < mny ∧ q0 + 1 + i % stp = k }
def PostS (f : Plan) (cnt : Nat) (xs : Nat → List Value) (k : Nat) (M : Nat → Prop) (w : World) : Prop :=
  (∀ i, f.Cell k i → ∃ r, w.cell? ⟨f.p.C, i, none⟩ = some r ∧ RowC w f.B0 2 1 r cnt (xs i) ∧ ∀ g, r.ownBlock = some g → M g) ∧
  ∀ i i' r r' g, f.Cell k i → f.Cell k i' → i ≠ i' → w.cell? ⟨f.p.C, i, none⟩ = some r → w.cell? ⟨f.p.C, i', none⟩ = some r' → r.ownBlock = some g → r'.ownBlock ≠ some g
theorem postS_ok (f : Plan) (cnt : Nat) (xs : Nat → List Value) : PostOk f (PostS f cnt xs) := by
  intro k M w w₁ hr ⟨h1, h2⟩
  refine ⟨fun i hi => ?_, fun i i' r r' g hi hi' hne k1 k2 => h2 i i' r r' g hi hi' hne ((hr.cell i hi).symm.trans k1) ((hr.cell i' hi').symm.trans k2)⟩
  obtain ⟨r, k1, k2, k3⟩ := h1 i hi
  exact ⟨r, (hr.cell i hi).trans k1, k2.of fun g hg => hr.own g (.inl (k3 g hg)), k3⟩

section
variable {Fin : End} {w : World} {cs : List Frame} {Sb : Nat → Prop} {J Bs Bc Bo C cap mny cnt stp Wg Bm Bn Bd : Nat} {s : Sd}

set_option maxHeartbeats 1000000 in
theorem crew67 (hs : w.heap[Bs]? = some (SdObj s)) (hc : w.cell? ⟨Bc, 0, none⟩ = some (.int .i64 cnt)) (ho : w.cell? ⟨Bo, 0, none⟩ = some (.slice (some ⟨C, 0, none⟩) mny cap))
    (hout : ∃ cs, w.heap[C]? = some (.cells cs 29) ∧ cs.size = mny) (ok : s.Ok) (le : cnt ≤ 256) (lm : mny ≤ 1000) (h1 : 1 ≤ stp) (h2 : stp ≤ 1000) (hJ : J + stp < 2147483648)
    (hSb : ∀ b, Sb b → b < Wg) (nS : ∀ b ∈ [Bs, Bc, Bo, C, Bm, Bn, Bd], ¬ Sb b ∧ b < Wg) (nC : ∀ b ∈ [Bs, Bc, Bo, Bm, Bn, Bd], b ≠ C)
    (hm : w.cell? ⟨Bm, 0, none⟩ = some (.int .i64 mny)) (hn : w.cell? ⟨Bn, 0, none⟩ = some (.int .i64 stp)) (hd : w.cell? ⟨Bd, 0, none⟩ = some (.func (.func 68) #[] #[.pointer (some ⟨Bs, 0, none⟩), .pointer (some ⟨Bc, 0, none⟩), .pointer (some ⟨Bo, 0, none⟩)]))
    (hW : WgAt 124 Wg w 0 0) (hsz : w.heap.size = Wg + 1) {fv : Value} {v7 v10 v11 v12 v13 v14 : Value}
    (hnx : ∀ T w', Kin w w' → Wg + 1 ≤ w'.heap.size → (∀ b, b < Wg + 1 → b ≠ Wg → b ≠ C → w'.heap[b]? = w.heap[b]?) → Crewed w' C mny cnt (Wg + 1) (fun i => wordsV (splitS s i) cnt) →
      Wq Fin (fun b => Sb b ∨ b = Wg, J + stp) (G ((base 67).at ⟨T, []⟩ [.inRegion ops67 []]) cs) w') :
    Wq Fin (fun b => Sb b ∨ b = Wg, J) (G ((base 67).at ⟨tm67 (planS Sb J Wg C mny stp) fv Bm Bn Bd mny stp 0 v7 v10 v11 v12 v13 v14, []⟩ [.code loop67, .inLoop loop67, .inBlock 0, .code wait67]) cs) w := by
  obtain ⟨f, hf⟩ : ∃ f, f = planS Sb J Wg C mny stp := ⟨_, rfl⟩
  have fp : f.p = ⟨124, Wg, C, mny, 29⟩ := by rw [hf]; rfl
  have fC : f.p.C = C := by rw [fp]
  have fW : f.p.Wg = Wg := by rw [fp]
  have fN : f.N = stp := by rw [hf]; rfl
  have fq : f.q0 = J := by rw [hf]; rfl
  have fB : f.B0 = Wg + 1 := by rw [hf]; rfl
  have fS : f.Sb = fun b => Sb b ∨ b = Wg := by rw [hf]; rfl
  have fCell : ∀ k i, f.Cell k i ↔ i < mny ∧ J + 1 + i % stp = k := fun k i => by rw [hf]; exact Iff.rfl
  have hCn := nS C (by simp)
  have o : f.Ok := by
    refine ⟨fun b hb => ?_, ?_, ?_, ?_, fun k k' i h h' => ?_, by omega⟩
    · rw [fS] at hb; rw [fB]
      rcases hb with hb | rfl
      · have := hSb b hb; omega
      · omega
    · rw [fS, fW]; exact .inr rfl
    · rw [fC, fB]; omega
    · rw [fS, fC]; rintro (h | h)
      · exact hCn.1 h
      · omega
    · rw [fCell] at h h'; omega
  have hro : ∀ b ∈ [Bs, Bc, Bo, Bm, Bn, Bd], f.Ro b := fun b hb => by
    have e1 := nS b (by simp at hb; rcases hb with rfl | rfl | rfl | rfl | rfl | rfl <;> simp)
    have e2 := nC b hb
    refine ⟨by rw [fB]; omega, ?_, by rw [fC]; exact e2⟩
    rw [fS]; rintro (h | h)
    · exact e1.1 h
    · omega
  have hnro : ∀ k, ¬ (f.part k).Ro f.p.C := fun k h => h.2.2 rfl
  refine Fine.wq fun w₁ hr => ⟨rfl, fun gs sl t hpt => ?_⟩
  obtain ⟨d, rfl⟩ := hr
  rw [← hf] at hpt
  have hP := postS_ok f cnt fun i => wordsV (splitS s i) cnt
  have hsp : SpawnsM Try.prog f (w.at d) (PostS f cnt fun i => wordsV (splitS s i) cnt) (Anch67 f fv Bm Bn Bd mny stp cs) f.N (fun _ => False) (G ((base 67).at ⟨tm67 f fv Bm Bn Bd mny stp 0 v7 v10 v11 v12 v13 v14, []⟩ [.code loop67, .inLoop loop67, .inBlock 0, .code wait67]) cs) (w.at d) := by
    refine spawns67 (by rw [fp]) (by rw [fW, fB]; omega) fN h2 (fun j bk w' hj hB hO hL hbk hk => ?_) f.N 0 v7 v10 v11 v12 v13 v14 (w.at d) (by rw [fN]; omega) ⟨by rw [fB]; show Wg + 1 ≤ w.heap.size; omega, ⟨0, 0, by rw [fW]; exact hW⟩⟩
    have bsame : ∀ b, f.Ro b → w'.heap[b]? = w.heap[b]? := fun b hb => hB b hb.1 (fun e => hb.2.1 (e ▸ o.wg)) hb.2.2
    have csame : ∀ b, f.Ro b → w'.cell? ⟨b, 0, none⟩ = w.cell? ⟨b, 0, none⟩ := fun b hb => by simp only [World.cell?, bsame b hb]
    have H : Cap68 f.p (f.part (f.q0 + (j + 1))) w' Bs Bc Bo cap mny cnt s :=
      ⟨(bsame Bs (hro Bs (by simp))).trans hs, (csame Bc (hro Bc (by simp))).trans hc, by rw [fC]; exact (csame Bo (hro Bo (by simp))).trans ho, hro Bs (by simp), hro Bc (by simp), hro Bo (by simp), ok, le, lm, by rw [fp], by rw [fp], hnro _, by rw [fC, fW]; omega⟩
    have V : CapW (f.part (f.q0 + (j + 1))) w' 68 #[.pointer (some ⟨Bs, 0, none⟩), .pointer (some ⟨Bc, 0, none⟩), .pointer (some ⟨Bo, 0, none⟩)] Bm Bn Bd mny stp :=
      ⟨(csame Bm (hro Bm (by simp))).trans hm, (csame Bn (hro Bn (by simp))).trans hn, (csame Bd (hro Bd (by simp))).trans hd, hro Bm (by simp), hro Bn (by simp), hro Bd (by simp)⟩
    have hcell : ∀ i, i < mny → i % stp = j → (f.part (f.q0 + (j + 1))).Cell i := fun i hi he => by
      show f.Cell _ _
      rw [fCell, fq]
      omega
    have hcell' : ∀ i, f.Cell (f.q0 + (j + 1)) i → i < mny ∧ i % stp = j := fun i hi => by
      rw [fCell, fq] at hi
      omega
    have Jb := job_streams (bk := bk) (k0 := j) H V ⟨h1, h2, by omega⟩ hcell
    refine worker_way Jb (by rw [fp]) (fun M a b => hP _ M a b) (fun M a hS => ⟨fun i hi => ?_, fun i i' r r' g hi hi' => ?_⟩) (fun b => b = bk) w' ?_
    · obtain ⟨r, k1, k2, k3⟩ := hS.rows i (hcell' i hi)
      exact ⟨r, k1, k2.base (by omega), k3⟩
    · exact hS.sep i i' r r' g (hcell' i hi) (hcell' i' hi')
    · refine ⟨fun _ _ => rfl, fun b hb => ?_, hk, rfl, hO, by rw [show f.p.ty = link.tWg by rw [fp]]; exact hL, ?_, ?_, ?_, fun _ h => h.elim, fun _ h => h.elim, fun _ _ _ _ _ h => h.elim⟩
      · have := hb.1
        have := lt_of_some hk
        omega
      · rw [fW]; omega
      · rw [fW]; have := lt_of_some hk; omega
      · rw [fC]; omega
  refine (Pt.crew o (by rw [fq, fN]; exact hJ) hP (anch67_run) (after_run) (anch67 (by rw [fp])) (by rw [fS, fq]; exact hpt) (by rw [fB]; show Wg + 1 ≤ w.heap.size; omega) hsp (by rw [fp]; exact hout) (by rw [fp]; exact hW)).bind ?_
  rintro gs' w' sl' t' ⟨a', M', A⟩
  obtain ⟨T, rfl⟩ := A.next
  have hpt' := A.pt
  rw [fS, fq, fN] at hpt'
  refine (Wq.fine (hnx T w' A.same (by have := A.b0; omega) (fun b hb hbW hbC => A.base b (by omega) (by omega) (by omega)) ⟨?_, fun i hi => ?_, fun i i' r r' g hi hi' hne k1 k2 k3 k4 => ?_⟩)).2 gs' sl' t' hpt'
  · have := A.out
    rw [fp] at this
    exact this
  · obtain ⟨r, k1, k2, _⟩ := (A.post (J + 1 + i % stp) (by omega) (by have := Nat.mod_lt i (show 0 < stp by omega); omega)).1 i ((fCell _ _).2 ⟨hi, rfl⟩)
    exact ⟨r, by rw [← fC]; exact k1, k2.base (by omega)⟩
  · have hm1 := Nat.mod_lt i (show 0 < stp by omega)
    have hm2 := Nat.mod_lt i' (show 0 < stp by omega)
    have P1 := A.post (J + 1 + i % stp) (by omega) (by omega)
    have P2 := A.post (J + 1 + i' % stp) (by omega) (by omega)
    rw [← fC] at k1 k2
    by_cases he : i % stp = i' % stp
    · exact P1.2 i i' r r' g ((fCell _ _).2 ⟨hi, rfl⟩) ((fCell _ _).2 ⟨hi', by rw [he]⟩) hne k1 k2 k3 k4
    · obtain ⟨r1, e1, _, e2⟩ := P1.1 i ((fCell _ _).2 ⟨hi, rfl⟩)
      obtain ⟨r2, e3, _, e4⟩ := P2.1 i' ((fCell _ _).2 ⟨hi', rfl⟩)
      rw [k1] at e1
      rw [k2] at e3
      cases e1
      cases e3
      have := A.owns.one _ _ _ (e2 g k3) (e4 g k4)
      omega
end
end Go.Proofs.Ytmhbjmkdekgmlaa.Sim
