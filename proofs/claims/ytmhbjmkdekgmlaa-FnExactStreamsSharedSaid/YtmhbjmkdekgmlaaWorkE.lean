/-
  The text of StreamsShared's workers: the seed is split, its words are made, the row is stored.
  Conditions: what the captured variables hold.
-/
import Derived.Test.YtmhbjmkdekgmlaaWorkD
import Derived.Test.YtmhbjmkdekgmlaaLoneC
set_option linter.unusedSimpArgs false
set_option linter.unusedVariables false
namespace Go.Proofs.Ytmhbjmkdekgmlaa.Sim
open Go Go.Conc Go.ConcN Go.RowKit
open Go.Proofs.Ytmhbjmkdekgmlaa.Seeds (ownsRow_of Sd SdObj splitS iterS wordsV cells3 split_any words_any)

noncomputable def body68 : Code := Try.f68.body.getD .skip

section
variable {p : Crew} {q : Part} {w₀ : World} {bk k0 Bs Bc Bo cap mny cnt : Nat} {s : Sd}

/-- What the captured variables hold. -/
structure Cap68 (p : Crew) (q : Part) (w₀ : World) (Bs Bc Bo cap mny cnt : Nat) (s : Sd) : Prop where
  hs : w₀.heap[Bs]? = some (SdObj s)
  hc : w₀.cell? ⟨Bc, 0, none⟩ = some (.int .i64 cnt)
  ho : w₀.cell? ⟨Bo, 0, none⟩ = some (.slice (some ⟨p.C, 0, none⟩) mny cap)
  rs : q.Ro Bs
  rc : q.Ro Bc
  ro : q.Ro Bo
  ok : s.Ok
  le : cnt ≤ 256
  lm : mny ≤ 1000
  n : p.n = mny
  e : p.e = 29
  nro : ¬ q.Ro p.C
  cw : p.C ≠ p.Wg
theorem Gua.at {M : Nat → Prop} {w : World} (d : Nat) : Gua p q M w (w.at d) #[] M := ⟨funext fun b => propext ⟨.inl, fun h => h.elim id fun h => by have := h.1; have h2 := h.2; simp only [World.at] at h2; omega⟩, Nat.le_refl _, fun _ _ _ _ => rfl, id, fun _ _ => rfl, rfl, rfl, rfl, fun e he => by simp at he⟩
theorem StJ.read {e : TypeId} {sz : Nat} {xs : Nat → List Value} {D M : Nat → Prop} {w : World} (h : StJ p q w₀ bk k0 e sz cnt xs D M w) {a : Addr} (ha : q.Ro a.block) : w.cell? a = w₀.cell? a ∧ w.frozen? a = w₀.frozen? a := by
  simp only [World.cell?, World.frozen?, h.ro _ ha, and_self]

theorem StJ.sub {w : World} {e : TypeId} {sz : Nat} {xs : Nat → List Value} {D D' M : Nat → Prop} (h : StJ p q w₀ bk k0 e sz cnt xs D M w) (hd : ∀ j, D' j → D j) : StJ p q w₀ bk k0 e sz cnt xs D' M w :=
  ⟨h.ro, h.rolt, h.k, h.kept, h.out, h.live, h.nm, h.lt, h.ck, fun j hj => h.own j (hd j hj), fun j hj => h.rows j (hd j hj), fun j j' v v' g hj hj' => h.sep j j' v v' g (hd j hj) (hd j' hj')⟩
theorem VRel.pair {ρ : Array Nat} {a b v' : Value} (h : VRel ρ (.tuple #[a, b]) v') : ∃ a' b', v' = .tuple #[a', b'] ∧ VRel ρ a a' ∧ VRel ρ b b' := by
  cases h with
  | same h =>
    cases h with
    | tuple h => exact ⟨a, b, rfl, .same (h 0 (by simp)), .same (h 1 (by simp))⟩
  | @tuple _ bs hs h =>
    have hs' : bs.size = 2 := by rw [← hs]; rfl
    refine ⟨bs[0], bs[1], ?_, h 0 (by simp) (by omega), h 1 (by simp) (by omega)⟩
    congr 1
    exact Array.ext (by simp [hs']) fun i h1 h2 => by
      obtain rfl | rfl : i = 0 ∨ i = 1 := by omega
      · rfl
      · rfl
theorem sd_closed (s : Sd) : Closed s.val := .agg fun i hi => by
  simp only [List.size_toArray, List.length_cons, List.length_nil] at hi
  obtain rfl | rfl | rfl : i = 0 ∨ i = 1 ∨ i = 2 := by omega
  all_goals exact .int _ _
theorem split_ok (s : Sd) (i : Int) : (splitS s i).Ok := by
  refine ⟨?_, ?_⟩
  · simp only [splitS]
    split
    · exact ⟨by omega, by omega⟩
    · exact Seeds.wrapU_u64 _
  · simp only [splitS]
    split
    · exact Seeds.wrapU_u64 _
    · exact Seeds.mixI_u64 _
theorem opW_call {γ : Type} {P : Program} {main : Bool} {R : γ → World → World → Prop} {D : γ → World → World → Array Event → γ → Prop} {fn : FuncId} {a : Act} {c : γ} {w : World} {ops : Array Oper} {i : Nat} {o : Oper} {f : FuncId} {xs : Array Operand} {ats : Array TypeId} {K : Act → γ → World → Prop} {Post : Value → γ → World → Prop}
    (ho : ops[i]? = some o) (hw : Region.wanted o (yielded ops a.tmps) = true) (hop : o.op = .call { callee := .value (.func f), args := xs, argTypes := ats }) {args : Array Value} (hx : xs.map a.eval = args) (h : CallW P main R D f args c w Post) (hn : ∀ v c' w', Post v c' w' → K (a.put o.dst v) c' w') : OpW P main R D fn ops i K a c w := by
  unfold OpW
  simp only [ho, hw, if_true]
  subst hx
  exact .inr ⟨f, xs, ats, Post, hop, h, hn⟩

theorem uponK_k {o : Oper} {a : Act} {K₀ : Act → World → Prop} {r : Result Next} (h : ∀ K : Act → World → Prop, (∀ a' w', K₀ a' w' → K a' w') → uponK o a K r) : uponK o a K₀ r := h K₀ fun _ _ x => x
theorem OutAt.cell {w : World} (h : OutAt p w) {i : Nat} (hi : i < p.n) : (∃ v, w.cell? ⟨p.C, i, none⟩ = some v) ∧ w.frozen? ⟨p.C, i, none⟩ = false := by
  obtain ⟨cs, h1, h2⟩ := h
  exact ⟨⟨cs[i], by simp [World.cell?, h1, Array.getElem?_eq_getElem (show i < cs.size by omega)]⟩, by simp [World.frozen?, h1]⟩

set_option maxRecDepth 100000 in
set_option maxHeartbeats 4000000 in
theorem job68 (H : Cap68 p q w₀ Bs Bc Bo cap mny cnt s) (D M : Nat → Prop) (w : World) (i : Nat) (hi : i < mny) (hc : q.Cell i) (hD : ¬ D i) (hF : StJ p q w₀ bk k0 2 1 cnt (fun j => wordsV (splitS s j) cnt) D M w) :
    WpW Try.prog false (Rel p q) (Gua p q) 68 body68 (BodyW Try.prog Try.f68 fun _ M' w' => StJ p q w₀ bk k0 2 1 cnt (fun j => wordsV (splitS s j) cnt) (fun j => D j ∨ j = i) M' w')
      { tmps := #[.int .i64 i, .pointer (some ⟨Bs, 0, none⟩), .pointer (some ⟨Bc, 0, none⟩), .pointer (some ⟨Bo, 0, none⟩), undef, undef, undef, undef, undef, undef, undef, undef, undef, undef, undef, undef], defers := [] } M w := by
  have T := termsW p q
  unfold body68 Try.f68
  simp only [Option.getD_some]
  refine wpW_region_held (S := StJ p q w₀ bk k0 2 1 cnt (fun j => wordsV (splitS s j) cnt) D) T (by rfl) (fun w₁ _ => Gua.at _) fun w₁ h₁ => ?_
  replace hF := (hF.rely h₁).at (w₁.drawn + 1)
  clear h₁
  change AnyW _ _ _ _ _ _ _ _ _ _ _ _ _ (w₁.at (w₁.drawn + 1))
  generalize w₁.at (w₁.drawn + 1) = w at hF ⊢
  have hmny := H.lm
  have hSR : ∀ c x y, StJ p q w₀ bk k0 2 1 cnt (fun j => wordsV (splitS s j) cnt) D c x → Rel p q c x y → StJ p q w₀ bk k0 2 1 cnt (fun j => wordsV (splitS s j) cnt) D c y := fun _ _ _ h r => h.rely r
  have hQR : ∀ a c x y, BodyW Try.prog Try.f68 (fun _ M' w' => StJ p q w₀ bk k0 2 1 cnt (fun j => wordsV (splitS s j) cnt) (fun j => D j ∨ j = i) M' w') .normal a c x → Rel p q c x y → BodyW Try.prog Try.f68 (fun _ M' w' => StJ p q w₀ bk k0 2 1 cnt (fun j => wordsV (splitS s j) cnt) (fun j => D j ∨ j = i) M' w') .normal a c y := fun _ _ _ _ ⟨h1, v, h2, h3⟩ r => ⟨h1, v, h2, h3.rely r⟩
  refine anyW_take (v := .slice (some ⟨p.C, 0, none⟩) mny cap) (i := 0) T hSR hQR rfl (by kernel_rfl) (by kernel_rfl) (by kernel_rfl) (.inl ⟨by rfl, fun c w hS => ⟨?_, ?_⟩⟩) hF ?_
  · have h1 := (hS.read (a := ⟨Bo, 0, none⟩) H.ro).1.trans H.ho
    go_simp
  · have h1 := (hS.read (a := ⟨Bo, 0, none⟩) H.ro).1.trans H.ho
    exact Gua.reads fun e he => by
      have hm := mem_listed he
      simp [go_sem, h1] at hm; subst hm; exact evG_ro H.ro
  walk_nrm
  refine anyW_take (v := .int .i64 i) (i := 1) T hSR hQR rfl (by kernel_rfl) (by kernel_rfl) (by kernel_rfl) (.inl ⟨by rfl, fun c w hS => ⟨?_, ?_⟩⟩) hF ?_
  · skip
    go_simp
  · skip
    exact Gua.reads fun e he => by
      have hm := mem_listed he
      simp [go_sem] at hm
  walk_nrm
  refine anyW_take (v := .agg #[.int .i64 s.k, .int .u64 s.a, .int .u64 s.b]) (i := 2) T hSR hQR rfl (by kernel_rfl) (by kernel_rfl) (by kernel_rfl) (.inl ⟨by rfl, fun c w hS => ⟨?_, ?_⟩⟩) hF ?_
  · obtain ⟨h1, h2, h3, _⟩ := cells3 ((hS.ro Bs H.rs).trans H.hs)
    go_simp
  · obtain ⟨h1, h2, h3, _⟩ := cells3 ((hS.ro Bs H.rs).trans H.hs)
    exact Gua.reads fun e he => by
      have hm := mem_listed he
      simp [go_sem, h1, h2, h3] at hm; rcases hm with rfl | rfl | rfl <;> exact evG_ro H.rs
  walk_nrm
  refine anyW_take (v := .int .i64 i) (i := 3) T hSR hQR rfl (by kernel_rfl) (by kernel_rfl) (by kernel_rfl) (.inl ⟨by rfl, fun c w hS => ⟨?_, ?_⟩⟩) hF ?_
  · skip
    go_simp
  · skip
    exact Gua.reads fun e he => by
      have hm := mem_listed he
      simp [go_sem] at hm
  walk_nrm
  refine anyW_take (v := .int .i64 cnt) (i := 5) T hSR hQR rfl (by kernel_rfl) (by kernel_rfl) (by kernel_rfl) (.inl ⟨by rfl, fun c w hS => ⟨?_, ?_⟩⟩) hF ?_
  · have h1 := (hS.read (a := ⟨Bc, 0, none⟩) H.rc).1.trans H.hc
    go_simp
  · have h1 := (hS.read (a := ⟨Bc, 0, none⟩) H.rc).1.trans H.hc
    exact Gua.reads fun e he => by
      have hm := mem_listed he
      simp [go_sem, h1] at hm; subst hm; exact evG_ro H.rc
  walk_nrm
  refine anyW_one (i := 4) (by kernel_rfl) ?_
  refine opW_call (f := 69) rfl (by rfl) rfl (by simp [Act.eval, Sd.val]) (callW_worker p q (by rfl) (args := #[s.val, .int .i64 i]) ?_ (Rf := fun v _ => v = (splitS s i).val) (fun u hu => (split_any s i u H.ok ⟨by omega, by omega⟩).mono (fun e w' h => by subst h; rfl)) hF.owns hF.ltc (fun b hb => hb.2)) ?_
  · intro j hj
    simp only [List.size_toArray, List.length_cons, List.length_nil] at hj
    obtain rfl | rfl : j = 0 ∨ j = 1 := by omega
    · exact sd_closed s
    · exact .int _ _
  rintro v' M' w' ⟨ρ', u', v, _, _, hO, ⟨_, rfl⟩, hV⟩
  obtain rfl := hV.eq_of_closed (sd_closed _)
  replace hF := hF.over hO
  clear hO hV
  refine ⟨hF, ?_⟩
  walk_nrm
  refine anyW_one (i := 6) (by kernel_rfl) ?_
  refine opW_call (f := 62) rfl (by rfl) rfl (by simp [Act.eval, Sd.val]) (callW_worker p q (by rfl) (args := #[(splitS s i).val, .int .i64 cnt]) ?_ (Rf := fun v w' => ∃ r, v = .tuple #[(iterS (splitS s i) cnt).val, r] ∧ w'.ownsRow 2 2 1 r cnt (wordsV (splitS s i) cnt))
    (fun u hu => (words_any (splitS s i) cnt u (split_ok s i) H.le).mono (fun e w' ⟨r, h, h2⟩ => by subst h; rw [hu] at h2; exact ⟨r, rfl, h2⟩)) hF.owns hF.ltc (fun b hb => hb.2)) ?_
  · intro j hj
    simp only [List.size_toArray, List.length_cons, List.length_nil] at hj
    obtain rfl | rfl : j = 0 ∨ j = 1 := by omega
    · exact sd_closed _
    · exact .int _ _
  have hlt := hF.ltk
  rintro v' M' w3 ⟨ρ', u', v, hH, hB, hO, ⟨_, r, rfl, hr⟩, hV⟩
  obtain ⟨a', r', rfl, hV1, hV2⟩ := hV.pair
  obtain rfl := hV1.eq_of_closed (sd_closed _)
  have hold : ∀ j v' g, D j → w3.cell? ⟨p.C, j, none⟩ = some v' → v'.ownBlock = some g → g < w'.heap.size := fun j v' g hj hv hg => by
    obtain ⟨v1, k1, k2, _⟩ := hF.rows j hj
    have := (hO.cell j (hF.own j hj)).symm.trans hv
    rw [k1] at this
    cases this
    exact (k2.lt hg).1
  replace hF := hF.over hO
  obtain ⟨hrow, hblk⟩ := rowC_rel hH hV2 (u := u') hr (B := bk + 1) (fun i b hi => by have := (hB i b hi).2; omega)
  have hmine : ∀ g, r'.ownBlock = some g → M' g := fun g hg => by obtain ⟨i, hi⟩ := hblk g hg; exact (hB i g hi).1
  have hfresh : ∀ j v' g, D j → w3.cell? ⟨p.C, j, none⟩ = some v' → v'.ownBlock = some g → r'.ownBlock ≠ some g := fun j v' g hj hv hg hg2 => by
    have h1 := hold j v' g hj hv hg
    obtain ⟨i, hi⟩ := hblk g hg2
    have := (hB i g hi).2
    omega
  clear hold
  clear hO hV hV1 hV2 hr hB hblk hH
  refine ⟨hF, ?_⟩
  walk_nrm
  refine anyW_take (v := .tuple #[(iterS (splitS s i) cnt).val, r']) (i := 7) T hSR hQR rfl (by kernel_rfl) (by kernel_rfl) (by kernel_rfl) (.inl ⟨by rfl, fun c w hS => ⟨?_, ?_⟩⟩) hF ?_
  · skip
    go_simp
  · skip
    exact Gua.reads fun e he => by
      have hm := mem_listed he
      simp [go_sem] at hm
  walk_nrm
  refine anyW_take (v := (iterS (splitS s i) cnt).val) (i := 8) T hSR hQR rfl (by kernel_rfl) (by kernel_rfl) (by kernel_rfl) (.inl ⟨by rfl, fun c w hS => ⟨?_, ?_⟩⟩) hF ?_
  · skip
    go_simp
  · skip
    exact Gua.reads fun e he => by
      have hm := mem_listed he
      simp [go_sem] at hm
  walk_nrm
  refine anyW_take (v := r') (i := 9) T hSR hQR rfl (by kernel_rfl) (by kernel_rfl) (by kernel_rfl) (.inl ⟨by rfl, fun c w hS => ⟨?_, ?_⟩⟩) hF ?_
  · skip
    go_simp
  · skip
    exact Gua.reads fun e he => by
      have hm := mem_listed he
      simp [go_sem] at hm
  walk_nrm
  refine anyW_take (v := .pointer (some ⟨p.C, i, none⟩)) (i := 10) T hSR hQR rfl (by kernel_rfl) (by kernel_rfl) (by kernel_rfl) (.inl ⟨by rfl, fun c w hS => ⟨?_, ?_⟩⟩) hF ?_
  · skip
    go_simp
  · skip
    exact Gua.reads fun e he => by
      have hm := mem_listed he
      simp [go_sem] at hm; rw [events_indexAt_slice _ _ _ _ _ _ (by kernel_rfl) ⟨by omega, by omega⟩] at hm; simp at hm
  walk_nrm
  refine anyW_one (i := 11) (by kernel_rfl) ?_
  unfold OpW
  simp only [List.getElem?_toArray, List.getElem?_cons_succ, List.getElem?_cons_zero]
  rw [if_pos (by rfl)]
  refine .inl fun w₂ h₂ => ?_
  replace hF := hF.rely h₂
  replace hrow := hrow.of fun g hg => h₂.own g (.inl (hmine g hg))
  replace hfresh : ∀ j v' g, D j → w₂.cell? ⟨p.C, j, none⟩ = some v' → v'.ownBlock = some g → r'.ownBlock ≠ some g := fun j v' g hj hv => hfresh j v' g hj ((h₂.cell j (hF.own j hj)).symm.trans hv)
  clear h₂
  have hin : i < p.n := by rw [H.n]; exact hi
  obtain ⟨⟨v0, hv0⟩, hfz⟩ := hF.out.cell hin
  obtain ⟨po, n1, c1, rfl⟩ : ∃ po n1 c1, r' = .slice po n1 c1 := by
    rcases hrow.1.2 with ⟨e, _⟩ | ⟨g, c, _, e, _⟩
    · exact ⟨_, _, _, e⟩
    · exact ⟨_, _, _, e⟩
  refine uponK_k fun K hK => ?_
  go_simp
  refine hK _ _ ⟨M', Gua.cell hc hF.out (fun e he => ?_), ?_, ?_⟩
  · have hm := mem_listed he
    simp [go_sem, Go.events_store _ _ _ _ (Value.slice po n1 c1) _ rfl, hv0, hfz] at hm
    exact hm
  · exact (hF.store hc hin hD hrow hmine hfresh H.nro H.cw).sub fun j => .inl
  · have hF2 := hF.store hc hin hD hrow hmine hfresh H.nro H.cw
    refine anyW_done (by kernel_rfl) ?_ _
    exact ⟨rfl, _, resultsC_none rfl _, hF2⟩

/-- The worker's other captured variables. -/
structure CapW (q : Part) (w₀ : World) (fd : FuncId) (caps : Array Value) (Bm Bn Bd mny stp : Nat) : Prop where
  hm : w₀.cell? ⟨Bm, 0, none⟩ = some (.int .i64 mny)
  hn : w₀.cell? ⟨Bn, 0, none⟩ = some (.int .i64 stp)
  hd : w₀.cell? ⟨Bd, 0, none⟩ = some (.func (.func fd) #[] caps)
  rm : q.Ro Bm
  rn : q.Ro Bn
  rd : q.Ro Bd
theorem job_streams {Bm Bn Bd stp : Nat} (H : Cap68 p q w₀ Bs Bc Bo cap mny cnt s) (V : CapW q w₀ 68 #[.pointer (some ⟨Bs, 0, none⟩), .pointer (some ⟨Bc, 0, none⟩), .pointer (some ⟨Bo, 0, none⟩)] Bm Bn Bd mny stp)
    (hs : 1 ≤ stp ∧ stp ≤ 1000 ∧ k0 < stp) (hcell : ∀ i, i < mny → i % stp = k0 → q.Cell i) :
    Job p q (StJ p q w₀ bk k0 2 1 cnt (fun j => wordsV (splitS s j) cnt)) 68 Try.f68 body68 #[.pointer (some ⟨Bs, 0, none⟩), .pointer (some ⟨Bc, 0, none⟩), .pointer (some ⟨Bo, 0, none⟩)] Bm Bn Bd bk mny stp k0 :=
  ⟨fun _ _ _ _ r h => h.rely r, fun _ _ _ h => (h.read V.rm).1.trans V.hm, fun _ _ _ h => (h.read V.rn).1.trans V.hn, fun _ _ _ h => (h.read V.rd).1.trans V.hd, fun _ _ _ h => ⟨by simp [World.cell?, h.k], h.kept⟩, fun _ _ _ h => h.live, ⟨V.rm, V.rn, V.rd⟩, Try.func68, by kernel_rfl, by rfl, ⟨H.lm, hs.1, hs.2.1, hs.2.2⟩,
    fun D M w i h1 h2 h3 h4 => by
      have e : (#[Value.int .i64 i] ++ #[Value.pointer (some ⟨Bs, 0, none⟩), Value.pointer (some ⟨Bc, 0, none⟩), Value.pointer (some ⟨Bo, 0, none⟩)]) ++ Array.replicate (Try.f68.ntmps - (#[Value.int .i64 i] ++ #[Value.pointer (some ⟨Bs, 0, none⟩), Value.pointer (some ⟨Bc, 0, none⟩), Value.pointer (some ⟨Bo, 0, none⟩)]).size) undef =
          #[.int .i64 i, .pointer (some ⟨Bs, 0, none⟩), .pointer (some ⟨Bc, 0, none⟩), .pointer (some ⟨Bo, 0, none⟩), undef, undef, undef, undef, undef, undef, undef, undef, undef, undef, undef, undef] := by
        have h16 : Try.f68.ntmps = 16 := by kernel_rfl
        rw [h16]
        simp
      rw [e]
      exact job68 H D M w i h1 (hcell i h1 h2) (fun hd => by have := (h3 i).1 hd; omega) h4⟩
end
end Go.Proofs.Ytmhbjmkdekgmlaa.Sim
