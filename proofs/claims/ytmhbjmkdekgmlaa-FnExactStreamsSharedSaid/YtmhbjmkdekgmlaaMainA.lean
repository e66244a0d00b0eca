/-
  shared's loop in company: each worker's variable is made, the group is told of it, the worker is started; then the group is waited for.
  Condition: each worker that is started has its way ('hW').
-/
import Derived.Test.YtmhbjmkdekgmlaaWorkC
import Derived.Test.YtmhbjmkdekgmlaaWorkD
import Derived.Test.YtmhbjmkdekgmlaaGrpA
import Derived.Test.YtmhbjmkdekgmlaaGrpB
set_option linter.unusedSimpArgs false
set_option linter.unusedVariables false
namespace Go.Proofs.Ytmhbjmkdekgmlaa.Sim
open Go.Proofs.Ytmhbjmkdekgmlaa.Seeds (link wgLib)
open Go Go.Conc Go.ConcN Go.RowKit Go.Conc.Lib Go.ConcR.Gen Go.ConcN.Gen
open Go.ConcR (KK wgBlock WgAt stA smA rd wr mk Payload Aside2 DC0)

noncomputable def body67 : Code := Try.f67.body.getD .skip
noncomputable def loop67 : Code := match body67 with | .seq _ (.seq _ (.seq (.seq _ (.block _ (.loop c))) _)) => c | _ => .skip
noncomputable def wait67 : Code := match body67 with | .seq _ (.seq _ (.seq _ c)) => c | _ => .skip
noncomputable def ops67 : Array Oper := match wait67 with | .region _ ops _ => ops | _ => #[]

section
variable [Payload] {f : Plan} {w₀ : World} {Post : Nat → (Nat → Prop) → World → Prop}

omit [Payload] in
/-- What shared's own frame holds over a call, under its rely. -/
theorem kept_main {F : World → Prop} {c : Nat → Prop} (hty : f.p.ty = 124) (h1 : ∀ w w₁, F w → RM f c w w₁ → F w₁) (h2 : ∀ w v, F w → F (w.setCell (stA f.p.Wg) v)) (h3 : ∀ w v, F w → F (w.setCell (smA f.p.Wg) v)) :
    Kept (RM f) (DM f) link.tWg f.p.Wg F c := by
  have e : link.tWg = f.p.ty := hty.symm
  have no : ∀ w : World, c = fun b => c b ∨ (w.heap.size ≤ b ∧ b < w.heap.size) := fun w => funext fun b => propext ⟨.inl, fun h => h.elim id fun h => by omega⟩
  refine ⟨fun w w₁ h r => ⟨h1 _ _ h.1 r, by rw [e] at h ⊢; exact r.live h.2⟩, fun w es he => ⟨no w, Nat.le_refl _, fun _ _ _ => rfl, Kin.refl w, fun e h => (he e h).elim⟩, fun w a ha => ⟨⟨no w, Nat.le_refl _, fun _ _ _ => rfl, Kin.refl w, fun e h => ?_⟩, ⟨no w, Nat.le_refl _, fun _ _ _ => rfl, Kin.refl w, fun e h => ?_⟩⟩, h2, h3⟩
  · simp only [List.mem_toArray, List.mem_singleton] at h
    exact .inr (.inr ⟨a, ha, .inl h⟩)
  · simp only [List.mem_toArray, List.mem_singleton] at h
    exact .inr (.inr ⟨a, ha, .inr h⟩)

variable {fv : Value} {Bm Bn Bd mny stp : Nat} {cs : List Frame}
def tm67 (f : Plan) (fv : Value) (Bm Bn Bd mny stp : Nat) (j : Nat) (v7 v10 v11 v12 v13 v14 : Value) : Array Value :=
  #[.int .i64 mny, .int .i64 stp, fv, .pointer (some ⟨Bm, 0, none⟩), .pointer (some ⟨Bn, 0, none⟩), .pointer (some ⟨Bd, 0, none⟩), .pointer (some ⟨f.p.Wg, 0, none⟩), v7, .int .i64 stp, .int .i64 j, v10, v11, v12, v13, v14, undef]
/-- The frame that waits: behind the call of Wait. -/
def AfterWait (cs : List Frame) (_ : Nat → Prop) (g : Goroutine) (_ : World) : Prop :=
  ∃ T : Array Value, g = G ((base 67).at ⟨T, []⟩ [.inRegion ops67 []]) cs

omit [Payload] in
set_option maxRecDepth 100000 in
set_option maxHeartbeats 8000000 in
theorem fin67 (hty : f.p.ty = 124) (j : Nat) (v7 v10 v11 v12 v13 v14 : Value) (c : Nat → Prop) (w : World) (hF : True ∧ WgLive link.tWg f.p.Wg w) :
    FinW Try.prog f (AnchM link (fun _ => True) f.p.Wg c ((base 67).at ⟨tm67 f fv Bm Bn Bd mny stp j v7 v10 v11 v12 v13 v14, []⟩ [.inRegion ops67 [0]]) cs) c (G ((base 67).at ⟨tm67 f fv Bm Bn Bd mny stp j v7 v10 v11 v12 v13 v14, []⟩ [.code wait67]) cs) w := by
  have HK : Kept (RM f) (DM f) link.tWg f.p.Wg (fun _ => True) c := kept_main hty (fun _ _ _ _ => trivial) (fun _ _ _ => trivial) (fun _ _ _ => trivial)
  unfold FinW
  simp only [ops67, wait67, body67, Try.f67, Option.getD_some, tm67]
  (refine Way.goes rfl (fun _ h₁ => ?_); replace hF := HK.rely _ _ hF h₁; clear h₁; rw [stepG_region]; simp only [goes_go, List.size_toArray, List.length_cons, List.length_nil, Nat.reduceAdd, Nat.zero_add, List.range, List.range.loop]; refine ⟨c, HK.none _ _ (by intro e he; simp at he), ?_⟩)
  refine Way.goes rfl (fun _ h₁ => ?_)
  replace hF := HK.rely _ _ hF h₁
  clear h₁
  refine goes_call rfl rfl (by k_ne) rfl wgLib.f_wait (nm_wait link) rfl ⟨c, HK.none _ _ (by intro e he; simp at he), ?_⟩
  walk_nrmf waitFn
  exact waitStart wgLib HK _ hF

section
variable {γ : Type} {R : γ → World → World → Prop} {D : γ → World → World → Array Event → γ → Prop} {P : Program} {ty : TypeId} {Wg : Nat} {A A' Next : γ → Goroutine → World → Prop} {c : γ} {g : Goroutine} {w : World}
omit [Payload] in
theorem AtKdW.mono (h : ∀ c g w, A c g w → A' c g w) (hh : AtKdW R D P A c g w) : AtKdW R D P A' c g w :=
  let ⟨h1, g', h2, t, h3⟩ := hh
  ⟨h1, g', h2, t, h3.mono h⟩
omit [Payload] in
theorem AtW2.mono (h : ∀ c g w, A c g w → A' c g w) {vs : Nat} (hh : AtW2 R D P ty Wg A Next vs c g w) : AtW2 R D P ty Wg A' Next vs c g w :=
  ⟨hh.1, fun v hv hw => ⟨(hh.2 v hv hw).1, fun hne => let ⟨g', h2, t, h3⟩ := (hh.2 v hv hw).2 hne; ⟨g', h2, t, h3.mono h⟩⟩⟩
omit [Payload] in
theorem AtW1.mono (h : ∀ c g w, A c g w → A' c g w) (hh : AtW1 R D P ty Wg A Next c g w) : AtW1 R D P ty Wg A' Next c g w :=
  ⟨hh.1, fun v hv hw => let ⟨g', h1, h2, h3⟩ := hh.2 v hv hw; ⟨g', h1, h2, fun hne => let ⟨t, h4⟩ := h3 hne; ⟨t, h4.mono fun _ _ _ x => AtW2.mono h x⟩⟩⟩
end

/-- The anchor of the wait, whatever the loop has left in its slots. -/
def Anch67 (f : Plan) (fv : Value) (Bm Bn Bd mny stp : Nat) (cs : List Frame) (c : Nat → Prop) (g : Goroutine) (w : World) : Prop :=
  ∃ (j : Nat) (v7 v10 v11 v12 v13 v14 : Value), AnchM link (fun _ => True) f.p.Wg (fun _ : Nat => False) ((base 67).at ⟨tm67 f fv Bm Bn Bd mny stp j v7 v10 v11 v12 v13 v14, []⟩ [.inRegion ops67 [0]]) cs c g w

set_option maxRecDepth 100000 in
set_option maxHeartbeats 8000000 in
theorem spawns67 (hty : f.p.ty = 124) (hWB : f.p.Wg < f.B0) (hN : f.N = stp) (hsm : stp ≤ 1000)
    (hW : ∀ j bk w, j < f.N → Base f w₀ w → OutAt f.p w → WgLive link.tWg f.p.Wg w → f.B0 ≤ bk → w.heap[bk]? = some (.cells #[.int .i64 j] 2) → ∃ t, Work Try.prog f Post (f.q0 + (j + 1)) t (fun b => b = bk) (born Try.prog (call104 f.p.Wg bk Bm Bn Bd)) w) :
    ∀ (r j : Nat) (v7 v10 v11 v12 v13 v14 : Value) (w : World), j + r = stp → f.B0 ≤ w.heap.size ∧ WgLive link.tWg f.p.Wg w →
      SpawnsM Try.prog f w₀ Post (Anch67 f fv Bm Bn Bd mny stp cs) r (fun _ => False) (G ((base 67).at ⟨tm67 f fv Bm Bn Bd mny stp j v7 v10 v11 v12 v13 v14, []⟩ [.code loop67, .inLoop loop67, .inBlock 0, .code wait67]) cs) w := by
  intro r
  induction r with
  | zero =>
    intro j v7 v10 v11 v12 v13 v14 w hj hF
    obtain ⟨c, hc⟩ : ∃ c : Nat → Prop, c = fun _ => False := ⟨_, rfl⟩
    have HK : Kept (RM f) (DM f) link.tWg f.p.Wg (fun w => f.B0 ≤ w.heap.size) c := kept_main hty (fun _ _ h r => Nat.le_trans h r.size) (fun _ _ h => by simpa using h) (fun _ _ h => by simpa using h)
    unfold SpawnsM
    rw [← hc]
    have hlt : decide (j < stp) = false := decide_eq_false (by omega)
    have hfin := fun v10 w hF => fin67 (fv := fv) (Bm := Bm) (Bn := Bn) (Bd := Bd) (mny := mny) (stp := stp) (cs := cs) hty j v7 v10 v11 v12 v13 v14 c w hF
    unfold FinW at hfin ⊢
    simp only [loop67, body67, Try.f67, Option.getD_some, tm67] at hfin ⊢
    (refine Way.goes rfl (fun _ h₁ => ?_); replace hF := HK.rely _ _ hF h₁; clear h₁; rw [stepG_seq]; simp only [goes_go]; refine ⟨c, HK.none _ _ (by intro e he; simp at he), ?_⟩)
    (refine Way.goes rfl (fun _ h₁ => ?_); replace hF := HK.rely _ _ hF h₁; clear h₁; rw [stepG_region]; simp only [goes_go, List.size_toArray, List.length_cons, List.length_nil, Nat.reduceAdd, Nat.zero_add, List.range, List.range.loop]; refine ⟨c, HK.none _ _ (by intro e he; simp at he), ?_⟩)
    (refine Way.goes rfl (fun _ h₁ => ?_); replace hF := HK.rely _ _ hF h₁; clear h₁; refine goes_oper_k rfl rfl (by k_ne) (fun K hK => ?_); go_simp; refine hK _ _ ⟨c, HK.none _ _ (by intro e he; have hm := mem_listed he; simp [go_sem, Instr.makeFunc, *] at hm), ?_⟩; clear hK K; try walk_nrm)
    (refine Way.goes rfl (fun _ h₁ => ?_); replace hF := HK.rely _ _ hF h₁; clear h₁; rw [stepG_region_end]; simp only [goes_go]; refine ⟨c, HK.none _ _ (by intro e he; simp at he), ?_⟩)
    (refine Way.goes rfl (fun _ h₁ => ?_); replace hF := HK.rely _ _ hF h₁; clear h₁; rw [stepG_seq]; simp only [goes_go]; refine ⟨c, HK.none _ _ (by intro e he; simp at he), ?_⟩)
    (refine Way.goes rfl (fun _ h₁ => ?_); replace hF := HK.rely _ _ hF h₁; clear h₁; rw [stepG_cond (t := false) (by first | rfl | simp [Act.eval, *])]; simp only [goes_go, if_true, if_false, Bool.false_eq_true, ↓reduceIte]; refine ⟨c, HK.none _ _ (by intro e he; simp at he), ?_⟩)
    (refine Way.goes rfl (fun _ h₁ => ?_); replace hF := HK.rely _ _ hF h₁; clear h₁; rw [stepG_exit rfl]; simp only [goes_go]; refine ⟨c, HK.none _ _ (by intro e he; simp at he), ?_⟩)
    obtain ⟨t, ht⟩ := hfin _ _ ⟨trivial, hF.2⟩
    exact ⟨t, ht.mono fun _ _ _ x => AtKdW.mono (fun _ _ _ y => ⟨j, v7, _, v11, v12, v13, v14, by rw [hc] at y; exact y⟩) x⟩
  | succ r ih =>
    intro j v7 v10 v11 v12 v13 v14 w hj hF
    obtain ⟨c, hc⟩ : ∃ c : Nat → Prop, c = fun _ => False := ⟨_, rfl⟩
    have HK : Kept (RM f) (DM f) link.tWg f.p.Wg (fun w => f.B0 ≤ w.heap.size) c := kept_main hty (fun _ _ h r => Nat.le_trans h r.size) (fun _ _ h => by simpa using h) (fun _ _ h => by simpa using h)
    unfold SpawnsM
    rw [← hc]
    have hlt : decide (j < stp) = true := decide_eq_true (by omega)
    have hmm : j + 1 ≤ 1000 := by omega
    have hw1 : IntKind.i64.wrap ((j : Int) + 1) = ((j + 1 : Nat) : Int) := by rw [IntKind.wrap_i64]; omega
    have hjr : f.N - (r + 1) = j := by omega
    rw [hjr, hty]
    have ih' := ih (j + 1)
    simp only [loop67, body67, Try.f67, Option.getD_some, tm67] at ih' ⊢
    (refine Way.goes rfl (fun _ h₁ => ?_); replace hF := HK.rely _ _ hF h₁; clear h₁; rw [stepG_seq]; simp only [goes_go]; refine ⟨c, HK.none _ _ (by intro e he; simp at he), ?_⟩)
    (refine Way.goes rfl (fun _ h₁ => ?_); replace hF := HK.rely _ _ hF h₁; clear h₁; rw [stepG_region]; simp only [goes_go, List.size_toArray, List.length_cons, List.length_nil, Nat.reduceAdd, Nat.zero_add, List.range, List.range.loop]; refine ⟨c, HK.none _ _ (by intro e he; simp at he), ?_⟩)
    (refine Way.goes rfl (fun _ h₁ => ?_); replace hF := HK.rely _ _ hF h₁; clear h₁; refine goes_oper_k rfl rfl (by k_ne) (fun K hK => ?_); go_simp; refine hK _ _ ⟨c, HK.none _ _ (by intro e he; have hm := mem_listed he; simp [go_sem, Instr.makeFunc, *] at hm), ?_⟩; clear hK K; try walk_nrm)
    (refine Way.goes rfl (fun _ h₁ => ?_); replace hF := HK.rely _ _ hF h₁; clear h₁; rw [stepG_region_end]; simp only [goes_go]; refine ⟨c, HK.none _ _ (by intro e he; simp at he), ?_⟩)
    (refine Way.goes rfl (fun _ h₁ => ?_); replace hF := HK.rely _ _ hF h₁; clear h₁; rw [stepG_seq]; simp only [goes_go]; refine ⟨c, HK.none _ _ (by intro e he; simp at he), ?_⟩)
    (refine Way.goes rfl (fun _ h₁ => ?_); replace hF := HK.rely _ _ hF h₁; clear h₁; rw [stepG_cond (t := true) (by first | rfl | simp [Act.eval, *])]; simp only [goes_go, if_true, if_false, Bool.false_eq_true, ↓reduceIte]; refine ⟨c, HK.none _ _ (by intro e he; simp at he), ?_⟩)
    (refine Way.goes rfl (fun _ h₁ => ?_); replace hF := HK.rely _ _ hF h₁; clear h₁; rw [stepG_skip]; simp only [goes_go]; refine ⟨c, HK.none _ _ (by intro e he; simp at he), ?_⟩)
    (refine Way.goes rfl (fun _ h₁ => ?_); replace hF := HK.rely _ _ hF h₁; clear h₁; rw [stepG_seq]; simp only [goes_go]; refine ⟨c, HK.none _ _ (by intro e he; simp at he), ?_⟩)
    (refine Way.goes rfl (fun _ h₁ => ?_); replace hF := HK.rely _ _ hF h₁; clear h₁; rw [stepG_block]; simp only [goes_go]; refine ⟨c, HK.none _ _ (by intro e he; simp at he), ?_⟩)
    (refine Way.goes rfl (fun _ h₁ => ?_); replace hF := HK.rely _ _ hF h₁; clear h₁; rw [stepG_seq]; simp only [goes_go]; refine ⟨c, HK.none _ _ (by intro e he; simp at he), ?_⟩)
    (refine Way.goes rfl (fun _ h₁ => ?_); replace hF := HK.rely _ _ hF h₁; clear h₁; rw [stepG_region]; simp only [goes_go, List.size_toArray, List.length_cons, List.length_nil, Nat.reduceAdd, Nat.zero_add, List.range, List.range.loop]; refine ⟨c, HK.none _ _ (by intro e he; simp at he), ?_⟩)
    (refine Way.goes rfl (fun _ h₁ => ?_); replace hF := HK.rely _ _ hF h₁; clear h₁; refine goes_oper_k rfl rfl (by k_ne) (fun K hK => ?_); go_simp; refine hK _ _ ⟨c, HK.none _ _ (by intro e he; have hm := mem_listed he; simp [go_sem, Instr.makeFunc, *] at hm), ?_⟩; clear hK K; try walk_nrm)
    refine Way.goes rfl (fun w₁ h₁ => ?_)
    replace hF := HK.rely _ _ hF h₁
    clear h₁
    refine goes_oper_k rfl rfl (by k_ne) (fun K hK => ?_)
    go_simp
    obtain ⟨bk, hbk⟩ : ∃ b, b = w₁.heap.size := ⟨_, rfl⟩
    rw [← hbk]
    refine hK _ _ ⟨(fun b => b = bk), ⟨?_, by simp, fun b h1 _ => ?_, ⟨rfl, rfl, rfl⟩, fun e he => ?_⟩, ?_⟩
    · subst hc
      funext b
      refine propext ⟨fun h => .inr ⟨by omega, by simp [World.size_alloc]; omega⟩, fun h => ?_⟩
      rcases h with h | ⟨h1, h2⟩
      · exact h.elim
      · simp [World.size_alloc] at h2; omega
    · exact Below.heap_alloc _ _ _ (by omega)
    · have hm := mem_listed he
      simp [go_sem] at hm
    clear hK K
    have hF2 : (f.B0 ≤ bk ∧ (w₁.alloc (Obj.cells #[Value.int .i64 0] 2)).heap[bk]? = some (.cells #[.int .i64 0] 2)) ∧ WgLive link.tWg f.p.Wg (w₁.alloc (Obj.cells #[Value.int .i64 0] 2)) :=
      ⟨⟨by omega, by rw [hbk]; exact heap_alloc_new _ _⟩, WgLive.of_block (Below.heap_alloc _ _ _ (by omega)) hF.2⟩
    clear hbk hF HK hc c
    generalize w₁.alloc (Obj.cells #[Value.int .i64 0] 2) = w₂ at hF2 ⊢
    replace hF := hF2
    clear hF2
    have hWb : f.B0 ≤ bk := hF.1.1
    obtain ⟨c, hc⟩ : ∃ c : Nat → Prop, c = fun b => b = bk := ⟨_, rfl⟩
    rw [← hc]
    have hcb : c bk := by rw [hc]
    have hcB : ∀ b, c b → b = bk := fun b h => by rw [hc] at h; exact h
    have HK : ∀ x : Value, Kept (RM f) (DM f) link.tWg f.p.Wg (fun w => f.B0 ≤ bk ∧ w.heap[bk]? = some (.cells #[x] 2)) c := fun x => kept_main hty (fun _ _ h r => ⟨h.1, (r.own bk hcb).trans h.2⟩)
      (fun _ _ h => ⟨h.1, by rw [← h.2]; exact (aside_setCell _ (stA f.p.Wg) _).block bk (by show bk ≠ f.p.Wg; omega)⟩)
      (fun _ _ h => ⟨h.1, by rw [← h.2]; exact (aside_setCell _ (smA f.p.Wg) _).block bk (by show bk ≠ f.p.Wg; omega)⟩)
    refine Way.goes rfl (fun w₃ h₁ => ?_)
    replace hF := (HK _).rely _ _ hF h₁
    clear h₁
    have hx : w₃.cell? ⟨bk, 0, none⟩ = some (.int .i64 0) := by simp [World.cell?, hF.1.2]
    have hz : w₃.frozen? ⟨bk, 0, none⟩ = false := by simp [World.frozen?, hF.1.2]
    refine goes_oper_k rfl rfl (by k_ne) (fun K hK => ?_)
    go_simp
    refine hK _ _ ⟨c, ⟨?_, by simp, fun b h1 h2 => ?_, ⟨rfl, rfl, rfl⟩, fun e he => ?_⟩, ?_⟩
    · exact funext fun b => propext ⟨.inl, fun h => h.elim id fun h => by have := h.1; have h2 := h.2; simp at h2; omega⟩
    · exact (aside_setCell w₃ ⟨bk, 0, none⟩ _).block b (by rintro rfl; exact h2 hcb)
    · have hm := mem_listed he
      simp [go_sem, hx, hz] at hm
      subst hm
      exact .inl ⟨_, true, rfl, hcb⟩
    clear hK K hx hz
    have hF2 : (f.B0 ≤ bk ∧ (w₃.setCell ⟨bk, 0, none⟩ (.int .i64 j)).heap[bk]? = some (.cells #[.int .i64 j] 2)) ∧ WgLive link.tWg f.p.Wg (w₃.setCell ⟨bk, 0, none⟩ (.int .i64 j)) := by
      refine ⟨⟨hF.1.1, ?_⟩, WgLive.of_block ((aside_setCell w₃ ⟨bk, 0, none⟩ _).block _ (by show f.p.Wg ≠ bk; omega)) hF.2⟩
      simp only [World.setCell, Array.getElem?_modify, if_true, hF.1.2, Option.map_some]
      rfl
    clear hF
    generalize w₃.setCell ⟨bk, 0, none⟩ (.int .i64 j) = w₄ at hF2 ⊢
    replace hF := hF2
    clear hF2
    replace HK := HK (.int .i64 j)
    try walk_nrm
    (refine Way.goes rfl (fun _ h₁ => ?_); replace hF := HK.rely _ _ hF h₁; clear h₁; rw [stepG_region_end]; simp only [goes_go]; refine ⟨c, HK.none _ _ (by intro e he; simp at he), ?_⟩)
    (refine Way.goes rfl (fun _ h₁ => ?_); replace hF := HK.rely _ _ hF h₁; clear h₁; rw [stepG_seq]; simp only [goes_go]; refine ⟨c, HK.none _ _ (by intro e he; simp at he), ?_⟩)
    (refine Way.goes rfl (fun _ h₁ => ?_); replace hF := HK.rely _ _ hF h₁; clear h₁; rw [stepG_region]; simp only [goes_go, List.size_toArray, List.length_cons, List.length_nil, Nat.reduceAdd, Nat.zero_add, List.range, List.range.loop]; refine ⟨c, HK.none _ _ (by intro e he; simp at he), ?_⟩)
    refine Way.goes rfl (fun _ h₁ => ?_)
    replace hF := HK.rely _ _ hF h₁
    clear h₁
    refine goes_call rfl rfl (by k_ne) rfl wgLib.f_add (nm_add link) rfl ⟨c, HK.none _ _ (by intro e he; simp at he), ?_⟩
    walk_nrmf addFn
    refine addOne wgLib HK (fun w hF1 hF2 => ?_) _ hF
    replace hF := And.intro hF1 hF2
    clear hF1 hF2
    walk_nrm
    (refine Way.goes rfl (fun _ h₁ => ?_); replace hF := HK.rely _ _ hF h₁; clear h₁; rw [stepG_region_end]; simp only [goes_go]; refine ⟨c, HK.none _ _ (by intro e he; simp at he), ?_⟩)
    (refine Way.goes rfl (fun _ h₁ => ?_); replace hF := HK.rely _ _ hF h₁; clear h₁; rw [stepG_region]; simp only [goes_go, List.size_toArray, List.length_cons, List.length_nil, Nat.reduceAdd, Nat.zero_add, List.range, List.range.loop]; refine ⟨c, HK.none _ _ (by intro e he; simp at he), ?_⟩)
    (refine Way.goes rfl (fun _ h₁ => ?_); replace hF := HK.rely _ _ hF h₁; clear h₁; refine goes_oper_k rfl rfl (by k_ne) (fun K hK => ?_); go_simp; refine hK _ _ ⟨c, HK.none _ _ (by intro e he; have hm := mem_listed he; simp [go_sem, Instr.makeFunc, *] at hm), ?_⟩; clear hK K; try walk_nrm)
    refine Way.here (fun w₅ h₁ => ?_)
    replace hF := HK.rely _ _ hF h₁
    clear h₁
    refine ⟨rfl, _, _, (stepG_spawn (d := call104 f.p.Wg bk Bm Bn Bd) (w' := w₅) rfl rfl (by k_ne) (by simp [go_sem, execOp, Act.eval, call104]) rfl).trans (by rw [listed_nil (by simp [go_sem, execOp, Act.eval])]), rfl, fun hB hO => ?_, ?_⟩
    · rw [hc]
      exact hW j bk w₅ (by omega) hB hO hF.2 hWb hF.1.2
    have hF2 : f.B0 ≤ w₅.heap.size ∧ WgLive link.tWg f.p.Wg w₅ := ⟨by have := lt_of_some hF.1.2; omega, hF.2⟩
    clear hF HK hc hcb hcB c
    replace hF := hF2
    clear hF2
    obtain ⟨c, hc⟩ : ∃ c : Nat → Prop, c = fun _ => False := ⟨_, rfl⟩
    have HK : Kept (RM f) (DM f) link.tWg f.p.Wg (fun w => f.B0 ≤ w.heap.size) c := kept_main hty (fun _ _ h r => Nat.le_trans h r.size) (fun _ _ h => by simpa using h) (fun _ _ h => by simpa using h)
    walk_nrm
    obtain ⟨St, hSt⟩ : ∃ St : (Nat → Prop) → Goroutine → World → Prop, ∀ c g w, SpawnsM Try.prog f w₀ Post (Anch67 f fv Bm Bn Bd mny stp cs) r c g w ↔ Wy (RM f) (DM f) Try.prog St c g w := by
      cases r with
      | zero => exact ⟨_, fun _ _ _ => Iff.rfl⟩
      | succ r => exact ⟨_, fun _ _ _ => Iff.rfl⟩
    rw [← hc, hSt]
    rw [← hc] at ih'
    simp only [hSt] at ih'
    clear hSt ih hW hmm
    (refine Way.goes rfl (fun _ h₁ => ?_); replace hF := HK.rely _ _ hF h₁; clear h₁; rw [stepG_region_end]; simp only [goes_go]; refine ⟨c, HK.none _ _ (by intro e he; simp at he), ?_⟩)
    (refine Way.goes rfl (fun _ h₁ => ?_); replace hF := HK.rely _ _ hF h₁; clear h₁; rw [stepG_inBlock]; simp only [goes_go]; refine ⟨c, HK.none _ _ (by intro e he; simp at he), ?_⟩)
    (refine Way.goes rfl (fun _ h₁ => ?_); replace hF := HK.rely _ _ hF h₁; clear h₁; rw [stepG_region]; simp only [goes_go, List.size_toArray, List.length_cons, List.length_nil, Nat.reduceAdd, Nat.zero_add, List.range, List.range.loop]; refine ⟨c, HK.none _ _ (by intro e he; simp at he), ?_⟩)
    (refine Way.goes rfl (fun _ h₁ => ?_); replace hF := HK.rely _ _ hF h₁; clear h₁; refine goes_oper_k rfl rfl (by k_ne) (fun K hK => ?_); go_simp; refine hK _ _ ⟨c, HK.none _ _ (by intro e he; have hm := mem_listed he; simp [go_sem, Instr.makeFunc, *] at hm), ?_⟩; clear hK K; try walk_nrm)
    (refine Way.goes rfl (fun _ h₁ => ?_); replace hF := HK.rely _ _ hF h₁; clear h₁; refine goes_oper_k rfl rfl (by k_ne) (fun K hK => ?_); go_simp; refine hK _ _ ⟨c, HK.none _ _ (by intro e he; have hm := mem_listed he; simp [go_sem, Instr.makeFunc, *] at hm), ?_⟩; clear hK K; try walk_nrm)
    (refine Way.goes rfl (fun _ h₁ => ?_); replace hF := HK.rely _ _ hF h₁; clear h₁; rw [stepG_region_end]; simp only [goes_go]; refine ⟨c, HK.none _ _ (by intro e he; simp at he), ?_⟩)
    (refine Way.goes rfl (fun _ h₁ => ?_); replace hF := HK.rely _ _ hF h₁; clear h₁; rw [stepG_inLoop]; simp only [goes_go]; refine ⟨c, HK.none _ _ (by intro e he; simp at he), ?_⟩)
    rw [show ((j : Int) + 1) = ((j + 1 : Nat) : Int) by omega]
    exact ih' _ _ _ _ _ _ _ (by omega) hF

omit [Payload] in
theorem anch67 (hty : f.p.ty = 124) (c : Nat → Prop) (g : Goroutine) (w : World) (h : Anch67 f fv Bm Bn Bd mny stp cs c g w) :
    Wy (RM f) (DM f) Try.prog (AtW1 (RM f) (DM f) Try.prog f.p.ty f.p.Wg (Anch67 f fv Bm Bn Bd mny stp cs) (AfterWait cs)) c g w := by
  obtain ⟨j, v7, v10, v11, v12, v13, v14, h⟩ := h
  have HK : Kept (RM f) (DM f) link.tWg f.p.Wg (fun _ => True) (fun _ : Nat => False) := kept_main hty (fun _ _ _ _ => trivial) (fun _ _ _ => trivial) (fun _ _ _ => trivial)
  obtain ⟨t, ht⟩ := waitRound (Next := AfterWait cs) wgLib HK (fun w _ _ => Way.here fun w₁ _ => ⟨_, rfl⟩) c g w h
  have e : link.tWg = f.p.ty := hty.symm
  rw [e] at ht
  exact ⟨t, ht.mono fun _ _ _ x => AtW1.mono (fun _ _ _ y => ⟨j, v7, v10, v11, v12, v13, v14, y⟩) x⟩
omit [Payload] in
theorem anch67_run (c : Nat → Prop) (g : Goroutine) (w : World) (h : Anch67 f fv Bm Bn Bd mny stp cs c g w) : g.status = .running := by
  obtain ⟨j, v7, v10, v11, v12, v13, v14, _, T, rfl, _⟩ := h
  rfl
omit [Payload] in
theorem after_run (c : Nat → Prop) (g : Goroutine) (w : World) (h : AfterWait cs c g w) : g.status = .running := by
  obtain ⟨T, rfl⟩ := h
  rfl
end
end Go.Proofs.Ytmhbjmkdekgmlaa.Sim

