/-
  sync.WaitGroup's Wait, made by goroutine 0 in company: the walks between the steps that look at the group's cells, under a rely that keeps the group's block alive.
  Conditions: the program holds the library's functions ('WgLib'); what the caller holds stands under the rely ('Kept').
-/
import Derived.Test.YtmhbjmkdekgmlaaGrpD
set_option linter.unusedSimpArgs false
set_option linter.unusedVariables false
namespace Go.Proofs.Ytmhbjmkdekgmlaa.Sim
open Go Go.Conc Go.ConcN Go.RowKit Go.Conc.Lib Go.ConcR.Gen Go.ConcN.Gen
open Go.ConcR (KK wgBlock WgAt stA smA rd wr mk)
variable {L : WgLink}
/-- At the head of Wait's loop. -/
def AnchM {γ : Type} (L : WgLink) (F : World → Prop) (Wg : Nat) (c : γ) (b : Frame) (cs : List Frame) (c' : γ) (g : Goroutine) (w : World) : Prop :=
  c' = c ∧ ∃ T : Array Value, g = G ((base L.wait).at ⟨T, []⟩ [.code (L7 L), .inLoop (L7 L), .inBlock 0]) (b :: cs) ∧ T.size = 84 ∧ T[0]? = some (.pointer (some ⟨Wg, 0, none⟩)) ∧ F w ∧ WgLive L.tWg Wg w
section
variable {γ : Type} {R : γ → World → World → Prop} {D : γ → World → World → Array Event → γ → Prop} {P : Program} {Wg : Nat} {F : World → Prop} {c : γ} {Next : γ → Goroutine → World → Prop}
  {b₀ : Frame} {a₀ : Act} {ops₀ : Array Oper} {i₀ : Nat} {rest₀ : List Nat} {k₀ : List Item} {cs : List Frame}

set_option maxRecDepth 100000 in
set_option maxHeartbeats 8000000 in
/-- FROM THE LOOP's HEAD. -/
theorem waitRound (H : WgLib P L) (HK : Kept R D L.tWg Wg F c)
    (hT : ∀ w, F w → WgLive L.tWg Wg w → Wy R D P Next c (G (b₀.at (a₀.put ((ops₀[i₀]?).bind (·.dst)) (.tuple #[])) (.inRegion ops₀ rest₀ :: k₀)) cs) w)
    (c' : γ) (g : Goroutine) (w : World) (h : AnchM L F Wg c (b₀.at a₀ (.inRegion ops₀ (i₀ :: rest₀) :: k₀)) cs c' g w) :
    Wy R D P (AtW1 R D P L.tWg Wg (AnchM L F Wg c (b₀.at a₀ (.inRegion ops₀ (i₀ :: rest₀) :: k₀)) cs) Next) c' g w := by
  lib_facts
  obtain ⟨e, T, rfl, hT84, t0, hF⟩ := h
  replace e := e.symm
  subst e
  obtain ⟨v0, v1, v2, v3, v4, v5, v6, v7, v8, v9, v10, v11, v12, v13, v14, v15, v16, v17, v18, v19, v20, v21, v22, v23, v24, v25, v26, v27, v28, v29, v30, v31, v32, v33, v34, v35, v36, v37, v38, v39, v40, v41, v42, v43, v44, v45, v46, v47, v48, v49, v50, v51, v52, v53, v54, v55, v56, v57, v58, v59, v60, v61, v62, v63, v64, v65, v66, v67, v68, v69, v70, v71, v72, v73, v74, v75, v76, v77, v78, v79, v80, v81, v82, v83, rfl⟩ := array84 T hT84
  simp only [List.getElem?_toArray, List.getElem?_cons_zero, Option.some.injEq] at t0
  subst t0
  simp only [L7, body_wait, waitFn, Option.getD_some]
  (refine Way.goes rfl (fun _ h₁ => ?_); replace hF := HK.rely _ _ hF h₁; clear h₁; rw [stepG_block]; simp only [goes_go]; refine ⟨c, HK.none _ _ (by intro e he; simp at he), ?_⟩)
  (refine Way.goes rfl (fun _ h₁ => ?_); replace hF := HK.rely _ _ hF h₁; clear h₁; rw [stepG_seq]; simp only [goes_go]; refine ⟨c, HK.none _ _ (by intro e he; simp at he), ?_⟩)
  (refine Way.goes rfl (fun _ h₁ => ?_); replace hF := HK.rely _ _ hF h₁; clear h₁; rw [stepG_region]; simp only [goes_go, List.size_toArray, List.length_cons, List.length_nil, Nat.reduceAdd, Nat.zero_add, List.range, List.range.loop]; refine ⟨c, HK.none _ _ (by intro e he; simp at he), ?_⟩)
  (refine Way.goes rfl (fun _ h₁ => ?_); replace hF := HK.rely _ _ hF h₁; clear h₁; refine goes_oper_k rfl rfl (by k_ne) (fun K hK => ?_); go_simp; refine hK _ _ ⟨c, HK.none _ _ (by intro e he; have hm := mem_listed he; simp [go_sem, *] at hm), ?_⟩; clear hK K; (try w_num))
  (refine Way.goes rfl (fun _ h₁ => ?_); replace hF := HK.rely _ _ hF h₁; clear h₁; refine goes_oper_k rfl rfl (by k_ne) (fun K hK => ?_); go_simp; refine hK _ _ ⟨c, HK.none _ _ (by intro e he; have hm := mem_listed he; simp [go_sem, *] at hm), ?_⟩; clear hK K; (try w_num))
  (refine Way.goes rfl (fun _ h₁ => ?_); replace hF := HK.rely _ _ hF h₁; clear h₁; refine goes_oper_k rfl rfl (by k_ne) (fun K hK => ?_); go_simp; refine hK _ _ ⟨c, HK.none _ _ (by intro e he; have hm := mem_listed he; simp [go_sem, *] at hm), ?_⟩; clear hK K; (try w_num))
  (refine Way.goes rfl (fun _ h₁ => ?_); replace hF := HK.rely _ _ hF h₁; clear h₁; refine goes_call rfl rfl (by k_ne) rfl H.f_uLoad (nm_uLoad L) rfl ⟨c, HK.none _ _ (by intro e he; simp at he), ?_⟩; walk_nrmf uLoadFn)
  (refine Way.goes rfl (fun _ h₁ => ?_); replace hF := HK.rely _ _ hF h₁; clear h₁; rw [stepG_seq]; simp only [goes_go]; refine ⟨c, HK.none _ _ (by intro e he; simp at he), ?_⟩)
  (refine Way.goes rfl (fun _ h₁ => ?_); replace hF := HK.rely _ _ hF h₁; clear h₁; rw [stepG_region]; simp only [goes_go, List.size_toArray, List.length_cons, List.length_nil, Nat.reduceAdd, Nat.zero_add, List.range, List.range.loop]; refine ⟨c, HK.none _ _ (by intro e he; simp at he), ?_⟩)
  (refine Way.goes rfl (fun _ h₁ => ?_); replace hF := HK.rely _ _ hF h₁; clear h₁; refine goes_oper_k rfl rfl (by k_ne) (fun K hK => ?_); go_simp; refine hK _ _ ⟨c, HK.none _ _ (by intro e he; have hm := mem_listed he; simp [go_sem, *] at hm), ?_⟩; clear hK K; (try w_num))
  (refine Way.goes rfl (fun _ h₁ => ?_); replace hF := HK.rely _ _ hF h₁; clear h₁; rw [stepG_region_end]; simp only [goes_go]; refine ⟨c, HK.none _ _ (by intro e he; simp at he), ?_⟩)
  (refine Way.goes rfl (fun _ h₁ => ?_); replace hF := HK.rely _ _ hF h₁; clear h₁; rw [stepG_seq]; simp only [goes_go]; refine ⟨c, HK.none _ _ (by intro e he; simp at he), ?_⟩)
  (refine Way.goes rfl (fun _ h₁ => ?_); replace hF := HK.rely _ _ hF h₁; clear h₁; rw [stepG_region]; simp only [goes_go, List.size_toArray, List.length_cons, List.length_nil, Nat.reduceAdd, Nat.zero_add, List.range, List.range.loop]; refine ⟨c, HK.none _ _ (by intro e he; simp at he), ?_⟩)
  (refine Way.goes rfl (fun _ h₁ => ?_); replace hF := HK.rely _ _ hF h₁; clear h₁; refine goes_oper_k rfl rfl (by k_ne) (fun K hK => ?_); go_simp; refine hK _ _ ⟨c, HK.none _ _ (by intro e he; have hm := mem_listed he; simp [go_sem, *] at hm), ?_⟩; clear hK K; (try w_num))
  (refine Way.goes rfl (fun _ h₁ => ?_); replace hF := HK.rely _ _ hF h₁; clear h₁; refine goes_oper_k rfl rfl (by k_ne) (fun K hK => ?_); go_simp; refine hK _ _ ⟨c, HK.none _ _ (by intro e he; have hm := mem_listed he; simp [go_sem, *] at hm), ?_⟩; clear hK K; (try w_num))
  (refine Way.goes rfl (fun _ h₁ => ?_); replace hF := HK.rely _ _ hF h₁; clear h₁; refine goes_oper_k rfl rfl (by k_ne) (fun K hK => ?_); go_simp; refine hK _ _ ⟨c, HK.none _ _ (by intro e he; have hm := mem_listed he; simp [go_sem, *] at hm), ?_⟩; clear hK K; (try w_num))
  refine Way.here (fun w₁ h₁ => ?_)
  replace hF := HK.rely _ _ hF h₁
  clear h₁
  refine ⟨rfl, fun v hv hw => ?_⟩
  rcases Nat.eq_zero_or_pos v with rfl | hvp
  · -- the load reads 0: the join is seen
    replace hw : WgAt L.tWg Wg w₁ 0 0 := by simpa using hw
    refine ⟨_, stepG_load_atomic (v := 0) rfl rfl (by k_ne) rfl H.f_loadU64 (x_loadU64_n L) (x_loadU64_b L) (x_loadU64_x L) .u64 (x_loadU64_f L) rfl hw.cellSt, fun _ => ?_, fun h => absurd rfl h⟩
    clear hw
    walk_nrm
    (refine Way.goes rfl (fun _ h₁ => ?_); replace hF := HK.rely _ _ hF h₁; clear h₁; refine goes_oper_k rfl rfl (by k_ne) (fun K hK => ?_); go_simp; refine hK _ _ ⟨c, HK.none _ _ (by intro e he; have hm := mem_listed he; simp [go_sem, *] at hm), ?_⟩; clear hK K; (try w_num))
    (refine Way.goes rfl (fun _ h₁ => ?_); replace hF := HK.rely _ _ hF h₁; clear h₁; rw [stepG_region_end]; simp only [goes_go]; refine ⟨c, HK.none _ _ (by intro e he; simp at he), ?_⟩)
    (refine Way.goes rfl (fun _ h₁ => ?_); replace hF := HK.rely _ _ hF h₁; clear h₁; rw [stepG_ret']; simp only [goes_go]; refine ⟨c, HK.none _ _ (by intro e he; simp at he), ?_⟩)
    (refine Way.goes rfl (fun _ h₁ => ?_); replace hF := HK.rely _ _ hF h₁; clear h₁; refine goes_leave1 rfl rfl H.f_uLoad rfl ⟨c, HK.none _ _ (by intro e he; simp at he), ?_⟩; walk_nrm)
    (refine Way.goes rfl (fun _ h₁ => ?_); replace hF := HK.rely _ _ hF h₁; clear h₁; refine goes_oper_k rfl rfl (by k_ne) (fun K hK => ?_); go_simp; refine hK _ _ ⟨c, HK.none _ _ (by intro e he; have hm := mem_listed he; simp [go_sem, *] at hm), ?_⟩; clear hK K; (try w_num))
    (refine Way.goes rfl (fun _ h₁ => ?_); replace hF := HK.rely _ _ hF h₁; clear h₁; rw [stepG_region_end]; simp only [goes_go]; refine ⟨c, HK.none _ _ (by intro e he; simp at he), ?_⟩)
    (refine Way.goes rfl (fun _ h₁ => ?_); replace hF := HK.rely _ _ hF h₁; clear h₁; rw [stepG_seq]; simp only [goes_go]; refine ⟨c, HK.none _ _ (by intro e he; simp at he), ?_⟩)
    (refine Way.goes rfl (fun _ h₁ => ?_); replace hF := HK.rely _ _ hF h₁; clear h₁; rw [stepG_region]; simp only [goes_go, List.size_toArray, List.length_cons, List.length_nil, Nat.reduceAdd, Nat.zero_add, List.range, List.range.loop]; refine ⟨c, HK.none _ _ (by intro e he; simp at he), ?_⟩)
    (refine Way.goes rfl (fun _ h₁ => ?_); replace hF := HK.rely _ _ hF h₁; clear h₁; refine goes_oper_k rfl rfl (by k_ne) (fun K hK => ?_); go_simp; refine hK _ _ ⟨c, HK.none _ _ (by intro e he; have hm := mem_listed he; simp [go_sem, *] at hm), ?_⟩; clear hK K; (try w_num))
    (refine Way.goes rfl (fun _ h₁ => ?_); replace hF := HK.rely _ _ hF h₁; clear h₁; refine goes_oper_k rfl rfl (by k_ne) (fun K hK => ?_); go_simp; refine hK _ _ ⟨c, HK.none _ _ (by intro e he; have hm := mem_listed he; simp [go_sem, *] at hm), ?_⟩; clear hK K; (try w_num))
    (refine Way.goes rfl (fun _ h₁ => ?_); replace hF := HK.rely _ _ hF h₁; clear h₁; refine goes_oper_k rfl rfl (by k_ne) (fun K hK => ?_); go_simp; refine hK _ _ ⟨c, HK.none _ _ (by intro e he; have hm := mem_listed he; simp [go_sem, *] at hm), ?_⟩; clear hK K; (try w_num))
    (refine Way.goes rfl (fun _ h₁ => ?_); replace hF := HK.rely _ _ hF h₁; clear h₁; refine goes_oper_k rfl rfl (by k_ne) (fun K hK => ?_); go_simp; refine hK _ _ ⟨c, HK.none _ _ (by intro e he; have hm := mem_listed he; simp [go_sem, *] at hm), ?_⟩; clear hK K; (try w_num))
    (refine Way.goes rfl (fun _ h₁ => ?_); replace hF := HK.rely _ _ hF h₁; clear h₁; rw [stepG_region_end]; simp only [goes_go]; refine ⟨c, HK.none _ _ (by intro e he; simp at he), ?_⟩)
    (refine Way.goes rfl (fun _ h₁ => ?_); replace hF := HK.rely _ _ hF h₁; clear h₁; rw [stepG_seq]; simp only [goes_go]; refine ⟨c, HK.none _ _ (by intro e he; simp at he), ?_⟩)
    (refine Way.goes rfl (fun _ h₁ => ?_); replace hF := HK.rely _ _ hF h₁; clear h₁; rw [stepG_region]; simp only [goes_go, List.size_toArray, List.length_cons, List.length_nil, Nat.reduceAdd, Nat.zero_add, List.range, List.range.loop]; refine ⟨c, HK.none _ _ (by intro e he; simp at he), ?_⟩)
    (refine Way.goes rfl (fun _ h₁ => ?_); replace hF := HK.rely _ _ hF h₁; clear h₁; refine goes_oper_k rfl rfl (by k_ne) (fun K hK => ?_); go_simp; refine hK _ _ ⟨c, HK.none _ _ (by intro e he; have hm := mem_listed he; simp [go_sem, *] at hm), ?_⟩; clear hK K; (try w_num))
    (refine Way.goes rfl (fun _ h₁ => ?_); replace hF := HK.rely _ _ hF h₁; clear h₁; refine goes_oper_k rfl rfl (by k_ne) (fun K hK => ?_); go_simp; refine hK _ _ ⟨c, HK.none _ _ (by intro e he; have hm := mem_listed he; simp [go_sem, *] at hm), ?_⟩; clear hK K; (try w_num))
    (refine Way.goes rfl (fun _ h₁ => ?_); replace hF := HK.rely _ _ hF h₁; clear h₁; refine goes_oper_k rfl rfl (by k_ne) (fun K hK => ?_); go_simp; refine hK _ _ ⟨c, HK.none _ _ (by intro e he; have hm := mem_listed he; simp [go_sem, *] at hm), ?_⟩; clear hK K; (try w_num))
    (refine Way.goes rfl (fun _ h₁ => ?_); replace hF := HK.rely _ _ hF h₁; clear h₁; refine goes_oper_k rfl rfl (by k_ne) (fun K hK => ?_); go_simp; refine hK _ _ ⟨c, HK.none _ _ (by intro e he; have hm := mem_listed he; simp [go_sem, *] at hm), ?_⟩; clear hK K; (try w_num))
    (refine Way.goes rfl (fun _ h₁ => ?_); replace hF := HK.rely _ _ hF h₁; clear h₁; rw [stepG_region_end]; simp only [goes_go]; refine ⟨c, HK.none _ _ (by intro e he; simp at he), ?_⟩)
    (refine Way.goes rfl (fun _ h₁ => ?_); replace hF := HK.rely _ _ hF h₁; clear h₁; rw [stepG_seq]; simp only [goes_go]; refine ⟨c, HK.none _ _ (by intro e he; simp at he), ?_⟩)
    (refine Way.goes rfl (fun _ h₁ => ?_); replace hF := HK.rely _ _ hF h₁; clear h₁; rw [stepG_seq]; simp only [goes_go]; refine ⟨c, HK.none _ _ (by intro e he; simp at he), ?_⟩)
    (refine Way.goes rfl (fun _ h₁ => ?_); replace hF := HK.rely _ _ hF h₁; clear h₁; rw [stepG_region]; simp only [goes_go, List.size_toArray, List.length_cons, List.length_nil, Nat.reduceAdd, Nat.zero_add, List.range, List.range.loop]; refine ⟨c, HK.none _ _ (by intro e he; simp at he), ?_⟩)
    (refine Way.goes rfl (fun _ h₁ => ?_); replace hF := HK.rely _ _ hF h₁; clear h₁; refine goes_oper_k rfl rfl (by k_ne) (fun K hK => ?_); go_simp; refine hK _ _ ⟨c, HK.none _ _ (by intro e he; have hm := mem_listed he; simp [go_sem, *] at hm), ?_⟩; clear hK K; (try w_num))
    (refine Way.goes rfl (fun _ h₁ => ?_); replace hF := HK.rely _ _ hF h₁; clear h₁; refine goes_oper_k rfl rfl (by k_ne) (fun K hK => ?_); go_simp; refine hK _ _ ⟨c, HK.none _ _ (by intro e he; have hm := mem_listed he; simp [go_sem, *] at hm), ?_⟩; clear hK K; (try w_num))
    (refine Way.goes rfl (fun _ h₁ => ?_); replace hF := HK.rely _ _ hF h₁; clear h₁; rw [stepG_region_end]; simp only [goes_go]; refine ⟨c, HK.none _ _ (by intro e he; simp at he), ?_⟩)
    (refine Way.goes rfl (fun _ h₁ => ?_); replace hF := HK.rely _ _ hF h₁; clear h₁; rw [stepG_cond (t := true) rfl]; simp only [goes_go, if_true, if_false, Bool.false_eq_true, ↓reduceIte]; refine ⟨c, HK.none _ _ (by intro e he; simp at he), ?_⟩)
    (refine Way.goes rfl (fun _ h₁ => ?_); replace hF := HK.rely _ _ hF h₁; clear h₁; rw [stepG_seq]; simp only [goes_go]; refine ⟨c, HK.none _ _ (by intro e he; simp at he), ?_⟩)
    (refine Way.goes rfl (fun _ h₁ => ?_); replace hF := HK.rely _ _ hF h₁; clear h₁; rw [stepG_cond (t := true) rfl]; simp only [goes_go, if_true, if_false, Bool.false_eq_true, ↓reduceIte]; refine ⟨c, HK.none _ _ (by intro e he; simp at he), ?_⟩)
    (refine Way.goes rfl (fun _ h₁ => ?_); replace hF := HK.rely _ _ hF h₁; clear h₁; rw [stepG_seq]; simp only [goes_go]; refine ⟨c, HK.none _ _ (by intro e he; simp at he), ?_⟩)
    (refine Way.goes rfl (fun _ h₁ => ?_); replace hF := HK.rely _ _ hF h₁; clear h₁; rw [stepG_region]; simp only [goes_go, List.size_toArray, List.length_cons, List.length_nil, Nat.reduceAdd, Nat.zero_add, List.range, List.range.loop]; refine ⟨c, HK.none _ _ (by intro e he; simp at he), ?_⟩)
    refine Way.here (fun w₁ h₁ => ?_)
    replace hF := HK.rely _ _ hF h₁
    clear h₁
    refine ⟨rfl, _, stepG_mark0 .enable (by simp) rfl rfl (by k_ne) rfl H.f_enable (x_enable_n L) (x_enable_b L) (x_enable_x L) (x_enable_f L), ?_⟩
    walk_nrm
    (refine Way.goes rfl (fun _ h₁ => ?_); replace hF := HK.rely _ _ hF h₁; clear h₁; rw [stepG_region_end]; simp only [goes_go]; refine ⟨c, HK.none _ _ (by intro e he; simp at he), ?_⟩)
    (refine Way.goes rfl (fun _ h₁ => ?_); replace hF := HK.rely _ _ hF h₁; clear h₁; rw [stepG_region]; simp only [goes_go, List.size_toArray, List.length_cons, List.length_nil, Nat.reduceAdd, Nat.zero_add, List.range, List.range.loop]; refine ⟨c, HK.none _ _ (by intro e he; simp at he), ?_⟩)
    (refine Way.goes rfl (fun _ h₁ => ?_); replace hF := HK.rely _ _ hF h₁; clear h₁; refine goes_oper_k rfl rfl (by k_ne) (fun K hK => ?_); go_simp; refine hK _ _ ⟨c, HK.none _ _ (by intro e he; have hm := mem_listed he; simp [go_sem, *] at hm), ?_⟩; clear hK K; (try w_num))
    (refine Way.goes rfl (fun _ h₁ => ?_); replace hF := HK.rely _ _ hF h₁; clear h₁; refine goes_oper_k rfl rfl (by k_ne) (fun Kx hKx => ?_); have hcv := run_convert_to_unsafe (P := P) H.underlying_tWgP H.underlying_tUP H.room_tWg (WgLive.cell0 hF.2).choose_spec; have hce := fun es => events_convert_to_unsafe (P := P) H.underlying_tWgP H.underlying_tUP H.room_tWg (WgLive.cell0 hF.2).choose_spec es; go_simp; refine hKx _ _ ⟨c, HK.none _ _ (by intro ex hex; have hmx := mem_listed hex; simp [go_sem, hce] at hmx), ?_⟩; clear hKx Kx hcv hce)
    refine Way.here (fun w₁ h₁ => ?_)
    replace hF := HK.rely _ _ hF h₁
    clear h₁
    refine ⟨rfl, _, stepG_markAt .acquire (by simp) rfl rfl (by k_ne) rfl H.f_acquire (x_acquire_n L) (x_acquire_b L) (x_acquire_x L) (x_acquire_f L) (by simp [Act.eval, stA]), ?_⟩
    walk_nrm
    (refine Way.goes rfl (fun _ h₁ => ?_); replace hF := HK.rely _ _ hF h₁; clear h₁; rw [stepG_region_end]; simp only [goes_go]; refine ⟨c, HK.none _ _ (by intro e he; simp at he), ?_⟩)
    (refine Way.goes rfl (fun _ h₁ => ?_); replace hF := HK.rely _ _ hF h₁; clear h₁; rw [stepG_seq]; simp only [goes_go]; refine ⟨c, HK.none _ _ (by intro e he; simp at he), ?_⟩)
    (refine Way.goes rfl (fun _ h₁ => ?_); replace hF := HK.rely _ _ hF h₁; clear h₁; rw [stepG_seq]; simp only [goes_go]; refine ⟨c, HK.none _ _ (by intro e he; simp at he), ?_⟩)
    (refine Way.goes rfl (fun _ h₁ => ?_); replace hF := HK.rely _ _ hF h₁; clear h₁; rw [stepG_region]; simp only [goes_go, List.size_toArray, List.length_cons, List.length_nil, Nat.reduceAdd, Nat.zero_add, List.range, List.range.loop]; refine ⟨c, HK.none _ _ (by intro e he; simp at he), ?_⟩)
    (refine Way.goes rfl (fun _ h₁ => ?_); replace hF := HK.rely _ _ hF h₁; clear h₁; refine goes_oper_k rfl rfl (by k_ne) (fun K hK => ?_); go_simp; refine hK _ _ ⟨c, HK.none _ _ (by intro e he; have hm := mem_listed he; simp [go_sem, *] at hm), ?_⟩; clear hK K; (try w_num))
    (refine Way.goes rfl (fun _ h₁ => ?_); replace hF := HK.rely _ _ hF h₁; clear h₁; refine goes_oper_k rfl rfl (by k_ne) (fun K hK => ?_); go_simp; refine hK _ _ ⟨c, HK.none _ _ (by intro e he; have hm := mem_listed he; simp [go_sem, *] at hm), ?_⟩; clear hK K; (try w_num))
    (refine Way.goes rfl (fun _ h₁ => ?_); replace hF := HK.rely _ _ hF h₁; clear h₁; refine goes_oper_k rfl rfl (by k_ne) (fun K hK => ?_); go_simp; refine hK _ _ ⟨c, HK.none _ _ (by intro e he; have hm := mem_listed he; simp [go_sem, *] at hm), ?_⟩; clear hK K; (try w_num))
    (refine Way.goes rfl (fun _ h₁ => ?_); replace hF := HK.rely _ _ hF h₁; clear h₁; refine goes_oper_k rfl rfl (by k_ne) (fun K hK => ?_); go_simp; refine hK _ _ ⟨c, HK.none _ _ (by intro e he; have hm := mem_listed he; simp [go_sem, *] at hm), ?_⟩; clear hK K; (try w_num))
    (refine Way.goes rfl (fun _ h₁ => ?_); replace hF := HK.rely _ _ hF h₁; clear h₁; refine goes_oper_k rfl rfl (by k_ne) (fun K hK => ?_); go_simp; refine hK _ _ ⟨c, HK.none _ _ (by intro e he; have hm := mem_listed he; simp [go_sem, *] at hm), ?_⟩; clear hK K; (try w_num))
    (refine Way.goes rfl (fun _ h₁ => ?_); replace hF := HK.rely _ _ hF h₁; clear h₁; refine goes_oper_k rfl rfl (by k_ne) (fun K hK => ?_); go_simp; refine hK _ _ ⟨c, HK.none _ _ (by intro e he; have hm := mem_listed he; simp [go_sem, *] at hm), ?_⟩; clear hK K; (try w_num))
    (refine Way.goes rfl (fun _ h₁ => ?_); replace hF := HK.rely _ _ hF h₁; clear h₁; refine goes_oper_k rfl rfl (by k_ne) (fun K hK => ?_); go_simp; refine hK _ _ ⟨c, HK.none _ _ (by intro e he; have hm := mem_listed he; simp [go_sem, *] at hm), ?_⟩; clear hK K; (try w_num))
    (refine Way.goes rfl (fun _ h₁ => ?_); replace hF := HK.rely _ _ hF h₁; clear h₁; refine goes_oper_k rfl rfl (by k_ne) (fun K hK => ?_); go_simp; refine hK _ _ ⟨c, HK.none _ _ (by intro e he; have hm := mem_listed he; simp [go_sem, *] at hm), ?_⟩; clear hK K; (try w_num))
    (refine Way.goes rfl (fun _ h₁ => ?_); replace hF := HK.rely _ _ hF h₁; clear h₁; rw [stepG_unwanted rfl rfl]; simp only [goes_go]; refine ⟨c, HK.none _ _ (by intro e he; simp at he), ?_⟩; walk_nrm)
    (refine Way.goes rfl (fun _ h₁ => ?_); replace hF := HK.rely _ _ hF h₁; clear h₁; rw [stepG_unwanted rfl rfl]; simp only [goes_go]; refine ⟨c, HK.none _ _ (by intro e he; simp at he), ?_⟩; walk_nrm)
    (refine Way.goes rfl (fun _ h₁ => ?_); replace hF := HK.rely _ _ hF h₁; clear h₁; refine goes_oper_k rfl rfl (by k_ne) (fun K hK => ?_); go_simp; refine hK _ _ ⟨c, HK.none _ _ (by intro e he; have hm := mem_listed he; simp [go_sem, *] at hm), ?_⟩; clear hK K; (try w_num))
    (refine Way.goes rfl (fun _ h₁ => ?_); replace hF := HK.rely _ _ hF h₁; clear h₁; rw [stepG_region_end]; simp only [goes_go]; refine ⟨c, HK.none _ _ (by intro e he; simp at he), ?_⟩)
    (refine Way.goes rfl (fun _ h₁ => ?_); replace hF := HK.rely _ _ hF h₁; clear h₁; rw [stepG_cond (t := false) rfl]; simp only [goes_go, if_true, if_false, Bool.false_eq_true, ↓reduceIte]; refine ⟨c, HK.none _ _ (by intro e he; simp at he), ?_⟩)
    (refine Way.goes rfl (fun _ h₁ => ?_); replace hF := HK.rely _ _ hF h₁; clear h₁; rw [stepG_skip]; simp only [goes_go]; refine ⟨c, HK.none _ _ (by intro e he; simp at he), ?_⟩)
    (refine Way.goes rfl (fun _ h₁ => ?_); replace hF := HK.rely _ _ hF h₁; clear h₁; rw [stepG_ret']; simp only [goes_go]; refine ⟨c, HK.none _ _ (by intro e he; simp at he), ?_⟩)
    (refine Way.goes rfl (fun _ h₁ => ?_); replace hF := HK.rely _ _ hF h₁; clear h₁; refine goes_leave0 rfl rfl H.f_wait rfl ⟨c, HK.none _ _ (by intro e he; simp at he), ?_⟩; walk_nrm)
    exact hT _ hF.1 hF.2
  · -- the load reads v * 2^32, v > 0
    obtain ⟨S, hS⟩ : ∃ S : Int, (v : Int) * KK = S := ⟨_, rfl⟩
    have a1 : S / 4294967296 = (v : Int) := by rw [← hS]; simp only [KK]; omega
    have b1 : bits .and .u64 S 2147483648 = 0 := by rw [← hS]; have := st_flag v 0 (by omega) (by omega); simpa [KK] using this
    have b2 : bits .and .u64 S 2147483647 = 0 := by rw [← hS]; have := st_waiters v 0 (by omega) (by omega); simpa [KK] using this
    have c1 : IntKind.i32.wrap (v : Int) = (v : Int) := by rw [IntKind.wrap_i32]; omega
    have w1 : IntKind.u64.wrap (S + 1) = S + 1 := by rw [IntKind.wrap_u64, ← hS]; simp only [KK]; omega
    have q3 : decide ((v : Int) < 0) = false := decide_eq_false (by omega)
    have q4 : decide (0 < (v : Int)) = true := decide_eq_true (by omega)
    have q5 : ((v : Int) == 0) = false := by simp; omega
    have q6 : decide ((v : Int) = 0) = false := decide_eq_false (by omega)
    rw [hS] at hw
    refine ⟨_, stepG_load_atomic (v := S) rfl rfl (by k_ne) rfl H.f_loadU64 (x_loadU64_n L) (x_loadU64_b L) (x_loadU64_x L) .u64 (x_loadU64_f L) rfl hw.cellSt, fun h0 => absurd h0 (by omega), fun _ => ?_⟩
    clear hw
    walk_nrm
    (refine Way.goes rfl (fun _ h₁ => ?_); replace hF := HK.rely _ _ hF h₁; clear h₁; refine goes_oper_k rfl rfl (by k_ne) (fun K hK => ?_); go_simp; refine hK _ _ ⟨c, HK.none _ _ (by intro e he; have hm := mem_listed he; simp [go_sem, *] at hm), ?_⟩; clear hK K; (try w_num))
    (refine Way.goes rfl (fun _ h₁ => ?_); replace hF := HK.rely _ _ hF h₁; clear h₁; rw [stepG_region_end]; simp only [goes_go]; refine ⟨c, HK.none _ _ (by intro e he; simp at he), ?_⟩)
    (refine Way.goes rfl (fun _ h₁ => ?_); replace hF := HK.rely _ _ hF h₁; clear h₁; rw [stepG_ret']; simp only [goes_go]; refine ⟨c, HK.none _ _ (by intro e he; simp at he), ?_⟩)
    (refine Way.goes rfl (fun _ h₁ => ?_); replace hF := HK.rely _ _ hF h₁; clear h₁; refine goes_leave1 rfl rfl H.f_uLoad rfl ⟨c, HK.none _ _ (by intro e he; simp at he), ?_⟩; walk_nrm)
    (refine Way.goes rfl (fun _ h₁ => ?_); replace hF := HK.rely _ _ hF h₁; clear h₁; refine goes_oper_k rfl rfl (by k_ne) (fun K hK => ?_); go_simp; refine hK _ _ ⟨c, HK.none _ _ (by intro e he; have hm := mem_listed he; simp [go_sem, *] at hm), ?_⟩; clear hK K; (try w_num))
    (refine Way.goes rfl (fun _ h₁ => ?_); replace hF := HK.rely _ _ hF h₁; clear h₁; rw [stepG_region_end]; simp only [goes_go]; refine ⟨c, HK.none _ _ (by intro e he; simp at he), ?_⟩)
    (refine Way.goes rfl (fun _ h₁ => ?_); replace hF := HK.rely _ _ hF h₁; clear h₁; rw [stepG_seq]; simp only [goes_go]; refine ⟨c, HK.none _ _ (by intro e he; simp at he), ?_⟩)
    (refine Way.goes rfl (fun _ h₁ => ?_); replace hF := HK.rely _ _ hF h₁; clear h₁; rw [stepG_region]; simp only [goes_go, List.size_toArray, List.length_cons, List.length_nil, Nat.reduceAdd, Nat.zero_add, List.range, List.range.loop]; refine ⟨c, HK.none _ _ (by intro e he; simp at he), ?_⟩)
    (refine Way.goes rfl (fun _ h₁ => ?_); replace hF := HK.rely _ _ hF h₁; clear h₁; refine goes_oper_k rfl rfl (by k_ne) (fun K hK => ?_); go_simp; refine hK _ _ ⟨c, HK.none _ _ (by intro e he; have hm := mem_listed he; simp [go_sem, *] at hm), ?_⟩; clear hK K; (try w_num))
    (refine Way.goes rfl (fun _ h₁ => ?_); replace hF := HK.rely _ _ hF h₁; clear h₁; refine goes_oper_k rfl rfl (by k_ne) (fun K hK => ?_); go_simp; refine hK _ _ ⟨c, HK.none _ _ (by intro e he; have hm := mem_listed he; simp [go_sem, *] at hm), ?_⟩; clear hK K; (try w_num))
    (refine Way.goes rfl (fun _ h₁ => ?_); replace hF := HK.rely _ _ hF h₁; clear h₁; refine goes_oper_k rfl rfl (by k_ne) (fun K hK => ?_); go_simp; refine hK _ _ ⟨c, HK.none _ _ (by intro e he; have hm := mem_listed he; simp [go_sem, *] at hm), ?_⟩; clear hK K; (try w_num))
    (refine Way.goes rfl (fun _ h₁ => ?_); replace hF := HK.rely _ _ hF h₁; clear h₁; refine goes_oper_k rfl rfl (by k_ne) (fun K hK => ?_); go_simp; refine hK _ _ ⟨c, HK.none _ _ (by intro e he; have hm := mem_listed he; simp [go_sem, *] at hm), ?_⟩; clear hK K; (try w_num))
    (refine Way.goes rfl (fun _ h₁ => ?_); replace hF := HK.rely _ _ hF h₁; clear h₁; rw [stepG_region_end]; simp only [goes_go]; refine ⟨c, HK.none _ _ (by intro e he; simp at he), ?_⟩)
    (refine Way.goes rfl (fun _ h₁ => ?_); replace hF := HK.rely _ _ hF h₁; clear h₁; rw [stepG_seq]; simp only [goes_go]; refine ⟨c, HK.none _ _ (by intro e he; simp at he), ?_⟩)
    (refine Way.goes rfl (fun _ h₁ => ?_); replace hF := HK.rely _ _ hF h₁; clear h₁; rw [stepG_region]; simp only [goes_go, List.size_toArray, List.length_cons, List.length_nil, Nat.reduceAdd, Nat.zero_add, List.range, List.range.loop]; refine ⟨c, HK.none _ _ (by intro e he; simp at he), ?_⟩)
    (refine Way.goes rfl (fun _ h₁ => ?_); replace hF := HK.rely _ _ hF h₁; clear h₁; refine goes_oper_k rfl rfl (by k_ne) (fun K hK => ?_); go_simp; refine hK _ _ ⟨c, HK.none _ _ (by intro e he; have hm := mem_listed he; simp [go_sem, *] at hm), ?_⟩; clear hK K; (try w_num))
    (refine Way.goes rfl (fun _ h₁ => ?_); replace hF := HK.rely _ _ hF h₁; clear h₁; refine goes_oper_k rfl rfl (by k_ne) (fun K hK => ?_); go_simp; refine hK _ _ ⟨c, HK.none _ _ (by intro e he; have hm := mem_listed he; simp [go_sem, *] at hm), ?_⟩; clear hK K; (try w_num))
    (refine Way.goes rfl (fun _ h₁ => ?_); replace hF := HK.rely _ _ hF h₁; clear h₁; refine goes_oper_k rfl rfl (by k_ne) (fun K hK => ?_); go_simp; refine hK _ _ ⟨c, HK.none _ _ (by intro e he; have hm := mem_listed he; simp [go_sem, *] at hm), ?_⟩; clear hK K; (try w_num))
    (refine Way.goes rfl (fun _ h₁ => ?_); replace hF := HK.rely _ _ hF h₁; clear h₁; refine goes_oper_k rfl rfl (by k_ne) (fun K hK => ?_); go_simp; refine hK _ _ ⟨c, HK.none _ _ (by intro e he; have hm := mem_listed he; simp [go_sem, *] at hm), ?_⟩; clear hK K; (try w_num))
    (refine Way.goes rfl (fun _ h₁ => ?_); replace hF := HK.rely _ _ hF h₁; clear h₁; rw [stepG_region_end]; simp only [goes_go]; refine ⟨c, HK.none _ _ (by intro e he; simp at he), ?_⟩)
    (refine Way.goes rfl (fun _ h₁ => ?_); replace hF := HK.rely _ _ hF h₁; clear h₁; rw [stepG_seq]; simp only [goes_go]; refine ⟨c, HK.none _ _ (by intro e he; simp at he), ?_⟩)
    (refine Way.goes rfl (fun _ h₁ => ?_); replace hF := HK.rely _ _ hF h₁; clear h₁; rw [stepG_seq]; simp only [goes_go]; refine ⟨c, HK.none _ _ (by intro e he; simp at he), ?_⟩)
    (refine Way.goes rfl (fun _ h₁ => ?_); replace hF := HK.rely _ _ hF h₁; clear h₁; rw [stepG_region]; simp only [goes_go, List.size_toArray, List.length_cons, List.length_nil, Nat.reduceAdd, Nat.zero_add, List.range, List.range.loop]; refine ⟨c, HK.none _ _ (by intro e he; simp at he), ?_⟩)
    (refine Way.goes rfl (fun _ h₁ => ?_); replace hF := HK.rely _ _ hF h₁; clear h₁; refine goes_oper_k rfl rfl (by k_ne) (fun K hK => ?_); go_simp; refine hK _ _ ⟨c, HK.none _ _ (by intro e he; have hm := mem_listed he; simp [go_sem, *] at hm), ?_⟩; clear hK K; (try w_num))
    (refine Way.goes rfl (fun _ h₁ => ?_); replace hF := HK.rely _ _ hF h₁; clear h₁; refine goes_oper_k rfl rfl (by k_ne) (fun K hK => ?_); go_simp; refine hK _ _ ⟨c, HK.none _ _ (by intro e he; have hm := mem_listed he; simp [go_sem, *] at hm), ?_⟩; clear hK K; (try w_num))
    (refine Way.goes rfl (fun _ h₁ => ?_); replace hF := HK.rely _ _ hF h₁; clear h₁; rw [stepG_region_end]; simp only [goes_go]; refine ⟨c, HK.none _ _ (by intro e he; simp at he), ?_⟩)
    (refine Way.goes rfl (fun _ h₁ => ?_); replace hF := HK.rely _ _ hF h₁; clear h₁; rw [stepG_cond (t := false) rfl]; simp only [goes_go, if_true, if_false, Bool.false_eq_true, ↓reduceIte]; refine ⟨c, HK.none _ _ (by intro e he; simp at he), ?_⟩)
    (refine Way.goes rfl (fun _ h₁ => ?_); replace hF := HK.rely _ _ hF h₁; clear h₁; rw [stepG_skip]; simp only [goes_go]; refine ⟨c, HK.none _ _ (by intro e he; simp at he), ?_⟩)
    (refine Way.goes rfl (fun _ h₁ => ?_); replace hF := HK.rely _ _ hF h₁; clear h₁; rw [stepG_seq]; simp only [goes_go]; refine ⟨c, HK.none _ _ (by intro e he; simp at he), ?_⟩)
    (refine Way.goes rfl (fun _ h₁ => ?_); replace hF := HK.rely _ _ hF h₁; clear h₁; rw [stepG_region]; simp only [goes_go, List.size_toArray, List.length_cons, List.length_nil, Nat.reduceAdd, Nat.zero_add, List.range, List.range.loop]; refine ⟨c, HK.none _ _ (by intro e he; simp at he), ?_⟩)
    (refine Way.goes rfl (fun _ h₁ => ?_); replace hF := HK.rely _ _ hF h₁; clear h₁; refine goes_oper_k rfl rfl (by k_ne) (fun K hK => ?_); go_simp; refine hK _ _ ⟨c, HK.none _ _ (by intro e he; have hm := mem_listed he; simp [go_sem, *] at hm), ?_⟩; clear hK K; (try w_num))
    (refine Way.goes rfl (fun _ h₁ => ?_); replace hF := HK.rely _ _ hF h₁; clear h₁; refine goes_oper_k rfl rfl (by k_ne) (fun K hK => ?_); go_simp; refine hK _ _ ⟨c, HK.none _ _ (by intro e he; have hm := mem_listed he; simp [go_sem, *] at hm), ?_⟩; clear hK K; (try w_num))
    (refine Way.goes rfl (fun _ h₁ => ?_); replace hF := HK.rely _ _ hF h₁; clear h₁; refine goes_oper_k rfl rfl (by k_ne) (fun K hK => ?_); go_simp; refine hK _ _ ⟨c, HK.none _ _ (by intro e he; have hm := mem_listed he; simp [go_sem, *] at hm), ?_⟩; clear hK K; (try w_num))
    (refine Way.goes rfl (fun _ h₁ => ?_); replace hF := HK.rely _ _ hF h₁; clear h₁; refine goes_oper_k rfl rfl (by k_ne) (fun K hK => ?_); go_simp; refine hK _ _ ⟨c, HK.none _ _ (by intro e he; have hm := mem_listed he; simp [go_sem, *] at hm), ?_⟩; clear hK K; (try w_num))
    (refine Way.goes rfl (fun _ h₁ => ?_); replace hF := HK.rely _ _ hF h₁; clear h₁; refine goes_oper_k rfl rfl (by k_ne) (fun K hK => ?_); go_simp; refine hK _ _ ⟨c, HK.none _ _ (by intro e he; have hm := mem_listed he; simp [go_sem, *] at hm), ?_⟩; clear hK K; (try w_num))
    (refine Way.goes rfl (fun _ h₁ => ?_); replace hF := HK.rely _ _ hF h₁; clear h₁; refine goes_oper_k rfl rfl (by k_ne) (fun K hK => ?_); go_simp; refine hK _ _ ⟨c, HK.none _ _ (by intro e he; have hm := mem_listed he; simp [go_sem, *] at hm), ?_⟩; clear hK K; (try w_num))
    (refine Way.goes rfl (fun _ h₁ => ?_); replace hF := HK.rely _ _ hF h₁; clear h₁; refine goes_call rfl rfl (by k_ne) rfl H.f_uCas (nm_uCas L) rfl ⟨c, HK.none _ _ (by intro e he; simp at he), ?_⟩; walk_nrmf uCasFn)
    (refine Way.goes rfl (fun _ h₁ => ?_); replace hF := HK.rely _ _ hF h₁; clear h₁; rw [stepG_seq]; simp only [goes_go]; refine ⟨c, HK.none _ _ (by intro e he; simp at he), ?_⟩)
    (refine Way.goes rfl (fun _ h₁ => ?_); replace hF := HK.rely _ _ hF h₁; clear h₁; rw [stepG_region]; simp only [goes_go, List.size_toArray, List.length_cons, List.length_nil, Nat.reduceAdd, Nat.zero_add, List.range, List.range.loop]; refine ⟨c, HK.none _ _ (by intro e he; simp at he), ?_⟩)
    (refine Way.goes rfl (fun _ h₁ => ?_); replace hF := HK.rely _ _ hF h₁; clear h₁; refine goes_oper_k rfl rfl (by k_ne) (fun K hK => ?_); go_simp; refine hK _ _ ⟨c, HK.none _ _ (by intro e he; have hm := mem_listed he; simp [go_sem, *] at hm), ?_⟩; clear hK K; (try w_num))
    (refine Way.goes rfl (fun _ h₁ => ?_); replace hF := HK.rely _ _ hF h₁; clear h₁; rw [stepG_region_end]; simp only [goes_go]; refine ⟨c, HK.none _ _ (by intro e he; simp at he), ?_⟩)
    (refine Way.goes rfl (fun _ h₁ => ?_); replace hF := HK.rely _ _ hF h₁; clear h₁; rw [stepG_seq]; simp only [goes_go]; refine ⟨c, HK.none _ _ (by intro e he; simp at he), ?_⟩)
    (refine Way.goes rfl (fun _ h₁ => ?_); replace hF := HK.rely _ _ hF h₁; clear h₁; rw [stepG_region]; simp only [goes_go, List.size_toArray, List.length_cons, List.length_nil, Nat.reduceAdd, Nat.zero_add, List.range, List.range.loop]; refine ⟨c, HK.none _ _ (by intro e he; simp at he), ?_⟩)
    (refine Way.goes rfl (fun _ h₁ => ?_); replace hF := HK.rely _ _ hF h₁; clear h₁; refine goes_oper_k rfl rfl (by k_ne) (fun K hK => ?_); go_simp; refine hK _ _ ⟨c, HK.none _ _ (by intro e he; have hm := mem_listed he; simp [go_sem, *] at hm), ?_⟩; clear hK K; (try w_num))
    (refine Way.goes rfl (fun _ h₁ => ?_); replace hF := HK.rely _ _ hF h₁; clear h₁; refine goes_oper_k rfl rfl (by k_ne) (fun K hK => ?_); go_simp; refine hK _ _ ⟨c, HK.none _ _ (by intro e he; have hm := mem_listed he; simp [go_sem, *] at hm), ?_⟩; clear hK K; (try w_num))
    (refine Way.goes rfl (fun _ h₁ => ?_); replace hF := HK.rely _ _ hF h₁; clear h₁; refine goes_oper_k rfl rfl (by k_ne) (fun K hK => ?_); go_simp; refine hK _ _ ⟨c, HK.none _ _ (by intro e he; have hm := mem_listed he; simp [go_sem, *] at hm), ?_⟩; clear hK K; (try w_num))
    (refine Way.goes rfl (fun _ h₁ => ?_); replace hF := HK.rely _ _ hF h₁; clear h₁; refine goes_oper_k rfl rfl (by k_ne) (fun K hK => ?_); go_simp; refine hK _ _ ⟨c, HK.none _ _ (by intro e he; have hm := mem_listed he; simp [go_sem, *] at hm), ?_⟩; clear hK K; (try w_num))
    (refine Way.goes rfl (fun _ h₁ => ?_); replace hF := HK.rely _ _ hF h₁; clear h₁; refine goes_oper_k rfl rfl (by k_ne) (fun K hK => ?_); go_simp; refine hK _ _ ⟨c, HK.none _ _ (by intro e he; have hm := mem_listed he; simp [go_sem, *] at hm), ?_⟩; clear hK K; (try w_num))
    refine Way.here (fun w₂ h₂ => ?_)
    replace hF := HK.rely _ _ hF h₂
    clear h₂
    refine ⟨rfl, fun v' hv' hw => ⟨fun e => ?_, fun e => ?_⟩⟩
    · -- the CompareAndSwap hits
      subst e
      rw [hS] at hw ⊢
      refine ⟨_, (stepG_cas_hit (v := S) (n := S + 1) rfl rfl (by k_ne) rfl H.f_casU64 (x_casU64_n L) (x_casU64_b L) (x_casU64_x L) .u64 (x_casU64_f L) rfl rfl rfl hw.cellSt (hw.thaw 0)).trans (by rfl), ?_⟩
      replace hF : F (w₂.setCell (stA Wg) (.int .u64 (S + 1))) ∧ WgLive L.tWg Wg (w₂.setCell (stA Wg) (.int .u64 (S + 1))) := ⟨HK.st _ _ hF.1, ⟨_, _, hw.setSt _⟩⟩
      clear hw
      walk_nrm
      (refine Way.goes rfl (fun _ h₁ => ?_); replace hF := HK.rely _ _ hF h₁; clear h₁; refine goes_oper_k rfl rfl (by k_ne) (fun K hK => ?_); go_simp; refine hK _ _ ⟨c, HK.none _ _ (by intro e he; have hm := mem_listed he; simp [go_sem, *] at hm), ?_⟩; clear hK K; (try w_num))
      (refine Way.goes rfl (fun _ h₁ => ?_); replace hF := HK.rely _ _ hF h₁; clear h₁; rw [stepG_region_end]; simp only [goes_go]; refine ⟨c, HK.none _ _ (by intro e he; simp at he), ?_⟩)
      (refine Way.goes rfl (fun _ h₁ => ?_); replace hF := HK.rely _ _ hF h₁; clear h₁; rw [stepG_ret']; simp only [goes_go]; refine ⟨c, HK.none _ _ (by intro e he; simp at he), ?_⟩)
      (refine Way.goes rfl (fun _ h₁ => ?_); replace hF := HK.rely _ _ hF h₁; clear h₁; refine goes_leave1 rfl rfl H.f_uCas rfl ⟨c, HK.none _ _ (by intro e he; simp at he), ?_⟩; walk_nrm)
      (refine Way.goes rfl (fun _ h₁ => ?_); replace hF := HK.rely _ _ hF h₁; clear h₁; rw [stepG_region_end]; simp only [goes_go]; refine ⟨c, HK.none _ _ (by intro e he; simp at he), ?_⟩)
      (refine Way.goes rfl (fun _ h₁ => ?_); replace hF := HK.rely _ _ hF h₁; clear h₁; rw [stepG_cond (t := true) rfl]; simp only [goes_go, if_true, if_false, Bool.false_eq_true, ↓reduceIte]; refine ⟨c, HK.none _ _ (by intro e he; simp at he), ?_⟩)
      (refine Way.goes rfl (fun _ h₁ => ?_); replace hF := HK.rely _ _ hF h₁; clear h₁; rw [stepG_seq]; simp only [goes_go]; refine ⟨c, HK.none _ _ (by intro e he; simp at he), ?_⟩)
      (refine Way.goes rfl (fun _ h₁ => ?_); replace hF := HK.rely _ _ hF h₁; clear h₁; rw [stepG_seq]; simp only [goes_go]; refine ⟨c, HK.none _ _ (by intro e he; simp at he), ?_⟩)
      (refine Way.goes rfl (fun _ h₁ => ?_); replace hF := HK.rely _ _ hF h₁; clear h₁; rw [stepG_region]; simp only [goes_go, List.size_toArray, List.length_cons, List.length_nil, Nat.reduceAdd, Nat.zero_add, List.range, List.range.loop]; refine ⟨c, HK.none _ _ (by intro e he; simp at he), ?_⟩)
      (refine Way.goes rfl (fun _ h₁ => ?_); replace hF := HK.rely _ _ hF h₁; clear h₁; refine goes_oper_k rfl rfl (by k_ne) (fun K hK => ?_); go_simp; refine hK _ _ ⟨c, HK.none _ _ (by intro e he; have hm := mem_listed he; simp [go_sem, *] at hm), ?_⟩; clear hK K; (try w_num))
      (refine Way.goes rfl (fun _ h₁ => ?_); replace hF := HK.rely _ _ hF h₁; clear h₁; refine goes_oper_k rfl rfl (by k_ne) (fun K hK => ?_); go_simp; refine hK _ _ ⟨c, HK.none _ _ (by intro e he; have hm := mem_listed he; simp [go_sem, *] at hm), ?_⟩; clear hK K; (try w_num))
      (refine Way.goes rfl (fun _ h₁ => ?_); replace hF := HK.rely _ _ hF h₁; clear h₁; refine goes_oper_k rfl rfl (by k_ne) (fun K hK => ?_); go_simp; refine hK _ _ ⟨c, HK.none _ _ (by intro e he; have hm := mem_listed he; simp [go_sem, *] at hm), ?_⟩; clear hK K; (try w_num))
      (refine Way.goes rfl (fun _ h₁ => ?_); replace hF := HK.rely _ _ hF h₁; clear h₁; refine goes_oper_k rfl rfl (by k_ne) (fun K hK => ?_); go_simp; refine hK _ _ ⟨c, HK.none _ _ (by intro e he; have hm := mem_listed he; simp [go_sem, *] at hm), ?_⟩; clear hK K; (try w_num))
      (refine Way.goes rfl (fun _ h₁ => ?_); replace hF := HK.rely _ _ hF h₁; clear h₁; rw [stepG_region_end]; simp only [goes_go]; refine ⟨c, HK.none _ _ (by intro e he; simp at he), ?_⟩)
      (refine Way.goes rfl (fun _ h₁ => ?_); replace hF := HK.rely _ _ hF h₁; clear h₁; rw [stepG_cond (t := true) rfl]; simp only [goes_go, if_true, if_false, Bool.false_eq_true, ↓reduceIte]; refine ⟨c, HK.none _ _ (by intro e he; simp at he), ?_⟩)
      (refine Way.goes rfl (fun _ h₁ => ?_); replace hF := HK.rely _ _ hF h₁; clear h₁; rw [stepG_region]; simp only [goes_go, List.size_toArray, List.length_cons, List.length_nil, Nat.reduceAdd, Nat.zero_add, List.range, List.range.loop]; refine ⟨c, HK.none _ _ (by intro e he; simp at he), ?_⟩)
      (refine Way.goes rfl (fun _ h₁ => ?_); replace hF := HK.rely _ _ hF h₁; clear h₁; refine goes_oper_k rfl rfl (by k_ne) (fun K hK => ?_); go_simp; refine hK _ _ ⟨c, HK.none _ _ (by intro e he; have hm := mem_listed he; simp [go_sem, *] at hm), ?_⟩; clear hK K; (try w_num))
      (refine Way.goes rfl (fun _ h₁ => ?_); replace hF := HK.rely _ _ hF h₁; clear h₁; refine goes_oper_k rfl rfl (by k_ne) (fun K hK => ?_); go_simp; refine hK _ _ ⟨c, HK.none _ _ (by intro e he; have hm := mem_listed he; simp [go_sem, *] at hm), ?_⟩; clear hK K; (try w_num))
      (refine Way.goes rfl (fun _ h₁ => ?_); replace hF := HK.rely _ _ hF h₁; clear h₁; refine goes_oper_k rfl rfl (by k_ne) (fun K hK => ?_); go_simp; refine hK _ _ ⟨c, HK.none _ _ (by intro e he; have hm := mem_listed he; simp [go_sem, *] at hm), ?_⟩; clear hK K; (try w_num))
      (refine Way.goes rfl (fun _ h₁ => ?_); replace hF := HK.rely _ _ hF h₁; clear h₁; refine goes_oper_k rfl rfl (by k_ne) (fun Kx hKx => ?_); have hcv := run_convert_to_unsafe (P := P) H.underlying_tPU32 H.underlying_tUP H.room_tU32 (WgLive.cell1 hF.2).choose_spec; have hce := fun es => events_convert_to_unsafe (P := P) H.underlying_tPU32 H.underlying_tUP H.room_tU32 (WgLive.cell1 hF.2).choose_spec es; go_simp; refine hKx _ _ ⟨c, HK.none _ _ (by intro ex hex; have hmx := mem_listed hex; simp [go_sem, hce] at hmx), ?_⟩; clear hKx Kx hcv hce)
      (refine Way.goes rfl (fun _ h₁ => ?_); replace hF := HK.rely _ _ hF h₁; clear h₁; rw [stepG_markAt .write (by simp) rfl rfl (by k_ne) rfl H.f_raceWrite (x_raceWrite_n L) (x_raceWrite_b L) (x_raceWrite_x L) (x_raceWrite_f L) (ad := ⟨Wg, 1, none⟩) (by simp [Act.eval])]; simp only [goes_go]; refine ⟨c, (HK.said _ ⟨Wg, 1, none⟩ rfl).2, ?_⟩; walk_nrm)
      (refine Way.goes rfl (fun _ h₁ => ?_); replace hF := HK.rely _ _ hF h₁; clear h₁; rw [stepG_region_end]; simp only [goes_go]; refine ⟨c, HK.none _ _ (by intro e he; simp at he), ?_⟩)
      (refine Way.goes rfl (fun _ h₁ => ?_); replace hF := HK.rely _ _ hF h₁; clear h₁; rw [stepG_seq]; simp only [goes_go]; refine ⟨c, HK.none _ _ (by intro e he; simp at he), ?_⟩)
      (refine Way.goes rfl (fun _ h₁ => ?_); replace hF := HK.rely _ _ hF h₁; clear h₁; rw [stepG_region]; simp only [goes_go, List.size_toArray, List.length_cons, List.length_nil, Nat.reduceAdd, Nat.zero_add, List.range, List.range.loop]; refine ⟨c, HK.none _ _ (by intro e he; simp at he), ?_⟩)
      (refine Way.goes rfl (fun _ h₁ => ?_); replace hF := HK.rely _ _ hF h₁; clear h₁; refine goes_oper_k rfl rfl (by k_ne) (fun K hK => ?_); go_simp; refine hK _ _ ⟨c, HK.none _ _ (by intro e he; have hm := mem_listed he; simp [go_sem, *] at hm), ?_⟩; clear hK K; (try w_num))
      (refine Way.goes rfl (fun _ h₁ => ?_); replace hF := HK.rely _ _ hF h₁; clear h₁; rw [stepG_region_end]; simp only [goes_go]; refine ⟨c, HK.none _ _ (by intro e he; simp at he), ?_⟩)
      (refine Way.goes rfl (fun _ h₁ => ?_); replace hF := HK.rely _ _ hF h₁; clear h₁; rw [stepG_seq]; simp only [goes_go]; refine ⟨c, HK.none _ _ (by intro e he; simp at he), ?_⟩)
      (refine Way.goes rfl (fun _ h₁ => ?_); replace hF := HK.rely _ _ hF h₁; clear h₁; rw [stepG_seq]; simp only [goes_go]; refine ⟨c, HK.none _ _ (by intro e he; simp at he), ?_⟩)
      (refine Way.goes rfl (fun _ h₁ => ?_); replace hF := HK.rely _ _ hF h₁; clear h₁; rw [stepG_region]; simp only [goes_go, List.size_toArray, List.length_cons, List.length_nil, Nat.reduceAdd, Nat.zero_add, List.range, List.range.loop]; refine ⟨c, HK.none _ _ (by intro e he; simp at he), ?_⟩)
      (refine Way.goes rfl (fun _ h₁ => ?_); replace hF := HK.rely _ _ hF h₁; clear h₁; refine goes_oper_k rfl rfl (by k_ne) (fun K hK => ?_); go_simp; refine hK _ _ ⟨c, HK.none _ _ (by intro e he; have hm := mem_listed he; simp [go_sem, *] at hm), ?_⟩; clear hK K; (try w_num))
      (refine Way.goes rfl (fun _ h₁ => ?_); replace hF := HK.rely _ _ hF h₁; clear h₁; refine goes_oper_k rfl rfl (by k_ne) (fun K hK => ?_); go_simp; refine hK _ _ ⟨c, HK.none _ _ (by intro e he; have hm := mem_listed he; simp [go_sem, *] at hm), ?_⟩; clear hK K; (try w_num))
      (refine Way.goes rfl (fun _ h₁ => ?_); replace hF := HK.rely _ _ hF h₁; clear h₁; refine goes_oper_k rfl rfl (by k_ne) (fun K hK => ?_); go_simp; refine hK _ _ ⟨c, HK.none _ _ (by intro e he; have hm := mem_listed he; simp [go_sem, *] at hm), ?_⟩; clear hK K; (try w_num))
      (refine Way.goes rfl (fun _ h₁ => ?_); replace hF := HK.rely _ _ hF h₁; clear h₁; refine goes_oper_k rfl rfl (by k_ne) (fun K hK => ?_); go_simp; refine hK _ _ ⟨c, HK.none _ _ (by intro e he; have hm := mem_listed he; simp [go_sem, *] at hm), ?_⟩; clear hK K; (try w_num))
      (refine Way.goes rfl (fun _ h₁ => ?_); replace hF := HK.rely _ _ hF h₁; clear h₁; rw [stepG_unwanted rfl rfl]; simp only [goes_go]; refine ⟨c, HK.none _ _ (by intro e he; simp at he), ?_⟩; walk_nrm)
      (refine Way.goes rfl (fun _ h₁ => ?_); replace hF := HK.rely _ _ hF h₁; clear h₁; refine goes_oper_k rfl rfl (by k_ne) (fun K hK => ?_); go_simp; refine hK _ _ ⟨c, HK.none _ _ (by intro e he; have hm := mem_listed he; simp [go_sem, *] at hm), ?_⟩; clear hK K; (try w_num))
      (refine Way.goes rfl (fun _ h₁ => ?_); replace hF := HK.rely _ _ hF h₁; clear h₁; rw [stepG_region_end]; simp only [goes_go]; refine ⟨c, HK.none _ _ (by intro e he; simp at he), ?_⟩)
      (refine Way.goes rfl (fun _ h₁ => ?_); replace hF := HK.rely _ _ hF h₁; clear h₁; rw [stepG_cond (t := false) rfl]; simp only [goes_go, if_true, if_false, Bool.false_eq_true, ↓reduceIte]; refine ⟨c, HK.none _ _ (by intro e he; simp at he), ?_⟩)
      (refine Way.goes rfl (fun _ h₁ => ?_); replace hF := HK.rely _ _ hF h₁; clear h₁; rw [stepG_skip]; simp only [goes_go]; refine ⟨c, HK.none _ _ (by intro e he; simp at he), ?_⟩)
      (refine Way.goes rfl (fun _ h₁ => ?_); replace hF := HK.rely _ _ hF h₁; clear h₁; rw [stepG_seq]; simp only [goes_go]; refine ⟨c, HK.none _ _ (by intro e he; simp at he), ?_⟩)
      (refine Way.goes rfl (fun _ h₁ => ?_); replace hF := HK.rely _ _ hF h₁; clear h₁; rw [stepG_region]; simp only [goes_go, List.size_toArray, List.length_cons, List.length_nil, Nat.reduceAdd, Nat.zero_add, List.range, List.range.loop]; refine ⟨c, HK.none _ _ (by intro e he; simp at he), ?_⟩)
      (refine Way.goes rfl (fun _ h₁ => ?_); replace hF := HK.rely _ _ hF h₁; clear h₁; refine goes_oper_k rfl rfl (by k_ne) (fun K hK => ?_); go_simp; refine hK _ _ ⟨c, HK.none _ _ (by intro e he; have hm := mem_listed he; simp [go_sem, *] at hm), ?_⟩; clear hK K; (try w_num))
      (refine Way.goes rfl (fun _ h₁ => ?_); replace hF := HK.rely _ _ hF h₁; clear h₁; refine goes_oper_k rfl rfl (by k_ne) (fun K hK => ?_); go_simp; refine hK _ _ ⟨c, HK.none _ _ (by intro e he; have hm := mem_listed he; simp [go_sem, *] at hm), ?_⟩; clear hK K; (try w_num))
      (refine Way.goes rfl (fun _ h₁ => ?_); replace hF := HK.rely _ _ hF h₁; clear h₁; refine goes_oper_k rfl rfl (by k_ne) (fun K hK => ?_); go_simp; refine hK _ _ ⟨c, HK.none _ _ (by intro e he; have hm := mem_listed he; simp [go_sem, *] at hm), ?_⟩; clear hK K; (try w_num))
      (refine Way.goes rfl (fun _ h₁ => ?_); replace hF := HK.rely _ _ hF h₁; clear h₁; refine goes_oper_k rfl rfl (by k_ne) (fun K hK => ?_); go_simp; refine hK _ _ ⟨c, HK.none _ _ (by intro e he; have hm := mem_listed he; simp [go_sem, *] at hm), ?_⟩; clear hK K; (try w_num))
      refine Way.here (fun w₃ h₃ => ?_)
      replace hF := HK.rely _ _ hF h₃
      clear h₃
      refine ⟨rfl, rfl, fun ⟨st, hw⟩ => stepG_semacquire_wait rfl rfl rfl H.f_semacquire (x_semacquire_n L) (x_semacquire_b L) (x_semacquire_x L) (x_semacquire_f L) (by simp [Act.eval, smA]) hw.cellSm, fun hf => ?_⟩
      refine ⟨_, (stepG_semacquire (n := 1) rfl rfl (by k_ne) rfl H.f_semacquire (x_semacquire_n L) (x_semacquire_b L) (x_semacquire_x L) (x_semacquire_f L) (by simp [Act.eval, smA]) hf.cellSm (by k_ne) (hf.thaw 1)).trans (by rfl), ?_⟩
      replace hF : F (w₃.setCell (smA Wg) (.int .u32 0)) ∧ WgLive L.tWg Wg (w₃.setCell (smA Wg) (.int .u32 0)) := ⟨HK.sm _ _ hF.1, ⟨_, _, hf.setSm 0⟩⟩
      clear hf
      walk_nrm
      (refine Way.goes rfl (fun _ h₁ => ?_); replace hF := HK.rely _ _ hF h₁; clear h₁; rw [stepG_region_end]; simp only [goes_go]; refine ⟨c, HK.none _ _ (by intro e he; simp at he), ?_⟩)
      (refine Way.goes rfl (fun _ h₁ => ?_); replace hF := HK.rely _ _ hF h₁; clear h₁; rw [stepG_seq]; simp only [goes_go]; refine ⟨c, HK.none _ _ (by intro e he; simp at he), ?_⟩)
      (refine Way.goes rfl (fun _ h₁ => ?_); replace hF := HK.rely _ _ hF h₁; clear h₁; rw [stepG_region]; simp only [goes_go, List.size_toArray, List.length_cons, List.length_nil, Nat.reduceAdd, Nat.zero_add, List.range, List.range.loop]; refine ⟨c, HK.none _ _ (by intro e he; simp at he), ?_⟩)
      (refine Way.goes rfl (fun _ h₁ => ?_); replace hF := HK.rely _ _ hF h₁; clear h₁; refine goes_oper_k rfl rfl (by k_ne) (fun K hK => ?_); go_simp; refine hK _ _ ⟨c, HK.none _ _ (by intro e he; have hm := mem_listed he; simp [go_sem, *] at hm), ?_⟩; clear hK K; (try w_num))
      (refine Way.goes rfl (fun _ h₁ => ?_); replace hF := HK.rely _ _ hF h₁; clear h₁; refine goes_oper_k rfl rfl (by k_ne) (fun K hK => ?_); go_simp; refine hK _ _ ⟨c, HK.none _ _ (by intro e he; have hm := mem_listed he; simp [go_sem, *] at hm), ?_⟩; clear hK K; (try w_num))
      (refine Way.goes rfl (fun _ h₁ => ?_); replace hF := HK.rely _ _ hF h₁; clear h₁; refine goes_oper_k rfl rfl (by k_ne) (fun K hK => ?_); go_simp; refine hK _ _ ⟨c, HK.none _ _ (by intro e he; have hm := mem_listed he; simp [go_sem, *] at hm), ?_⟩; clear hK K; (try w_num))
      (refine Way.goes rfl (fun _ h₁ => ?_); replace hF := HK.rely _ _ hF h₁; clear h₁; refine goes_call rfl rfl (by k_ne) rfl H.f_uLoad (nm_uLoad L) rfl ⟨c, HK.none _ _ (by intro e he; simp at he), ?_⟩; walk_nrmf uLoadFn)
      (refine Way.goes rfl (fun _ h₁ => ?_); replace hF := HK.rely _ _ hF h₁; clear h₁; rw [stepG_seq]; simp only [goes_go]; refine ⟨c, HK.none _ _ (by intro e he; simp at he), ?_⟩)
      (refine Way.goes rfl (fun _ h₁ => ?_); replace hF := HK.rely _ _ hF h₁; clear h₁; rw [stepG_region]; simp only [goes_go, List.size_toArray, List.length_cons, List.length_nil, Nat.reduceAdd, Nat.zero_add, List.range, List.range.loop]; refine ⟨c, HK.none _ _ (by intro e he; simp at he), ?_⟩)
      (refine Way.goes rfl (fun _ h₁ => ?_); replace hF := HK.rely _ _ hF h₁; clear h₁; refine goes_oper_k rfl rfl (by k_ne) (fun K hK => ?_); go_simp; refine hK _ _ ⟨c, HK.none _ _ (by intro e he; have hm := mem_listed he; simp [go_sem, *] at hm), ?_⟩; clear hK K; (try w_num))
      (refine Way.goes rfl (fun _ h₁ => ?_); replace hF := HK.rely _ _ hF h₁; clear h₁; rw [stepG_region_end]; simp only [goes_go]; refine ⟨c, HK.none _ _ (by intro e he; simp at he), ?_⟩)
      (refine Way.goes rfl (fun _ h₁ => ?_); replace hF := HK.rely _ _ hF h₁; clear h₁; rw [stepG_seq]; simp only [goes_go]; refine ⟨c, HK.none _ _ (by intro e he; simp at he), ?_⟩)
      (refine Way.goes rfl (fun _ h₁ => ?_); replace hF := HK.rely _ _ hF h₁; clear h₁; rw [stepG_region]; simp only [goes_go, List.size_toArray, List.length_cons, List.length_nil, Nat.reduceAdd, Nat.zero_add, List.range, List.range.loop]; refine ⟨c, HK.none _ _ (by intro e he; simp at he), ?_⟩)
      (refine Way.goes rfl (fun _ h₁ => ?_); replace hF := HK.rely _ _ hF h₁; clear h₁; refine goes_oper_k rfl rfl (by k_ne) (fun K hK => ?_); go_simp; refine hK _ _ ⟨c, HK.none _ _ (by intro e he; have hm := mem_listed he; simp [go_sem, *] at hm), ?_⟩; clear hK K; (try w_num))
      (refine Way.goes rfl (fun _ h₁ => ?_); replace hF := HK.rely _ _ hF h₁; clear h₁; refine goes_oper_k rfl rfl (by k_ne) (fun K hK => ?_); go_simp; refine hK _ _ ⟨c, HK.none _ _ (by intro e he; have hm := mem_listed he; simp [go_sem, *] at hm), ?_⟩; clear hK K; (try w_num))
      (refine Way.goes rfl (fun _ h₁ => ?_); replace hF := HK.rely _ _ hF h₁; clear h₁; refine goes_oper_k rfl rfl (by k_ne) (fun K hK => ?_); go_simp; refine hK _ _ ⟨c, HK.none _ _ (by intro e he; have hm := mem_listed he; simp [go_sem, *] at hm), ?_⟩; clear hK K; (try w_num))
      refine Way.here (fun w₄ h₄ => ?_)
      replace hF := HK.rely _ _ hF h₄
      clear h₄
      refine ⟨rfl, fun hw => ⟨_, stepG_load_atomic (v := 0) rfl rfl (by k_ne) rfl H.f_loadU64 (x_loadU64_n L) (x_loadU64_b L) (x_loadU64_x L) .u64 (x_loadU64_f L) rfl hw.cellSt, ?_⟩⟩
      clear hw
      walk_nrm
      (refine Way.goes rfl (fun _ h₁ => ?_); replace hF := HK.rely _ _ hF h₁; clear h₁; refine goes_oper_k rfl rfl (by k_ne) (fun K hK => ?_); go_simp; refine hK _ _ ⟨c, HK.none _ _ (by intro e he; have hm := mem_listed he; simp [go_sem, *] at hm), ?_⟩; clear hK K; (try w_num))
      (refine Way.goes rfl (fun _ h₁ => ?_); replace hF := HK.rely _ _ hF h₁; clear h₁; rw [stepG_region_end]; simp only [goes_go]; refine ⟨c, HK.none _ _ (by intro e he; simp at he), ?_⟩)
      (refine Way.goes rfl (fun _ h₁ => ?_); replace hF := HK.rely _ _ hF h₁; clear h₁; rw [stepG_ret']; simp only [goes_go]; refine ⟨c, HK.none _ _ (by intro e he; simp at he), ?_⟩)
      (refine Way.goes rfl (fun _ h₁ => ?_); replace hF := HK.rely _ _ hF h₁; clear h₁; refine goes_leave1 rfl rfl H.f_uLoad rfl ⟨c, HK.none _ _ (by intro e he; simp at he), ?_⟩; walk_nrm)
      (refine Way.goes rfl (fun _ h₁ => ?_); replace hF := HK.rely _ _ hF h₁; clear h₁; refine goes_oper_k rfl rfl (by k_ne) (fun K hK => ?_); go_simp; refine hK _ _ ⟨c, HK.none _ _ (by intro e he; have hm := mem_listed he; simp [go_sem, *] at hm), ?_⟩; clear hK K; (try w_num))
      (refine Way.goes rfl (fun _ h₁ => ?_); replace hF := HK.rely _ _ hF h₁; clear h₁; refine goes_oper_k rfl rfl (by k_ne) (fun K hK => ?_); go_simp; refine hK _ _ ⟨c, HK.none _ _ (by intro e he; have hm := mem_listed he; simp [go_sem, *] at hm), ?_⟩; clear hK K; (try w_num))
      (refine Way.goes rfl (fun _ h₁ => ?_); replace hF := HK.rely _ _ hF h₁; clear h₁; rw [stepG_region_end]; simp only [goes_go]; refine ⟨c, HK.none _ _ (by intro e he; simp at he), ?_⟩)
      (refine Way.goes rfl (fun _ h₁ => ?_); replace hF := HK.rely _ _ hF h₁; clear h₁; rw [stepG_seq]; simp only [goes_go]; refine ⟨c, HK.none _ _ (by intro e he; simp at he), ?_⟩)
      (refine Way.goes rfl (fun _ h₁ => ?_); replace hF := HK.rely _ _ hF h₁; clear h₁; rw [stepG_cond (t := true) rfl]; simp only [goes_go, if_true, if_false, Bool.false_eq_true, ↓reduceIte]; refine ⟨c, HK.none _ _ (by intro e he; simp at he), ?_⟩)
      (refine Way.goes rfl (fun _ h₁ => ?_); replace hF := HK.rely _ _ hF h₁; clear h₁; rw [stepG_seq]; simp only [goes_go]; refine ⟨c, HK.none _ _ (by intro e he; simp at he), ?_⟩)
      (refine Way.goes rfl (fun _ h₁ => ?_); replace hF := HK.rely _ _ hF h₁; clear h₁; rw [stepG_region]; simp only [goes_go, List.size_toArray, List.length_cons, List.length_nil, Nat.reduceAdd, Nat.zero_add, List.range, List.range.loop]; refine ⟨c, HK.none _ _ (by intro e he; simp at he), ?_⟩)
      refine Way.here (fun w₁ h₁ => ?_)
      replace hF := HK.rely _ _ hF h₁
      clear h₁
      refine ⟨rfl, _, stepG_mark0 .enable (by simp) rfl rfl (by k_ne) rfl H.f_enable (x_enable_n L) (x_enable_b L) (x_enable_x L) (x_enable_f L), ?_⟩
      walk_nrm
      (refine Way.goes rfl (fun _ h₁ => ?_); replace hF := HK.rely _ _ hF h₁; clear h₁; rw [stepG_region_end]; simp only [goes_go]; refine ⟨c, HK.none _ _ (by intro e he; simp at he), ?_⟩)
      (refine Way.goes rfl (fun _ h₁ => ?_); replace hF := HK.rely _ _ hF h₁; clear h₁; rw [stepG_region]; simp only [goes_go, List.size_toArray, List.length_cons, List.length_nil, Nat.reduceAdd, Nat.zero_add, List.range, List.range.loop]; refine ⟨c, HK.none _ _ (by intro e he; simp at he), ?_⟩)
      (refine Way.goes rfl (fun _ h₁ => ?_); replace hF := HK.rely _ _ hF h₁; clear h₁; refine goes_oper_k rfl rfl (by k_ne) (fun K hK => ?_); go_simp; refine hK _ _ ⟨c, HK.none _ _ (by intro e he; have hm := mem_listed he; simp [go_sem, *] at hm), ?_⟩; clear hK K; (try w_num))
      (refine Way.goes rfl (fun _ h₁ => ?_); replace hF := HK.rely _ _ hF h₁; clear h₁; refine goes_oper_k rfl rfl (by k_ne) (fun Kx hKx => ?_); have hcv := run_convert_to_unsafe (P := P) H.underlying_tWgP H.underlying_tUP H.room_tWg (WgLive.cell0 hF.2).choose_spec; have hce := fun es => events_convert_to_unsafe (P := P) H.underlying_tWgP H.underlying_tUP H.room_tWg (WgLive.cell0 hF.2).choose_spec es; go_simp; refine hKx _ _ ⟨c, HK.none _ _ (by intro ex hex; have hmx := mem_listed hex; simp [go_sem, hce] at hmx), ?_⟩; clear hKx Kx hcv hce)
      refine Way.here (fun w₁ h₁ => ?_)
      replace hF := HK.rely _ _ hF h₁
      clear h₁
      refine ⟨rfl, _, stepG_markAt .acquire (by simp) rfl rfl (by k_ne) rfl H.f_acquire (x_acquire_n L) (x_acquire_b L) (x_acquire_x L) (x_acquire_f L) (by simp [Act.eval, stA]), ?_⟩
      walk_nrm
      (refine Way.goes rfl (fun _ h₁ => ?_); replace hF := HK.rely _ _ hF h₁; clear h₁; rw [stepG_region_end]; simp only [goes_go]; refine ⟨c, HK.none _ _ (by intro e he; simp at he), ?_⟩)
      (refine Way.goes rfl (fun _ h₁ => ?_); replace hF := HK.rely _ _ hF h₁; clear h₁; rw [stepG_seq]; simp only [goes_go]; refine ⟨c, HK.none _ _ (by intro e he; simp at he), ?_⟩)
      (refine Way.goes rfl (fun _ h₁ => ?_); replace hF := HK.rely _ _ hF h₁; clear h₁; rw [stepG_seq]; simp only [goes_go]; refine ⟨c, HK.none _ _ (by intro e he; simp at he), ?_⟩)
      (refine Way.goes rfl (fun _ h₁ => ?_); replace hF := HK.rely _ _ hF h₁; clear h₁; rw [stepG_region]; simp only [goes_go, List.size_toArray, List.length_cons, List.length_nil, Nat.reduceAdd, Nat.zero_add, List.range, List.range.loop]; refine ⟨c, HK.none _ _ (by intro e he; simp at he), ?_⟩)
      (refine Way.goes rfl (fun _ h₁ => ?_); replace hF := HK.rely _ _ hF h₁; clear h₁; refine goes_oper_k rfl rfl (by k_ne) (fun K hK => ?_); go_simp; refine hK _ _ ⟨c, HK.none _ _ (by intro e he; have hm := mem_listed he; simp [go_sem, *] at hm), ?_⟩; clear hK K; (try w_num))
      (refine Way.goes rfl (fun _ h₁ => ?_); replace hF := HK.rely _ _ hF h₁; clear h₁; rw [stepG_region_end]; simp only [goes_go]; refine ⟨c, HK.none _ _ (by intro e he; simp at he), ?_⟩)
      (refine Way.goes rfl (fun _ h₁ => ?_); replace hF := HK.rely _ _ hF h₁; clear h₁; rw [stepG_cond (t := false) rfl]; simp only [goes_go, if_true, if_false, Bool.false_eq_true, ↓reduceIte]; refine ⟨c, HK.none _ _ (by intro e he; simp at he), ?_⟩)
      (refine Way.goes rfl (fun _ h₁ => ?_); replace hF := HK.rely _ _ hF h₁; clear h₁; rw [stepG_skip]; simp only [goes_go]; refine ⟨c, HK.none _ _ (by intro e he; simp at he), ?_⟩)
      (refine Way.goes rfl (fun _ h₁ => ?_); replace hF := HK.rely _ _ hF h₁; clear h₁; rw [stepG_ret']; simp only [goes_go]; refine ⟨c, HK.none _ _ (by intro e he; simp at he), ?_⟩)
      (refine Way.goes rfl (fun _ h₁ => ?_); replace hF := HK.rely _ _ hF h₁; clear h₁; refine goes_leave0 rfl rfl H.f_wait rfl ⟨c, HK.none _ _ (by intro e he; simp at he), ?_⟩; walk_nrm)
      exact hT _ hF.1 hF.2
    · -- it misses: back to the loop's head
      refine ⟨_, stepG_cas_miss (v := (v' : Int) * KK) (old := S) (n := S + 1) rfl rfl (by k_ne) rfl H.f_casU64 (x_casU64_n L) (x_casU64_b L) (x_casU64_x L) .u64 (x_casU64_f L) rfl rfl rfl hw.cellSt (hw.thaw 0) (by rw [← hS]; simp only [KK]; omega), ?_⟩
      clear hw
      walk_nrm
      (refine Way.goes rfl (fun _ h₁ => ?_); replace hF := HK.rely _ _ hF h₁; clear h₁; refine goes_oper_k rfl rfl (by k_ne) (fun K hK => ?_); go_simp; refine hK _ _ ⟨c, HK.none _ _ (by intro e he; have hm := mem_listed he; simp [go_sem, *] at hm), ?_⟩; clear hK K; (try w_num))
      (refine Way.goes rfl (fun _ h₁ => ?_); replace hF := HK.rely _ _ hF h₁; clear h₁; rw [stepG_region_end]; simp only [goes_go]; refine ⟨c, HK.none _ _ (by intro e he; simp at he), ?_⟩)
      (refine Way.goes rfl (fun _ h₁ => ?_); replace hF := HK.rely _ _ hF h₁; clear h₁; rw [stepG_ret']; simp only [goes_go]; refine ⟨c, HK.none _ _ (by intro e he; simp at he), ?_⟩)
      (refine Way.goes rfl (fun _ h₁ => ?_); replace hF := HK.rely _ _ hF h₁; clear h₁; refine goes_leave1 rfl rfl H.f_uCas rfl ⟨c, HK.none _ _ (by intro e he; simp at he), ?_⟩; walk_nrm)
      (refine Way.goes rfl (fun _ h₁ => ?_); replace hF := HK.rely _ _ hF h₁; clear h₁; rw [stepG_region_end]; simp only [goes_go]; refine ⟨c, HK.none _ _ (by intro e he; simp at he), ?_⟩)
      (refine Way.goes rfl (fun _ h₁ => ?_); replace hF := HK.rely _ _ hF h₁; clear h₁; rw [stepG_cond (t := false) rfl]; simp only [goes_go, if_true, if_false, Bool.false_eq_true, ↓reduceIte]; refine ⟨c, HK.none _ _ (by intro e he; simp at he), ?_⟩)
      (refine Way.goes rfl (fun _ h₁ => ?_); replace hF := HK.rely _ _ hF h₁; clear h₁; rw [stepG_skip]; simp only [goes_go]; refine ⟨c, HK.none _ _ (by intro e he; simp at he), ?_⟩)
      (refine Way.goes rfl (fun _ h₁ => ?_); replace hF := HK.rely _ _ hF h₁; clear h₁; rw [stepG_inBlock]; simp only [goes_go]; refine ⟨c, HK.none _ _ (by intro e he; simp at he), ?_⟩)
      (refine Way.goes rfl (fun _ h₁ => ?_); replace hF := HK.rely _ _ hF h₁; clear h₁; rw [stepG_inLoop]; simp only [goes_go]; refine ⟨c, HK.none _ _ (by intro e he; simp at he), ?_⟩)
      exact Way.here (fun w₁ h₁ => ⟨rfl, _, rfl, by simp, by simp, HK.rely _ _ hF h₁⟩)

set_option maxRecDepth 100000 in
set_option maxHeartbeats 8000000 in
/-- FROM Wait's ENTRY TO THE LOOP's HEAD. -/
theorem waitStart (H : WgLib P L) (HK : Kept R D L.tWg Wg F c) (w : World) (hF : F w ∧ WgLive L.tWg Wg w) :
    Wy R D P (AtKdW R D P (AnchM L F Wg c (b₀.at a₀ (.inRegion ops₀ (i₀ :: rest₀) :: k₀)) cs)) c
      (G ((base L.wait).at ⟨#[.pointer (some ⟨Wg, 0, none⟩), undef, undef, undef, undef, undef, undef, undef, undef, undef, undef, undef, undef, undef, undef, undef, undef, undef, undef, undef, undef, undef, undef, undef, undef, undef, undef, undef, undef, undef, undef, undef, undef, undef, undef, undef, undef, undef, undef, undef, undef, undef, undef, undef, undef, undef, undef, undef, undef, undef, undef, undef, undef, undef, undef, undef, undef, undef, undef, undef, undef, undef, undef, undef, undef, undef, undef, undef, undef, undef, undef, undef, undef, undef, undef, undef, undef, undef, undef, undef, undef, undef, undef, undef], []⟩ [.code (body_wait L)]) (b₀.at a₀ (.inRegion ops₀ (i₀ :: rest₀) :: k₀) :: cs)) w := by
  lib_facts
  simp only [body_wait, waitFn, Option.getD_some]
  (refine Way.goes rfl (fun _ h₁ => ?_); replace hF := HK.rely _ _ hF h₁; clear h₁; rw [stepG_seq]; simp only [goes_go]; refine ⟨c, HK.none _ _ (by intro e he; simp at he), ?_⟩)
  (refine Way.goes rfl (fun _ h₁ => ?_); replace hF := HK.rely _ _ hF h₁; clear h₁; rw [stepG_cond (t := true) rfl]; simp only [goes_go, if_true, if_false, Bool.false_eq_true, ↓reduceIte]; refine ⟨c, HK.none _ _ (by intro e he; simp at he), ?_⟩)
  (refine Way.goes rfl (fun _ h₁ => ?_); replace hF := HK.rely _ _ hF h₁; clear h₁; rw [stepG_region]; simp only [goes_go, List.size_toArray, List.length_cons, List.length_nil, Nat.reduceAdd, Nat.zero_add, List.range, List.range.loop]; refine ⟨c, HK.none _ _ (by intro e he; simp at he), ?_⟩)
  refine Way.here (fun w₁ h₁ => ?_)
  replace hF := HK.rely _ _ hF h₁
  clear h₁
  refine ⟨rfl, _, stepG_mark0 .disable (by simp) rfl rfl (by k_ne) rfl H.f_disable (x_disable_n L) (x_disable_b L) (x_disable_x L) (x_disable_f L), ?_⟩
  walk_nrm
  (refine Way.goes rfl (fun _ h₁ => ?_); replace hF := HK.rely _ _ hF h₁; clear h₁; rw [stepG_region_end]; simp only [goes_go]; refine ⟨c, HK.none _ _ (by intro e he; simp at he), ?_⟩)
  (refine Way.goes rfl (fun _ h₁ => ?_); replace hF := HK.rely _ _ hF h₁; clear h₁; rw [stepG_block]; simp only [goes_go]; refine ⟨c, HK.none _ _ (by intro e he; simp at he), ?_⟩)
  (refine Way.goes rfl (fun _ h₁ => ?_); replace hF := HK.rely _ _ hF h₁; clear h₁; rw [stepG_loop]; simp only [goes_go]; refine ⟨c, HK.none _ _ (by intro e he; simp at he), ?_⟩)
  exact Way.here (fun w₁ h₁ => ⟨rfl, _, rfl, by simp, by simp, HK.rely _ _ hF h₁⟩)
end
end Go.Proofs.Ytmhbjmkdekgmlaa.Sim
