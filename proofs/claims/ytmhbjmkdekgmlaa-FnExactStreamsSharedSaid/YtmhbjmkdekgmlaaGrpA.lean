/-
  sync.WaitGroup's Add(+1), made by goroutine 0 in company: the walk between the steps that look at the group's cells, under a rely that keeps the group's block alive.
  Conditions: the program holds the library's functions ('WgLib'); what the caller holds stands under the rely ('Kept').
-/
import Derived.Test.YtmhbjmkdekgmlaaGrpD
set_option linter.unusedSimpArgs false
set_option linter.unusedVariables false
namespace Go.Proofs.Ytmhbjmkdekgmlaa.Sim
open Go Go.Conc Go.ConcN Go.RowKit Go.Conc.Lib Go.ConcR.Gen Go.ConcN.Gen
open Go.ConcR (KK wgBlock WgAt stA smA rd wr mk)
variable {L : WgLink}
section
variable {γ : Type} {R : γ → World → World → Prop} {D : γ → World → World → Array Event → γ → Prop} {P : Program} {Wg : Nat} {F : World → Prop} {c : γ} {Next : γ → Goroutine → World → Prop}
  {b₀ : Frame} {a₀ : Act} {ops₀ : Array Oper} {i₀ : Nat} {rest₀ : List Nat} {k₀ : List Item} {cs : List Frame}

set_option maxRecDepth 100000 in
set_option maxHeartbeats 8000000 in
theorem addOne (H : WgLib P L) (HK : Kept R D L.tWg Wg F c)
    (hT : ∀ w, F w → WgLive L.tWg Wg w → Wy R D P Next c (G (b₀.at (a₀.put ((ops₀[i₀]?).bind (·.dst)) (.tuple #[])) (.inRegion ops₀ rest₀ :: k₀)) cs) w)
    (w : World) (hF : F w ∧ WgLive L.tWg Wg w) :
    Wy R D P (AtKdA R D P L.tWg Wg Next) c
      (G ((base L.add).at ⟨#[.pointer (some ⟨Wg, 0, none⟩), .int .i64 1, undef, undef, undef, undef, undef, undef, undef, undef, undef, undef, undef, undef, undef, undef, undef, undef, undef, undef, undef, undef, undef, undef, undef, undef, undef, undef, undef, undef, undef, undef, undef, undef, undef, undef, undef, undef, undef, undef, undef, undef, undef, undef, undef, undef, undef, undef, undef, undef, undef, undef, undef, undef, undef, undef, undef, undef, undef, undef, undef, undef, undef, undef, undef, undef, undef, undef, undef, undef, undef, undef, undef, undef, undef, undef, undef, undef, undef, undef, undef, undef, undef, undef, undef, undef, undef, undef, undef, undef, undef, undef, undef, undef, undef, undef, undef, undef, undef, undef, undef, undef, undef, undef, undef, undef, undef, undef, undef, undef, undef, undef, undef, undef, undef, undef, undef], []⟩ [.code (body_add L)]) (b₀.at a₀ (.inRegion ops₀ (i₀ :: rest₀) :: k₀) :: cs)) w := by
  lib_facts
  simp only [body_add, addFn, Option.getD_some]
  (refine Way.goes rfl (fun _ h₁ => ?_); replace hF := HK.rely _ _ hF h₁; clear h₁; rw [stepG_seq]; simp only [goes_go]; refine ⟨c, HK.none _ _ (by intro e he; simp at he), ?_⟩)
  (refine Way.goes rfl (fun _ h₁ => ?_); replace hF := HK.rely _ _ hF h₁; clear h₁; rw [stepG_cond (t := true) rfl]; simp only [goes_go, if_true, if_false, Bool.false_eq_true, ↓reduceIte]; refine ⟨c, HK.none _ _ (by intro e he; simp at he), ?_⟩)
  (refine Way.goes rfl (fun _ h₁ => ?_); replace hF := HK.rely _ _ hF h₁; clear h₁; rw [stepG_seq]; simp only [goes_go]; refine ⟨c, HK.none _ _ (by intro e he; simp at he), ?_⟩)
  (refine Way.goes rfl (fun _ h₁ => ?_); replace hF := HK.rely _ _ hF h₁; clear h₁; rw [stepG_seq]; simp only [goes_go]; refine ⟨c, HK.none _ _ (by intro e he; simp at he), ?_⟩)
  (refine Way.goes rfl (fun _ h₁ => ?_); replace hF := HK.rely _ _ hF h₁; clear h₁; rw [stepG_region]; simp only [goes_go, List.size_toArray, List.length_cons, List.length_nil, Nat.reduceAdd, Nat.zero_add, List.range, List.range.loop]; refine ⟨c, HK.none _ _ (by intro e he; simp at he), ?_⟩)
  (refine Way.goes rfl (fun _ h₁ => ?_); replace hF := HK.rely _ _ hF h₁; clear h₁; refine goes_oper_k rfl rfl (by k_ne) (fun K hK => ?_); go_simp; refine hK _ _ ⟨c, HK.none _ _ (by intro e he; have hm := mem_listed he; simp [go_sem, *] at hm), ?_⟩; clear hK K; (try w_num))
  (refine Way.goes rfl (fun _ h₁ => ?_); replace hF := HK.rely _ _ hF h₁; clear h₁; refine goes_oper_k rfl rfl (by k_ne) (fun K hK => ?_); go_simp; refine hK _ _ ⟨c, HK.none _ _ (by intro e he; have hm := mem_listed he; simp [go_sem, *] at hm), ?_⟩; clear hK K; (try w_num))
  (refine Way.goes rfl (fun _ h₁ => ?_); replace hF := HK.rely _ _ hF h₁; clear h₁; rw [stepG_region_end]; simp only [goes_go]; refine ⟨c, HK.none _ _ (by intro e he; simp at he), ?_⟩)
  (refine Way.goes rfl (fun _ h₁ => ?_); replace hF := HK.rely _ _ hF h₁; clear h₁; rw [stepG_cond (t := false) rfl]; simp only [goes_go, if_true, if_false, Bool.false_eq_true, ↓reduceIte]; refine ⟨c, HK.none _ _ (by intro e he; simp at he), ?_⟩)
  (refine Way.goes rfl (fun _ h₁ => ?_); replace hF := HK.rely _ _ hF h₁; clear h₁; rw [stepG_skip]; simp only [goes_go]; refine ⟨c, HK.none _ _ (by intro e he; simp at he), ?_⟩)
  (refine Way.goes rfl (fun _ h₁ => ?_); replace hF := HK.rely _ _ hF h₁; clear h₁; rw [stepG_seq]; simp only [goes_go]; refine ⟨c, HK.none _ _ (by intro e he; simp at he), ?_⟩)
  (refine Way.goes rfl (fun _ h₁ => ?_); replace hF := HK.rely _ _ hF h₁; clear h₁; rw [stepG_region]; simp only [goes_go, List.size_toArray, List.length_cons, List.length_nil, Nat.reduceAdd, Nat.zero_add, List.range, List.range.loop]; refine ⟨c, HK.none _ _ (by intro e he; simp at he), ?_⟩)
  refine Way.here (fun w₁ h₁ => ?_)
  replace hF := HK.rely _ _ hF h₁
  clear h₁
  refine ⟨rfl, _, stepG_mark0 .disable (by simp) rfl rfl (by k_ne) rfl H.f_disable (x_disable_n L) (x_disable_b L) (x_disable_x L) (x_disable_f L), ?_⟩
  walk_nrm
  (refine Way.goes rfl (fun _ h₁ => ?_); replace hF := HK.rely _ _ hF h₁; clear h₁; rw [stepG_region_end]; simp only [goes_go]; refine ⟨c, HK.none _ _ (by intro e he; simp at he), ?_⟩)
  (refine Way.goes rfl (fun _ h₁ => ?_); replace hF := HK.rely _ _ hF h₁; clear h₁; rw [stepG_region]; simp only [goes_go, List.size_toArray, List.length_cons, List.length_nil, Nat.reduceAdd, Nat.zero_add, List.range, List.range.loop]; refine ⟨c, HK.none _ _ (by intro e he; simp at he), ?_⟩)
  (refine Way.goes rfl (fun _ h₁ => ?_); replace hF := HK.rely _ _ hF h₁; clear h₁; rw [stepG_defer rfl rfl (by k_ne) rfl]; simp only [goes_go]; refine ⟨c, HK.none _ _ (by intro e he; simp at he), ?_⟩; walk_nrm)
  (refine Way.goes rfl (fun _ h₁ => ?_); replace hF := HK.rely _ _ hF h₁; clear h₁; rw [stepG_region_end]; simp only [goes_go]; refine ⟨c, HK.none _ _ (by intro e he; simp at he), ?_⟩)
  (refine Way.goes rfl (fun _ h₁ => ?_); replace hF := HK.rely _ _ hF h₁; clear h₁; rw [stepG_seq]; simp only [goes_go]; refine ⟨c, HK.none _ _ (by intro e he; simp at he), ?_⟩)
  (refine Way.goes rfl (fun _ h₁ => ?_); replace hF := HK.rely _ _ hF h₁; clear h₁; rw [stepG_region]; simp only [goes_go, List.size_toArray, List.length_cons, List.length_nil, Nat.reduceAdd, Nat.zero_add, List.range, List.range.loop]; refine ⟨c, HK.none _ _ (by intro e he; simp at he), ?_⟩)
  (refine Way.goes rfl (fun _ h₁ => ?_); replace hF := HK.rely _ _ hF h₁; clear h₁; refine goes_oper_k rfl rfl (by k_ne) (fun K hK => ?_); go_simp; refine hK _ _ ⟨c, HK.none _ _ (by intro e he; have hm := mem_listed he; simp [go_sem, *] at hm), ?_⟩; clear hK K; (try w_num))
  (refine Way.goes rfl (fun _ h₁ => ?_); replace hF := HK.rely _ _ hF h₁; clear h₁; rw [stepG_region_end]; simp only [goes_go]; refine ⟨c, HK.none _ _ (by intro e he; simp at he), ?_⟩)
  (refine Way.goes rfl (fun _ h₁ => ?_); replace hF := HK.rely _ _ hF h₁; clear h₁; rw [stepG_seq]; simp only [goes_go]; refine ⟨c, HK.none _ _ (by intro e he; simp at he), ?_⟩)
  (refine Way.goes rfl (fun _ h₁ => ?_); replace hF := HK.rely _ _ hF h₁; clear h₁; rw [stepG_seq]; simp only [goes_go]; refine ⟨c, HK.none _ _ (by intro e he; simp at he), ?_⟩)
  (refine Way.goes rfl (fun _ h₁ => ?_); replace hF := HK.rely _ _ hF h₁; clear h₁; rw [stepG_region]; simp only [goes_go, List.size_toArray, List.length_cons, List.length_nil, Nat.reduceAdd, Nat.zero_add, List.range, List.range.loop]; refine ⟨c, HK.none _ _ (by intro e he; simp at he), ?_⟩)
  (refine Way.goes rfl (fun _ h₁ => ?_); replace hF := HK.rely _ _ hF h₁; clear h₁; rw [stepG_entry_pure (.bool false) rfl rfl (by k_ne) rfl H.f_inBubble (x_inBubble_n L) (x_inBubble_b L) (x_inBubble_x L) (x_inBubble_f L)]; simp only [goes_go]; refine ⟨c, HK.none _ _ (by intro e he; simp at he), ?_⟩; walk_nrm)
  (refine Way.goes rfl (fun _ h₁ => ?_); replace hF := HK.rely _ _ hF h₁; clear h₁; rw [stepG_region_end]; simp only [goes_go]; refine ⟨c, HK.none _ _ (by intro e he; simp at he), ?_⟩)
  (refine Way.goes rfl (fun _ h₁ => ?_); replace hF := HK.rely _ _ hF h₁; clear h₁; rw [stepG_cond (t := false) rfl]; simp only [goes_go, if_true, if_false, Bool.false_eq_true, ↓reduceIte]; refine ⟨c, HK.none _ _ (by intro e he; simp at he), ?_⟩)
  (refine Way.goes rfl (fun _ h₁ => ?_); replace hF := HK.rely _ _ hF h₁; clear h₁; rw [stepG_skip]; simp only [goes_go]; refine ⟨c, HK.none _ _ (by intro e he; simp at he), ?_⟩)
  (refine Way.goes rfl (fun _ h₁ => ?_); replace hF := HK.rely _ _ hF h₁; clear h₁; rw [stepG_seq]; simp only [goes_go]; refine ⟨c, HK.none _ _ (by intro e he; simp at he), ?_⟩)
  (refine Way.goes rfl (fun _ h₁ => ?_); replace hF := HK.rely _ _ hF h₁; clear h₁; rw [stepG_region]; simp only [goes_go, List.size_toArray, List.length_cons, List.length_nil, Nat.reduceAdd, Nat.zero_add, List.range, List.range.loop]; refine ⟨c, HK.none _ _ (by intro e he; simp at he), ?_⟩)
  (refine Way.goes rfl (fun _ h₁ => ?_); replace hF := HK.rely _ _ hF h₁; clear h₁; refine goes_oper_k rfl rfl (by k_ne) (fun K hK => ?_); go_simp; refine hK _ _ ⟨c, HK.none _ _ (by intro e he; have hm := mem_listed he; simp [go_sem, *] at hm), ?_⟩; clear hK K; (try w_num))
  (refine Way.goes rfl (fun _ h₁ => ?_); replace hF := HK.rely _ _ hF h₁; clear h₁; refine goes_oper_k rfl rfl (by k_ne) (fun K hK => ?_); go_simp; refine hK _ _ ⟨c, HK.none _ _ (by intro e he; have hm := mem_listed he; simp [go_sem, *] at hm), ?_⟩; clear hK K; (try w_num))
  (refine Way.goes rfl (fun _ h₁ => ?_); replace hF := HK.rely _ _ hF h₁; clear h₁; refine goes_oper_k rfl rfl (by k_ne) (fun K hK => ?_); go_simp; refine hK _ _ ⟨c, HK.none _ _ (by intro e he; have hm := mem_listed he; simp [go_sem, *] at hm), ?_⟩; clear hK K; (try w_num))
  (refine Way.goes rfl (fun _ h₁ => ?_); replace hF := HK.rely _ _ hF h₁; clear h₁; refine goes_oper_k rfl rfl (by k_ne) (fun K hK => ?_); go_simp; refine hK _ _ ⟨c, HK.none _ _ (by intro e he; have hm := mem_listed he; simp [go_sem, *] at hm), ?_⟩; clear hK K; (try w_num))
  (refine Way.goes rfl (fun _ h₁ => ?_); replace hF := HK.rely _ _ hF h₁; clear h₁; refine goes_oper_k rfl rfl (by k_ne) (fun K hK => ?_); go_simp; refine hK _ _ ⟨c, HK.none _ _ (by intro e he; have hm := mem_listed he; simp [go_sem, *] at hm), ?_⟩; clear hK K; (try w_num))
  (refine Way.goes rfl (fun _ h₁ => ?_); replace hF := HK.rely _ _ hF h₁; clear h₁; refine goes_oper_k rfl rfl (by k_ne) (fun K hK => ?_); go_simp; refine hK _ _ ⟨c, HK.none _ _ (by intro e he; have hm := mem_listed he; simp [go_sem, *] at hm), ?_⟩; clear hK K; (try w_num))
  (refine Way.goes rfl (fun _ h₁ => ?_); replace hF := HK.rely _ _ hF h₁; clear h₁; refine goes_call rfl rfl (by k_ne) rfl H.f_uAdd (nm_uAdd L) rfl ⟨c, HK.none _ _ (by intro e he; simp at he), ?_⟩; walk_nrmf uAddFn)
  (refine Way.goes rfl (fun _ h₁ => ?_); replace hF := HK.rely _ _ hF h₁; clear h₁; rw [stepG_seq]; simp only [goes_go]; refine ⟨c, HK.none _ _ (by intro e he; simp at he), ?_⟩)
  (refine Way.goes rfl (fun _ h₁ => ?_); replace hF := HK.rely _ _ hF h₁; clear h₁; rw [stepG_region]; simp only [goes_go, List.size_toArray, List.length_cons, List.length_nil, Nat.reduceAdd, Nat.zero_add, List.range, List.range.loop]; refine ⟨c, HK.none _ _ (by intro e he; simp at he), ?_⟩)
  (refine Way.goes rfl (fun _ h₁ => ?_); replace hF := HK.rely _ _ hF h₁; clear h₁; refine goes_oper_k rfl rfl (by k_ne) (fun K hK => ?_); go_simp; refine hK _ _ ⟨c, HK.none _ _ (by intro e he; have hm := mem_listed he; simp [go_sem, *] at hm), ?_⟩; clear hK K; (try w_num))
  (refine Way.goes rfl (fun _ h₁ => ?_); replace hF := HK.rely _ _ hF h₁; clear h₁; rw [stepG_region_end]; simp only [goes_go]; refine ⟨c, HK.none _ _ (by intro e he; simp at he), ?_⟩)
  (refine Way.goes rfl (fun _ h₁ => ?_); replace hF := HK.rely _ _ hF h₁; clear h₁; rw [stepG_seq]; simp only [goes_go]; refine ⟨c, HK.none _ _ (by intro e he; simp at he), ?_⟩)
  (refine Way.goes rfl (fun _ h₁ => ?_); replace hF := HK.rely _ _ hF h₁; clear h₁; rw [stepG_region]; simp only [goes_go, List.size_toArray, List.length_cons, List.length_nil, Nat.reduceAdd, Nat.zero_add, List.range, List.range.loop]; refine ⟨c, HK.none _ _ (by intro e he; simp at he), ?_⟩)
  (refine Way.goes rfl (fun _ h₁ => ?_); replace hF := HK.rely _ _ hF h₁; clear h₁; refine goes_oper_k rfl rfl (by k_ne) (fun K hK => ?_); go_simp; refine hK _ _ ⟨c, HK.none _ _ (by intro e he; have hm := mem_listed he; simp [go_sem, *] at hm), ?_⟩; clear hK K; (try w_num))
  (refine Way.goes rfl (fun _ h₁ => ?_); replace hF := HK.rely _ _ hF h₁; clear h₁; refine goes_oper_k rfl rfl (by k_ne) (fun K hK => ?_); go_simp; refine hK _ _ ⟨c, HK.none _ _ (by intro e he; have hm := mem_listed he; simp [go_sem, *] at hm), ?_⟩; clear hK K; (try w_num))
  (refine Way.goes rfl (fun _ h₁ => ?_); replace hF := HK.rely _ _ hF h₁; clear h₁; refine goes_oper_k rfl rfl (by k_ne) (fun K hK => ?_); go_simp; refine hK _ _ ⟨c, HK.none _ _ (by intro e he; have hm := mem_listed he; simp [go_sem, *] at hm), ?_⟩; clear hK K; (try w_num))
  (refine Way.goes rfl (fun _ h₁ => ?_); replace hF := HK.rely _ _ hF h₁; clear h₁; refine goes_oper_k rfl rfl (by k_ne) (fun K hK => ?_); go_simp; refine hK _ _ ⟨c, HK.none _ _ (by intro e he; have hm := mem_listed he; simp [go_sem, *] at hm), ?_⟩; clear hK K; (try w_num))
  refine Way.here (fun w₁ h₁ => ?_)
  replace hF := HK.rely _ _ hF h₁
  clear h₁
  refine ⟨rfl, fun v hv hw => ?_⟩
  obtain ⟨V, hV⟩ : ∃ V : Int, V = (v : Int) + 1 := ⟨_, rfl⟩
  obtain ⟨S, hS⟩ : ∃ S : Int, S = V * KK := ⟨_, rfl⟩
  have eS : IntKind.u64.wrap ((v : Int) * KK + 4294967296) = S := by rw [IntKind.wrap_u64, hS, hV]; simp only [KK]; omega
  rw [← hV, ← hS]
  have a1 : S / 4294967296 = V := by rw [hS]; simp only [KK]; omega
  have b1 : bits .and .u64 S 2147483648 = 0 := by rw [hS, hV]; have := st_flag (v + 1) 0 (by omega) (by omega); simpa [KK] using this
  have b2 : bits .and .u64 S 2147483647 = 0 := by rw [hS, hV]; have := st_waiters (v + 1) 0 (by omega) (by omega); simpa [KK] using this
  have c1 : IntKind.i32.wrap V = V := by rw [IntKind.wrap_i32]; omega
  have hV1 : 1 ≤ V := by omega
  have hV2 : V < 2147483648 := by omega
  have q3 : decide (V < 0) = false := decide_eq_false (by omega)
  have q4 : decide (0 < V) = true := decide_eq_true (by omega)
  have q5 : (V == 0) = false := by simp; omega
  have q6 : decide (V = 0) = false := decide_eq_false (by omega)
  refine ⟨_, (stepG_add_atomic rfl rfl (by k_ne) rfl H.f_addU64 (x_addU64_n L) (x_addU64_b L) (x_addU64_x L) .u64 (x_addU64_f L) rfl rfl hw.cellSt (hw.thaw 0)).trans (by rw [eS]; rfl), ?_⟩
  replace hF : F (w₁.setCell (stA Wg) (.int .u64 S)) ∧ WgLive L.tWg Wg (w₁.setCell (stA Wg) (.int .u64 S)) := ⟨HK.st _ _ hF.1, ⟨_, _, hw.setSt _⟩⟩
  clear hw eS
  rcases Decidable.em (V = 1) with e1 | e1
  · -- the count is now 1
    subst e1
    have e2 : S = 4294967296 := by rw [hS]; simp [KK]
    subst e2
    clear hS hV
    walk_nrm
    (refine Way.goes rfl (fun _ h₁ => ?_); replace hF := HK.rely _ _ hF h₁; clear h₁; refine goes_oper_k rfl rfl (by k_ne) (fun K hK => ?_); go_simp; refine hK _ _ ⟨c, HK.none _ _ (by intro e he; have hm := mem_listed he; simp [go_sem, *] at hm), ?_⟩; clear hK K; (try w_num))
    (refine Way.goes rfl (fun _ h₁ => ?_); replace hF := HK.rely _ _ hF h₁; clear h₁; rw [stepG_region_end]; simp only [goes_go]; refine ⟨c, HK.none _ _ (by intro e he; simp at he), ?_⟩)
    (refine Way.goes rfl (fun _ h₁ => ?_); replace hF := HK.rely _ _ hF h₁; clear h₁; rw [stepG_ret']; simp only [goes_go]; refine ⟨c, HK.none _ _ (by intro e he; simp at he), ?_⟩)
    (refine Way.goes rfl (fun _ h₁ => ?_); replace hF := HK.rely _ _ hF h₁; clear h₁; refine goes_leave1 rfl rfl H.f_uAdd rfl ⟨c, HK.none _ _ (by intro e he; simp at he), ?_⟩; walk_nrm)
    (refine Way.goes rfl (fun _ h₁ => ?_); replace hF := HK.rely _ _ hF h₁; clear h₁; refine goes_oper_k rfl rfl (by k_ne) (fun K hK => ?_); go_simp; refine hK _ _ ⟨c, HK.none _ _ (by intro e he; have hm := mem_listed he; simp [go_sem, *] at hm), ?_⟩; clear hK K; (try w_num))
    (refine Way.goes rfl (fun _ h₁ => ?_); replace hF := HK.rely _ _ hF h₁; clear h₁; rw [stepG_region_end]; simp only [goes_go]; refine ⟨c, HK.none _ _ (by intro e he; simp at he), ?_⟩)
    (refine Way.goes rfl (fun _ h₁ => ?_); replace hF := HK.rely _ _ hF h₁; clear h₁; rw [stepG_seq]; simp only [goes_go]; refine ⟨c, HK.none _ _ (by intro e he; simp at he), ?_⟩)
    (refine Way.goes rfl (fun _ h₁ => ?_); replace hF := HK.rely _ _ hF h₁; clear h₁; rw [stepG_seq]; simp only [goes_go]; refine ⟨c, HK.none _ _ (by intro e he; simp at he), ?_⟩)
    (refine Way.goes rfl (fun _ h₁ => ?_); replace hF := HK.rely _ _ hF h₁; clear h₁; rw [stepG_region]; simp only [goes_go, List.size_toArray, List.length_cons, List.length_nil, Nat.reduceAdd, Nat.zero_add, List.range, List.range.loop]; refine ⟨c, HK.none _ _ (by intro e he; simp at he), ?_⟩)
    (refine Way.goes rfl (fun _ h₁ => ?_); replace hF := HK.rely _ _ hF h₁; clear h₁; refine goes_oper_k rfl rfl (by k_ne) (fun K hK => ?_); go_simp; refine hK _ _ ⟨c, HK.none _ _ (by intro e he; have hm := mem_listed he; simp [go_sem, *] at hm), ?_⟩; clear hK K; (try w_num))
    (refine Way.goes rfl (fun _ h₁ => ?_); replace hF := HK.rely _ _ hF h₁; clear h₁; refine goes_oper_k rfl rfl (by k_ne) (fun K hK => ?_); go_simp; refine hK _ _ ⟨c, HK.none _ _ (by intro e he; have hm := mem_listed he; simp [go_sem, *] at hm), ?_⟩; clear hK K; (try w_num))
    (refine Way.goes rfl (fun _ h₁ => ?_); replace hF := HK.rely _ _ hF h₁; clear h₁; refine goes_oper_k rfl rfl (by k_ne) (fun K hK => ?_); go_simp; refine hK _ _ ⟨c, HK.none _ _ (by intro e he; have hm := mem_listed he; simp [go_sem, *] at hm), ?_⟩; clear hK K; (try w_num))
    (refine Way.goes rfl (fun _ h₁ => ?_); replace hF := HK.rely _ _ hF h₁; clear h₁; refine goes_oper_k rfl rfl (by k_ne) (fun K hK => ?_); go_simp; refine hK _ _ ⟨c, HK.none _ _ (by intro e he; have hm := mem_listed he; simp [go_sem, *] at hm), ?_⟩; clear hK K; (try w_num))
    (refine Way.goes rfl (fun _ h₁ => ?_); replace hF := HK.rely _ _ hF h₁; clear h₁; rw [stepG_unwanted rfl rfl]; simp only [goes_go]; refine ⟨c, HK.none _ _ (by intro e he; simp at he), ?_⟩; walk_nrm)
    (refine Way.goes rfl (fun _ h₁ => ?_); replace hF := HK.rely _ _ hF h₁; clear h₁; rw [stepG_unwanted rfl rfl]; simp only [goes_go]; refine ⟨c, HK.none _ _ (by intro e he; simp at he), ?_⟩; walk_nrm)
    (refine Way.goes rfl (fun _ h₁ => ?_); replace hF := HK.rely _ _ hF h₁; clear h₁; refine goes_oper_k rfl rfl (by k_ne) (fun K hK => ?_); go_simp; refine hK _ _ ⟨c, HK.none _ _ (by intro e he; have hm := mem_listed he; simp [go_sem, *] at hm), ?_⟩; clear hK K; (try w_num))
    (refine Way.goes rfl (fun _ h₁ => ?_); replace hF := HK.rely _ _ hF h₁; clear h₁; rw [stepG_region_end]; simp only [goes_go]; refine ⟨c, HK.none _ _ (by intro e he; simp at he), ?_⟩)
    (refine Way.goes rfl (fun _ h₁ => ?_); replace hF := HK.rely _ _ hF h₁; clear h₁; rw [stepG_cond (t := false) rfl]; simp only [goes_go, if_true, if_false, Bool.false_eq_true, ↓reduceIte]; refine ⟨c, HK.none _ _ (by intro e he; simp at he), ?_⟩)
    (refine Way.goes rfl (fun _ h₁ => ?_); replace hF := HK.rely _ _ hF h₁; clear h₁; rw [stepG_skip]; simp only [goes_go]; refine ⟨c, HK.none _ _ (by intro e he; simp at he), ?_⟩)
    (refine Way.goes rfl (fun _ h₁ => ?_); replace hF := HK.rely _ _ hF h₁; clear h₁; rw [stepG_seq]; simp only [goes_go]; refine ⟨c, HK.none _ _ (by intro e he; simp at he), ?_⟩)
    (refine Way.goes rfl (fun _ h₁ => ?_); replace hF := HK.rely _ _ hF h₁; clear h₁; rw [stepG_region]; simp only [goes_go, List.size_toArray, List.length_cons, List.length_nil, Nat.reduceAdd, Nat.zero_add, List.range, List.range.loop]; refine ⟨c, HK.none _ _ (by intro e he; simp at he), ?_⟩)
    (refine Way.goes rfl (fun _ h₁ => ?_); replace hF := HK.rely _ _ hF h₁; clear h₁; refine goes_oper_k rfl rfl (by k_ne) (fun K hK => ?_); go_simp; refine hK _ _ ⟨c, HK.none _ _ (by intro e he; have hm := mem_listed he; simp [go_sem, *] at hm), ?_⟩; clear hK K; (try w_num))
    (refine Way.goes rfl (fun _ h₁ => ?_); replace hF := HK.rely _ _ hF h₁; clear h₁; refine goes_oper_k rfl rfl (by k_ne) (fun K hK => ?_); go_simp; refine hK _ _ ⟨c, HK.none _ _ (by intro e he; have hm := mem_listed he; simp [go_sem, *] at hm), ?_⟩; clear hK K; (try w_num))
    (refine Way.goes rfl (fun _ h₁ => ?_); replace hF := HK.rely _ _ hF h₁; clear h₁; refine goes_oper_k rfl rfl (by k_ne) (fun K hK => ?_); go_simp; refine hK _ _ ⟨c, HK.none _ _ (by intro e he; have hm := mem_listed he; simp [go_sem, *] at hm), ?_⟩; clear hK K; (try w_num))
    (refine Way.goes rfl (fun _ h₁ => ?_); replace hF := HK.rely _ _ hF h₁; clear h₁; refine goes_oper_k rfl rfl (by k_ne) (fun K hK => ?_); go_simp; refine hK _ _ ⟨c, HK.none _ _ (by intro e he; have hm := mem_listed he; simp [go_sem, *] at hm), ?_⟩; clear hK K; (try w_num))
    (refine Way.goes rfl (fun _ h₁ => ?_); replace hF := HK.rely _ _ hF h₁; clear h₁; rw [stepG_region_end]; simp only [goes_go]; refine ⟨c, HK.none _ _ (by intro e he; simp at he), ?_⟩)
    (refine Way.goes rfl (fun _ h₁ => ?_); replace hF := HK.rely _ _ hF h₁; clear h₁; rw [stepG_seq]; simp only [goes_go]; refine ⟨c, HK.none _ _ (by intro e he; simp at he), ?_⟩)
    (refine Way.goes rfl (fun _ h₁ => ?_); replace hF := HK.rely _ _ hF h₁; clear h₁; rw [stepG_region]; simp only [goes_go, List.size_toArray, List.length_cons, List.length_nil, Nat.reduceAdd, Nat.zero_add, List.range, List.range.loop]; refine ⟨c, HK.none _ _ (by intro e he; simp at he), ?_⟩)
    (refine Way.goes rfl (fun _ h₁ => ?_); replace hF := HK.rely _ _ hF h₁; clear h₁; refine goes_oper_k rfl rfl (by k_ne) (fun K hK => ?_); go_simp; refine hK _ _ ⟨c, HK.none _ _ (by intro e he; have hm := mem_listed he; simp [go_sem, *] at hm), ?_⟩; clear hK K; (try w_num))
    (refine Way.goes rfl (fun _ h₁ => ?_); replace hF := HK.rely _ _ hF h₁; clear h₁; refine goes_oper_k rfl rfl (by k_ne) (fun K hK => ?_); go_simp; refine hK _ _ ⟨c, HK.none _ _ (by intro e he; have hm := mem_listed he; simp [go_sem, *] at hm), ?_⟩; clear hK K; (try w_num))
    (refine Way.goes rfl (fun _ h₁ => ?_); replace hF := HK.rely _ _ hF h₁; clear h₁; refine goes_oper_k rfl rfl (by k_ne) (fun K hK => ?_); go_simp; refine hK _ _ ⟨c, HK.none _ _ (by intro e he; have hm := mem_listed he; simp [go_sem, *] at hm), ?_⟩; clear hK K; (try w_num))
    (refine Way.goes rfl (fun _ h₁ => ?_); replace hF := HK.rely _ _ hF h₁; clear h₁; refine goes_oper_k rfl rfl (by k_ne) (fun K hK => ?_); go_simp; refine hK _ _ ⟨c, HK.none _ _ (by intro e he; have hm := mem_listed he; simp [go_sem, *] at hm), ?_⟩; clear hK K; (try w_num))
    (refine Way.goes rfl (fun _ h₁ => ?_); replace hF := HK.rely _ _ hF h₁; clear h₁; rw [stepG_region_end]; simp only [goes_go]; refine ⟨c, HK.none _ _ (by intro e he; simp at he), ?_⟩)
    (refine Way.goes rfl (fun _ h₁ => ?_); replace hF := HK.rely _ _ hF h₁; clear h₁; rw [stepG_seq]; simp only [goes_go]; refine ⟨c, HK.none _ _ (by intro e he; simp at he), ?_⟩)
    (refine Way.goes rfl (fun _ h₁ => ?_); replace hF := HK.rely _ _ hF h₁; clear h₁; rw [stepG_seq]; simp only [goes_go]; refine ⟨c, HK.none _ _ (by intro e he; simp at he), ?_⟩)
    (refine Way.goes rfl (fun _ h₁ => ?_); replace hF := HK.rely _ _ hF h₁; clear h₁; rw [stepG_region]; simp only [goes_go, List.size_toArray, List.length_cons, List.length_nil, Nat.reduceAdd, Nat.zero_add, List.range, List.range.loop]; refine ⟨c, HK.none _ _ (by intro e he; simp at he), ?_⟩)
    (refine Way.goes rfl (fun _ h₁ => ?_); replace hF := HK.rely _ _ hF h₁; clear h₁; refine goes_oper_k rfl rfl (by k_ne) (fun K hK => ?_); go_simp; refine hK _ _ ⟨c, HK.none _ _ (by intro e he; have hm := mem_listed he; simp [go_sem, *] at hm), ?_⟩; clear hK K; (try w_num))
    (refine Way.goes rfl (fun _ h₁ => ?_); replace hF := HK.rely _ _ hF h₁; clear h₁; refine goes_oper_k rfl rfl (by k_ne) (fun K hK => ?_); go_simp; refine hK _ _ ⟨c, HK.none _ _ (by intro e he; have hm := mem_listed he; simp [go_sem, *] at hm), ?_⟩; clear hK K; (try w_num))
    (refine Way.goes rfl (fun _ h₁ => ?_); replace hF := HK.rely _ _ hF h₁; clear h₁; refine goes_oper_k rfl rfl (by k_ne) (fun K hK => ?_); go_simp; refine hK _ _ ⟨c, HK.none _ _ (by intro e he; have hm := mem_listed he; simp [go_sem, *] at hm), ?_⟩; clear hK K; (try w_num))
    (refine Way.goes rfl (fun _ h₁ => ?_); replace hF := HK.rely _ _ hF h₁; clear h₁; refine goes_oper_k rfl rfl (by k_ne) (fun K hK => ?_); go_simp; refine hK _ _ ⟨c, HK.none _ _ (by intro e he; have hm := mem_listed he; simp [go_sem, *] at hm), ?_⟩; clear hK K; (try w_num))
    (refine Way.goes rfl (fun _ h₁ => ?_); replace hF := HK.rely _ _ hF h₁; clear h₁; refine goes_oper_k rfl rfl (by k_ne) (fun K hK => ?_); go_simp; refine hK _ _ ⟨c, HK.none _ _ (by intro e he; have hm := mem_listed he; simp [go_sem, *] at hm), ?_⟩; clear hK K; (try w_num))
    (refine Way.goes rfl (fun _ h₁ => ?_); replace hF := HK.rely _ _ hF h₁; clear h₁; refine goes_oper_k rfl rfl (by k_ne) (fun K hK => ?_); go_simp; refine hK _ _ ⟨c, HK.none _ _ (by intro e he; have hm := mem_listed he; simp [go_sem, *] at hm), ?_⟩; clear hK K; (try w_num))
    (refine Way.goes rfl (fun _ h₁ => ?_); replace hF := HK.rely _ _ hF h₁; clear h₁; refine goes_oper_k rfl rfl (by k_ne) (fun K hK => ?_); go_simp; refine hK _ _ ⟨c, HK.none _ _ (by intro e he; have hm := mem_listed he; simp [go_sem, *] at hm), ?_⟩; clear hK K; (try w_num))
    (refine Way.goes rfl (fun _ h₁ => ?_); replace hF := HK.rely _ _ hF h₁; clear h₁; refine goes_oper_k rfl rfl (by k_ne) (fun K hK => ?_); go_simp; refine hK _ _ ⟨c, HK.none _ _ (by intro e he; have hm := mem_listed he; simp [go_sem, *] at hm), ?_⟩; clear hK K; (try w_num))
    (refine Way.goes rfl (fun _ h₁ => ?_); replace hF := HK.rely _ _ hF h₁; clear h₁; refine goes_oper_k rfl rfl (by k_ne) (fun K hK => ?_); go_simp; refine hK _ _ ⟨c, HK.none _ _ (by intro e he; have hm := mem_listed he; simp [go_sem, *] at hm), ?_⟩; clear hK K; (try w_num))
    (refine Way.goes rfl (fun _ h₁ => ?_); replace hF := HK.rely _ _ hF h₁; clear h₁; refine goes_oper_k rfl rfl (by k_ne) (fun K hK => ?_); go_simp; refine hK _ _ ⟨c, HK.none _ _ (by intro e he; have hm := mem_listed he; simp [go_sem, *] at hm), ?_⟩; clear hK K; (try w_num))
    (refine Way.goes rfl (fun _ h₁ => ?_); replace hF := HK.rely _ _ hF h₁; clear h₁; rw [stepG_region_end]; simp only [goes_go]; refine ⟨c, HK.none _ _ (by intro e he; simp at he), ?_⟩)
    (refine Way.goes rfl (fun _ h₁ => ?_); replace hF := HK.rely _ _ hF h₁; clear h₁; rw [stepG_cond (t := true) rfl]; simp only [goes_go, if_true, if_false, Bool.false_eq_true, ↓reduceIte]; refine ⟨c, HK.none _ _ (by intro e he; simp at he), ?_⟩)
    (refine Way.goes rfl (fun _ h₁ => ?_); replace hF := HK.rely _ _ hF h₁; clear h₁; rw [stepG_region]; simp only [goes_go, List.size_toArray, List.length_cons, List.length_nil, Nat.reduceAdd, Nat.zero_add, List.range, List.range.loop]; refine ⟨c, HK.none _ _ (by intro e he; simp at he), ?_⟩)
    (refine Way.goes rfl (fun _ h₁ => ?_); replace hF := HK.rely _ _ hF h₁; clear h₁; refine goes_oper_k rfl rfl (by k_ne) (fun K hK => ?_); go_simp; refine hK _ _ ⟨c, HK.none _ _ (by intro e he; have hm := mem_listed he; simp [go_sem, *] at hm), ?_⟩; clear hK K; (try w_num))
    (refine Way.goes rfl (fun _ h₁ => ?_); replace hF := HK.rely _ _ hF h₁; clear h₁; refine goes_oper_k rfl rfl (by k_ne) (fun K hK => ?_); go_simp; refine hK _ _ ⟨c, HK.none _ _ (by intro e he; have hm := mem_listed he; simp [go_sem, *] at hm), ?_⟩; clear hK K; (try w_num))
    (refine Way.goes rfl (fun _ h₁ => ?_); replace hF := HK.rely _ _ hF h₁; clear h₁; refine goes_oper_k rfl rfl (by k_ne) (fun K hK => ?_); go_simp; refine hK _ _ ⟨c, HK.none _ _ (by intro e he; have hm := mem_listed he; simp [go_sem, *] at hm), ?_⟩; clear hK K; (try w_num))
    (refine Way.goes rfl (fun _ h₁ => ?_); replace hF := HK.rely _ _ hF h₁; clear h₁; refine goes_oper_k rfl rfl (by k_ne) (fun Kx hKx => ?_); have hcv := run_convert_to_unsafe (P := P) H.underlying_tPU32 H.underlying_tUP H.room_tU32 (WgLive.cell1 hF.2).choose_spec; have hce := fun es => events_convert_to_unsafe (P := P) H.underlying_tPU32 H.underlying_tUP H.room_tU32 (WgLive.cell1 hF.2).choose_spec es; go_simp; refine hKx _ _ ⟨c, HK.none _ _ (by intro ex hex; have hmx := mem_listed hex; simp [go_sem, hce] at hmx), ?_⟩; clear hKx Kx hcv hce)
    (refine Way.goes rfl (fun _ h₁ => ?_); replace hF := HK.rely _ _ hF h₁; clear h₁; rw [stepG_markAt .read (by simp) rfl rfl (by k_ne) rfl H.f_raceRead (x_raceRead_n L) (x_raceRead_b L) (x_raceRead_x L) (x_raceRead_f L) (ad := ⟨Wg, 1, none⟩) (by simp [Act.eval])]; simp only [goes_go]; refine ⟨c, (HK.said _ ⟨Wg, 1, none⟩ rfl).1, ?_⟩; walk_nrm)
    (refine Way.goes rfl (fun _ h₁ => ?_); replace hF := HK.rely _ _ hF h₁; clear h₁; rw [stepG_region_end]; simp only [goes_go]; refine ⟨c, HK.none _ _ (by intro e he; simp at he), ?_⟩)
    (refine Way.goes rfl (fun _ h₁ => ?_); replace hF := HK.rely _ _ hF h₁; clear h₁; rw [stepG_seq]; simp only [goes_go]; refine ⟨c, HK.none _ _ (by intro e he; simp at he), ?_⟩)
    (refine Way.goes rfl (fun _ h₁ => ?_); replace hF := HK.rely _ _ hF h₁; clear h₁; rw [stepG_seq]; simp only [goes_go]; refine ⟨c, HK.none _ _ (by intro e he; simp at he), ?_⟩)
    (refine Way.goes rfl (fun _ h₁ => ?_); replace hF := HK.rely _ _ hF h₁; clear h₁; rw [stepG_region]; simp only [goes_go, List.size_toArray, List.length_cons, List.length_nil, Nat.reduceAdd, Nat.zero_add, List.range, List.range.loop]; refine ⟨c, HK.none _ _ (by intro e he; simp at he), ?_⟩)
    (refine Way.goes rfl (fun _ h₁ => ?_); replace hF := HK.rely _ _ hF h₁; clear h₁; refine goes_oper_k rfl rfl (by k_ne) (fun K hK => ?_); go_simp; refine hK _ _ ⟨c, HK.none _ _ (by intro e he; have hm := mem_listed he; simp [go_sem, *] at hm), ?_⟩; clear hK K; (try w_num))
    (refine Way.goes rfl (fun _ h₁ => ?_); replace hF := HK.rely _ _ hF h₁; clear h₁; refine goes_oper_k rfl rfl (by k_ne) (fun K hK => ?_); go_simp; refine hK _ _ ⟨c, HK.none _ _ (by intro e he; have hm := mem_listed he; simp [go_sem, *] at hm), ?_⟩; clear hK K; (try w_num))
    (refine Way.goes rfl (fun _ h₁ => ?_); replace hF := HK.rely _ _ hF h₁; clear h₁; rw [stepG_region_end]; simp only [goes_go]; refine ⟨c, HK.none _ _ (by intro e he; simp at he), ?_⟩)
    (refine Way.goes rfl (fun _ h₁ => ?_); replace hF := HK.rely _ _ hF h₁; clear h₁; rw [stepG_cond (t := false) rfl]; simp only [goes_go, if_true, if_false, Bool.false_eq_true, ↓reduceIte]; refine ⟨c, HK.none _ _ (by intro e he; simp at he), ?_⟩)
    (refine Way.goes rfl (fun _ h₁ => ?_); replace hF := HK.rely _ _ hF h₁; clear h₁; rw [stepG_skip]; simp only [goes_go]; refine ⟨c, HK.none _ _ (by intro e he; simp at he), ?_⟩)
    (refine Way.goes rfl (fun _ h₁ => ?_); replace hF := HK.rely _ _ hF h₁; clear h₁; rw [stepG_seq]; simp only [goes_go]; refine ⟨c, HK.none _ _ (by intro e he; simp at he), ?_⟩)
    (refine Way.goes rfl (fun _ h₁ => ?_); replace hF := HK.rely _ _ hF h₁; clear h₁; rw [stepG_seq]; simp only [goes_go]; refine ⟨c, HK.none _ _ (by intro e he; simp at he), ?_⟩)
    (refine Way.goes rfl (fun _ h₁ => ?_); replace hF := HK.rely _ _ hF h₁; clear h₁; rw [stepG_region]; simp only [goes_go, List.size_toArray, List.length_cons, List.length_nil, Nat.reduceAdd, Nat.zero_add, List.range, List.range.loop]; refine ⟨c, HK.none _ _ (by intro e he; simp at he), ?_⟩)
    (refine Way.goes rfl (fun _ h₁ => ?_); replace hF := HK.rely _ _ hF h₁; clear h₁; refine goes_oper_k rfl rfl (by k_ne) (fun K hK => ?_); go_simp; refine hK _ _ ⟨c, HK.none _ _ (by intro e he; have hm := mem_listed he; simp [go_sem, *] at hm), ?_⟩; clear hK K; (try w_num))
    (refine Way.goes rfl (fun _ h₁ => ?_); replace hF := HK.rely _ _ hF h₁; clear h₁; refine goes_oper_k rfl rfl (by k_ne) (fun K hK => ?_); go_simp; refine hK _ _ ⟨c, HK.none _ _ (by intro e he; have hm := mem_listed he; simp [go_sem, *] at hm), ?_⟩; clear hK K; (try w_num))
    (refine Way.goes rfl (fun _ h₁ => ?_); replace hF := HK.rely _ _ hF h₁; clear h₁; refine goes_oper_k rfl rfl (by k_ne) (fun K hK => ?_); go_simp; refine hK _ _ ⟨c, HK.none _ _ (by intro e he; have hm := mem_listed he; simp [go_sem, *] at hm), ?_⟩; clear hK K; (try w_num))
    (refine Way.goes rfl (fun _ h₁ => ?_); replace hF := HK.rely _ _ hF h₁; clear h₁; rw [stepG_unwanted rfl rfl]; simp only [goes_go]; refine ⟨c, HK.none _ _ (by intro e he; simp at he), ?_⟩; walk_nrm)
    (refine Way.goes rfl (fun _ h₁ => ?_); replace hF := HK.rely _ _ hF h₁; clear h₁; rw [stepG_unwanted rfl rfl]; simp only [goes_go]; refine ⟨c, HK.none _ _ (by intro e he; simp at he), ?_⟩; walk_nrm)
    (refine Way.goes rfl (fun _ h₁ => ?_); replace hF := HK.rely _ _ hF h₁; clear h₁; refine goes_oper_k rfl rfl (by k_ne) (fun K hK => ?_); go_simp; refine hK _ _ ⟨c, HK.none _ _ (by intro e he; have hm := mem_listed he; simp [go_sem, *] at hm), ?_⟩; clear hK K; (try w_num))
    (refine Way.goes rfl (fun _ h₁ => ?_); replace hF := HK.rely _ _ hF h₁; clear h₁; refine goes_oper_k rfl rfl (by k_ne) (fun K hK => ?_); go_simp; refine hK _ _ ⟨c, HK.none _ _ (by intro e he; have hm := mem_listed he; simp [go_sem, *] at hm), ?_⟩; clear hK K; (try w_num))
    (refine Way.goes rfl (fun _ h₁ => ?_); replace hF := HK.rely _ _ hF h₁; clear h₁; rw [stepG_unwanted rfl rfl]; simp only [goes_go]; refine ⟨c, HK.none _ _ (by intro e he; simp at he), ?_⟩; walk_nrm)
    (refine Way.goes rfl (fun _ h₁ => ?_); replace hF := HK.rely _ _ hF h₁; clear h₁; rw [stepG_unwanted rfl rfl]; simp only [goes_go]; refine ⟨c, HK.none _ _ (by intro e he; simp at he), ?_⟩; walk_nrm)
    (refine Way.goes rfl (fun _ h₁ => ?_); replace hF := HK.rely _ _ hF h₁; clear h₁; rw [stepG_unwanted rfl rfl]; simp only [goes_go]; refine ⟨c, HK.none _ _ (by intro e he; simp at he), ?_⟩; walk_nrm)
    (refine Way.goes rfl (fun _ h₁ => ?_); replace hF := HK.rely _ _ hF h₁; clear h₁; rw [stepG_unwanted rfl rfl]; simp only [goes_go]; refine ⟨c, HK.none _ _ (by intro e he; simp at he), ?_⟩; walk_nrm)
    (refine Way.goes rfl (fun _ h₁ => ?_); replace hF := HK.rely _ _ hF h₁; clear h₁; refine goes_oper_k rfl rfl (by k_ne) (fun K hK => ?_); go_simp; refine hK _ _ ⟨c, HK.none _ _ (by intro e he; have hm := mem_listed he; simp [go_sem, *] at hm), ?_⟩; clear hK K; (try w_num))
    (refine Way.goes rfl (fun _ h₁ => ?_); replace hF := HK.rely _ _ hF h₁; clear h₁; rw [stepG_region_end]; simp only [goes_go]; refine ⟨c, HK.none _ _ (by intro e he; simp at he), ?_⟩)
    (refine Way.goes rfl (fun _ h₁ => ?_); replace hF := HK.rely _ _ hF h₁; clear h₁; rw [stepG_cond (t := false) rfl]; simp only [goes_go, if_true, if_false, Bool.false_eq_true, ↓reduceIte]; refine ⟨c, HK.none _ _ (by intro e he; simp at he), ?_⟩)
    (refine Way.goes rfl (fun _ h₁ => ?_); replace hF := HK.rely _ _ hF h₁; clear h₁; rw [stepG_skip]; simp only [goes_go]; refine ⟨c, HK.none _ _ (by intro e he; simp at he), ?_⟩)
    (refine Way.goes rfl (fun _ h₁ => ?_); replace hF := HK.rely _ _ hF h₁; clear h₁; rw [stepG_seq]; simp only [goes_go]; refine ⟨c, HK.none _ _ (by intro e he; simp at he), ?_⟩)
    (refine Way.goes rfl (fun _ h₁ => ?_); replace hF := HK.rely _ _ hF h₁; clear h₁; rw [stepG_seq]; simp only [goes_go]; refine ⟨c, HK.none _ _ (by intro e he; simp at he), ?_⟩)
    (refine Way.goes rfl (fun _ h₁ => ?_); replace hF := HK.rely _ _ hF h₁; clear h₁; rw [stepG_region]; simp only [goes_go, List.size_toArray, List.length_cons, List.length_nil, Nat.reduceAdd, Nat.zero_add, List.range, List.range.loop]; refine ⟨c, HK.none _ _ (by intro e he; simp at he), ?_⟩)
    (refine Way.goes rfl (fun _ h₁ => ?_); replace hF := HK.rely _ _ hF h₁; clear h₁; refine goes_oper_k rfl rfl (by k_ne) (fun K hK => ?_); go_simp; refine hK _ _ ⟨c, HK.none _ _ (by intro e he; have hm := mem_listed he; simp [go_sem, *] at hm), ?_⟩; clear hK K; (try w_num))
    (refine Way.goes rfl (fun _ h₁ => ?_); replace hF := HK.rely _ _ hF h₁; clear h₁; refine goes_oper_k rfl rfl (by k_ne) (fun K hK => ?_); go_simp; refine hK _ _ ⟨c, HK.none _ _ (by intro e he; have hm := mem_listed he; simp [go_sem, *] at hm), ?_⟩; clear hK K; (try w_num))
    (refine Way.goes rfl (fun _ h₁ => ?_); replace hF := HK.rely _ _ hF h₁; clear h₁; refine goes_oper_k rfl rfl (by k_ne) (fun K hK => ?_); go_simp; refine hK _ _ ⟨c, HK.none _ _ (by intro e he; have hm := mem_listed he; simp [go_sem, *] at hm), ?_⟩; clear hK K; (try w_num))
    (refine Way.goes rfl (fun _ h₁ => ?_); replace hF := HK.rely _ _ hF h₁; clear h₁; rw [stepG_unwanted rfl rfl]; simp only [goes_go]; refine ⟨c, HK.none _ _ (by intro e he; simp at he), ?_⟩; walk_nrm)
    (refine Way.goes rfl (fun _ h₁ => ?_); replace hF := HK.rely _ _ hF h₁; clear h₁; rw [stepG_unwanted rfl rfl]; simp only [goes_go]; refine ⟨c, HK.none _ _ (by intro e he; simp at he), ?_⟩; walk_nrm)
    (refine Way.goes rfl (fun _ h₁ => ?_); replace hF := HK.rely _ _ hF h₁; clear h₁; refine goes_oper_k rfl rfl (by k_ne) (fun K hK => ?_); go_simp; refine hK _ _ ⟨c, HK.none _ _ (by intro e he; have hm := mem_listed he; simp [go_sem, *] at hm), ?_⟩; clear hK K; (try w_num))
    (refine Way.goes rfl (fun _ h₁ => ?_); replace hF := HK.rely _ _ hF h₁; clear h₁; rw [stepG_region_end]; simp only [goes_go]; refine ⟨c, HK.none _ _ (by intro e he; simp at he), ?_⟩)
    (refine Way.goes rfl (fun _ h₁ => ?_); replace hF := HK.rely _ _ hF h₁; clear h₁; rw [stepG_cond (t := true) rfl]; simp only [goes_go, if_true, if_false, Bool.false_eq_true, ↓reduceIte]; refine ⟨c, HK.none _ _ (by intro e he; simp at he), ?_⟩)
    (refine Way.goes rfl (fun _ h₁ => ?_); replace hF := HK.rely _ _ hF h₁; clear h₁; rw [stepG_ret']; simp only [goes_go]; refine ⟨c, HK.none _ _ (by intro e he; simp at he), ?_⟩)
    refine Way.here (fun w₁ h₁ => ?_)
    replace hF := HK.rely _ _ hF h₁
    clear h₁
    refine ⟨rfl, _, stepG_unwind_entry (v := .tuple #[]) (evs := #[mk .enable]) rfl H.f_enable (x_enable_n L) (x_enable_b L) (x_enable_x L) (x_enable_f L) (by simp [Extern.Race.none_]) (by simp [mk]) (by simp [mk]), ?_⟩
    (refine Way.goes rfl (fun _ h₁ => ?_); replace hF := HK.rely _ _ hF h₁; clear h₁; refine goes_leave0 rfl rfl H.f_add rfl ⟨c, HK.none _ _ (by intro e he; simp at he), ?_⟩; walk_nrm)
    exact hT _ hF.1 hF.2
  · -- it is more
    have q1 : (V == 1) = false := by simp; omega
    have q2 : decide (V = 1) = false := decide_eq_false e1
    clear hS hV
    walk_nrm
    (refine Way.goes rfl (fun _ h₁ => ?_); replace hF := HK.rely _ _ hF h₁; clear h₁; refine goes_oper_k rfl rfl (by k_ne) (fun K hK => ?_); go_simp; refine hK _ _ ⟨c, HK.none _ _ (by intro e he; have hm := mem_listed he; simp [go_sem, *] at hm), ?_⟩; clear hK K; (try w_num))
    (refine Way.goes rfl (fun _ h₁ => ?_); replace hF := HK.rely _ _ hF h₁; clear h₁; rw [stepG_region_end]; simp only [goes_go]; refine ⟨c, HK.none _ _ (by intro e he; simp at he), ?_⟩)
    (refine Way.goes rfl (fun _ h₁ => ?_); replace hF := HK.rely _ _ hF h₁; clear h₁; rw [stepG_ret']; simp only [goes_go]; refine ⟨c, HK.none _ _ (by intro e he; simp at he), ?_⟩)
    (refine Way.goes rfl (fun _ h₁ => ?_); replace hF := HK.rely _ _ hF h₁; clear h₁; refine goes_leave1 rfl rfl H.f_uAdd rfl ⟨c, HK.none _ _ (by intro e he; simp at he), ?_⟩; walk_nrm)
    (refine Way.goes rfl (fun _ h₁ => ?_); replace hF := HK.rely _ _ hF h₁; clear h₁; refine goes_oper_k rfl rfl (by k_ne) (fun K hK => ?_); go_simp; refine hK _ _ ⟨c, HK.none _ _ (by intro e he; have hm := mem_listed he; simp [go_sem, *] at hm), ?_⟩; clear hK K; (try w_num))
    (refine Way.goes rfl (fun _ h₁ => ?_); replace hF := HK.rely _ _ hF h₁; clear h₁; rw [stepG_region_end]; simp only [goes_go]; refine ⟨c, HK.none _ _ (by intro e he; simp at he), ?_⟩)
    (refine Way.goes rfl (fun _ h₁ => ?_); replace hF := HK.rely _ _ hF h₁; clear h₁; rw [stepG_seq]; simp only [goes_go]; refine ⟨c, HK.none _ _ (by intro e he; simp at he), ?_⟩)
    (refine Way.goes rfl (fun _ h₁ => ?_); replace hF := HK.rely _ _ hF h₁; clear h₁; rw [stepG_seq]; simp only [goes_go]; refine ⟨c, HK.none _ _ (by intro e he; simp at he), ?_⟩)
    (refine Way.goes rfl (fun _ h₁ => ?_); replace hF := HK.rely _ _ hF h₁; clear h₁; rw [stepG_region]; simp only [goes_go, List.size_toArray, List.length_cons, List.length_nil, Nat.reduceAdd, Nat.zero_add, List.range, List.range.loop]; refine ⟨c, HK.none _ _ (by intro e he; simp at he), ?_⟩)
    (refine Way.goes rfl (fun _ h₁ => ?_); replace hF := HK.rely _ _ hF h₁; clear h₁; refine goes_oper_k rfl rfl (by k_ne) (fun K hK => ?_); go_simp; refine hK _ _ ⟨c, HK.none _ _ (by intro e he; have hm := mem_listed he; simp [go_sem, *] at hm), ?_⟩; clear hK K; (try w_num))
    (refine Way.goes rfl (fun _ h₁ => ?_); replace hF := HK.rely _ _ hF h₁; clear h₁; refine goes_oper_k rfl rfl (by k_ne) (fun K hK => ?_); go_simp; refine hK _ _ ⟨c, HK.none _ _ (by intro e he; have hm := mem_listed he; simp [go_sem, *] at hm), ?_⟩; clear hK K; (try w_num))
    (refine Way.goes rfl (fun _ h₁ => ?_); replace hF := HK.rely _ _ hF h₁; clear h₁; refine goes_oper_k rfl rfl (by k_ne) (fun K hK => ?_); go_simp; refine hK _ _ ⟨c, HK.none _ _ (by intro e he; have hm := mem_listed he; simp [go_sem, *] at hm), ?_⟩; clear hK K; (try w_num))
    (refine Way.goes rfl (fun _ h₁ => ?_); replace hF := HK.rely _ _ hF h₁; clear h₁; refine goes_oper_k rfl rfl (by k_ne) (fun K hK => ?_); go_simp; refine hK _ _ ⟨c, HK.none _ _ (by intro e he; have hm := mem_listed he; simp [go_sem, *] at hm), ?_⟩; clear hK K; (try w_num))
    (refine Way.goes rfl (fun _ h₁ => ?_); replace hF := HK.rely _ _ hF h₁; clear h₁; rw [stepG_unwanted rfl rfl]; simp only [goes_go]; refine ⟨c, HK.none _ _ (by intro e he; simp at he), ?_⟩; walk_nrm)
    (refine Way.goes rfl (fun _ h₁ => ?_); replace hF := HK.rely _ _ hF h₁; clear h₁; rw [stepG_unwanted rfl rfl]; simp only [goes_go]; refine ⟨c, HK.none _ _ (by intro e he; simp at he), ?_⟩; walk_nrm)
    (refine Way.goes rfl (fun _ h₁ => ?_); replace hF := HK.rely _ _ hF h₁; clear h₁; refine goes_oper_k rfl rfl (by k_ne) (fun K hK => ?_); go_simp; refine hK _ _ ⟨c, HK.none _ _ (by intro e he; have hm := mem_listed he; simp [go_sem, *] at hm), ?_⟩; clear hK K; (try w_num))
    (refine Way.goes rfl (fun _ h₁ => ?_); replace hF := HK.rely _ _ hF h₁; clear h₁; rw [stepG_region_end]; simp only [goes_go]; refine ⟨c, HK.none _ _ (by intro e he; simp at he), ?_⟩)
    (refine Way.goes rfl (fun _ h₁ => ?_); replace hF := HK.rely _ _ hF h₁; clear h₁; rw [stepG_cond (t := false) rfl]; simp only [goes_go, if_true, if_false, Bool.false_eq_true, ↓reduceIte]; refine ⟨c, HK.none _ _ (by intro e he; simp at he), ?_⟩)
    (refine Way.goes rfl (fun _ h₁ => ?_); replace hF := HK.rely _ _ hF h₁; clear h₁; rw [stepG_skip]; simp only [goes_go]; refine ⟨c, HK.none _ _ (by intro e he; simp at he), ?_⟩)
    (refine Way.goes rfl (fun _ h₁ => ?_); replace hF := HK.rely _ _ hF h₁; clear h₁; rw [stepG_seq]; simp only [goes_go]; refine ⟨c, HK.none _ _ (by intro e he; simp at he), ?_⟩)
    (refine Way.goes rfl (fun _ h₁ => ?_); replace hF := HK.rely _ _ hF h₁; clear h₁; rw [stepG_region]; simp only [goes_go, List.size_toArray, List.length_cons, List.length_nil, Nat.reduceAdd, Nat.zero_add, List.range, List.range.loop]; refine ⟨c, HK.none _ _ (by intro e he; simp at he), ?_⟩)
    (refine Way.goes rfl (fun _ h₁ => ?_); replace hF := HK.rely _ _ hF h₁; clear h₁; refine goes_oper_k rfl rfl (by k_ne) (fun K hK => ?_); go_simp; refine hK _ _ ⟨c, HK.none _ _ (by intro e he; have hm := mem_listed he; simp [go_sem, *] at hm), ?_⟩; clear hK K; (try w_num))
    (refine Way.goes rfl (fun _ h₁ => ?_); replace hF := HK.rely _ _ hF h₁; clear h₁; refine goes_oper_k rfl rfl (by k_ne) (fun K hK => ?_); go_simp; refine hK _ _ ⟨c, HK.none _ _ (by intro e he; have hm := mem_listed he; simp [go_sem, *] at hm), ?_⟩; clear hK K; (try w_num))
    (refine Way.goes rfl (fun _ h₁ => ?_); replace hF := HK.rely _ _ hF h₁; clear h₁; refine goes_oper_k rfl rfl (by k_ne) (fun K hK => ?_); go_simp; refine hK _ _ ⟨c, HK.none _ _ (by intro e he; have hm := mem_listed he; simp [go_sem, *] at hm), ?_⟩; clear hK K; (try w_num))
    (refine Way.goes rfl (fun _ h₁ => ?_); replace hF := HK.rely _ _ hF h₁; clear h₁; refine goes_oper_k rfl rfl (by k_ne) (fun K hK => ?_); go_simp; refine hK _ _ ⟨c, HK.none _ _ (by intro e he; have hm := mem_listed he; simp [go_sem, *] at hm), ?_⟩; clear hK K; (try w_num))
    (refine Way.goes rfl (fun _ h₁ => ?_); replace hF := HK.rely _ _ hF h₁; clear h₁; rw [stepG_region_end]; simp only [goes_go]; refine ⟨c, HK.none _ _ (by intro e he; simp at he), ?_⟩)
    (refine Way.goes rfl (fun _ h₁ => ?_); replace hF := HK.rely _ _ hF h₁; clear h₁; rw [stepG_seq]; simp only [goes_go]; refine ⟨c, HK.none _ _ (by intro e he; simp at he), ?_⟩)
    (refine Way.goes rfl (fun _ h₁ => ?_); replace hF := HK.rely _ _ hF h₁; clear h₁; rw [stepG_region]; simp only [goes_go, List.size_toArray, List.length_cons, List.length_nil, Nat.reduceAdd, Nat.zero_add, List.range, List.range.loop]; refine ⟨c, HK.none _ _ (by intro e he; simp at he), ?_⟩)
    (refine Way.goes rfl (fun _ h₁ => ?_); replace hF := HK.rely _ _ hF h₁; clear h₁; refine goes_oper_k rfl rfl (by k_ne) (fun K hK => ?_); go_simp; refine hK _ _ ⟨c, HK.none _ _ (by intro e he; have hm := mem_listed he; simp [go_sem, *] at hm), ?_⟩; clear hK K; (try w_num))
    (refine Way.goes rfl (fun _ h₁ => ?_); replace hF := HK.rely _ _ hF h₁; clear h₁; refine goes_oper_k rfl rfl (by k_ne) (fun K hK => ?_); go_simp; refine hK _ _ ⟨c, HK.none _ _ (by intro e he; have hm := mem_listed he; simp [go_sem, *] at hm), ?_⟩; clear hK K; (try w_num))
    (refine Way.goes rfl (fun _ h₁ => ?_); replace hF := HK.rely _ _ hF h₁; clear h₁; refine goes_oper_k rfl rfl (by k_ne) (fun K hK => ?_); go_simp; refine hK _ _ ⟨c, HK.none _ _ (by intro e he; have hm := mem_listed he; simp [go_sem, *] at hm), ?_⟩; clear hK K; (try w_num))
    (refine Way.goes rfl (fun _ h₁ => ?_); replace hF := HK.rely _ _ hF h₁; clear h₁; refine goes_oper_k rfl rfl (by k_ne) (fun K hK => ?_); go_simp; refine hK _ _ ⟨c, HK.none _ _ (by intro e he; have hm := mem_listed he; simp [go_sem, *] at hm), ?_⟩; clear hK K; (try w_num))
    (refine Way.goes rfl (fun _ h₁ => ?_); replace hF := HK.rely _ _ hF h₁; clear h₁; rw [stepG_region_end]; simp only [goes_go]; refine ⟨c, HK.none _ _ (by intro e he; simp at he), ?_⟩)
    (refine Way.goes rfl (fun _ h₁ => ?_); replace hF := HK.rely _ _ hF h₁; clear h₁; rw [stepG_seq]; simp only [goes_go]; refine ⟨c, HK.none _ _ (by intro e he; simp at he), ?_⟩)
    (refine Way.goes rfl (fun _ h₁ => ?_); replace hF := HK.rely _ _ hF h₁; clear h₁; rw [stepG_seq]; simp only [goes_go]; refine ⟨c, HK.none _ _ (by intro e he; simp at he), ?_⟩)
    (refine Way.goes rfl (fun _ h₁ => ?_); replace hF := HK.rely _ _ hF h₁; clear h₁; rw [stepG_region]; simp only [goes_go, List.size_toArray, List.length_cons, List.length_nil, Nat.reduceAdd, Nat.zero_add, List.range, List.range.loop]; refine ⟨c, HK.none _ _ (by intro e he; simp at he), ?_⟩)
    (refine Way.goes rfl (fun _ h₁ => ?_); replace hF := HK.rely _ _ hF h₁; clear h₁; refine goes_oper_k rfl rfl (by k_ne) (fun K hK => ?_); go_simp; refine hK _ _ ⟨c, HK.none _ _ (by intro e he; have hm := mem_listed he; simp [go_sem, *] at hm), ?_⟩; clear hK K; (try w_num))
    (refine Way.goes rfl (fun _ h₁ => ?_); replace hF := HK.rely _ _ hF h₁; clear h₁; refine goes_oper_k rfl rfl (by k_ne) (fun K hK => ?_); go_simp; refine hK _ _ ⟨c, HK.none _ _ (by intro e he; have hm := mem_listed he; simp [go_sem, *] at hm), ?_⟩; clear hK K; (try w_num))
    (refine Way.goes rfl (fun _ h₁ => ?_); replace hF := HK.rely _ _ hF h₁; clear h₁; refine goes_oper_k rfl rfl (by k_ne) (fun K hK => ?_); go_simp; refine hK _ _ ⟨c, HK.none _ _ (by intro e he; have hm := mem_listed he; simp [go_sem, *] at hm), ?_⟩; clear hK K; (try w_num))
    (refine Way.goes rfl (fun _ h₁ => ?_); replace hF := HK.rely _ _ hF h₁; clear h₁; refine goes_oper_k rfl rfl (by k_ne) (fun K hK => ?_); go_simp; refine hK _ _ ⟨c, HK.none _ _ (by intro e he; have hm := mem_listed he; simp [go_sem, *] at hm), ?_⟩; clear hK K; (try w_num))
    (refine Way.goes rfl (fun _ h₁ => ?_); replace hF := HK.rely _ _ hF h₁; clear h₁; refine goes_oper_k rfl rfl (by k_ne) (fun K hK => ?_); go_simp; refine hK _ _ ⟨c, HK.none _ _ (by intro e he; have hm := mem_listed he; simp [go_sem, *] at hm), ?_⟩; clear hK K; (try w_num))
    (refine Way.goes rfl (fun _ h₁ => ?_); replace hF := HK.rely _ _ hF h₁; clear h₁; refine goes_oper_k rfl rfl (by k_ne) (fun K hK => ?_); go_simp; refine hK _ _ ⟨c, HK.none _ _ (by intro e he; have hm := mem_listed he; simp [go_sem, *] at hm), ?_⟩; clear hK K; (try w_num))
    (refine Way.goes rfl (fun _ h₁ => ?_); replace hF := HK.rely _ _ hF h₁; clear h₁; refine goes_oper_k rfl rfl (by k_ne) (fun K hK => ?_); go_simp; refine hK _ _ ⟨c, HK.none _ _ (by intro e he; have hm := mem_listed he; simp [go_sem, *] at hm), ?_⟩; clear hK K; (try w_num))
    (refine Way.goes rfl (fun _ h₁ => ?_); replace hF := HK.rely _ _ hF h₁; clear h₁; refine goes_oper_k rfl rfl (by k_ne) (fun K hK => ?_); go_simp; refine hK _ _ ⟨c, HK.none _ _ (by intro e he; have hm := mem_listed he; simp [go_sem, *] at hm), ?_⟩; clear hK K; (try w_num))
    (refine Way.goes rfl (fun _ h₁ => ?_); replace hF := HK.rely _ _ hF h₁; clear h₁; refine goes_oper_k rfl rfl (by k_ne) (fun K hK => ?_); go_simp; refine hK _ _ ⟨c, HK.none _ _ (by intro e he; have hm := mem_listed he; simp [go_sem, *] at hm), ?_⟩; clear hK K; (try w_num))
    (refine Way.goes rfl (fun _ h₁ => ?_); replace hF := HK.rely _ _ hF h₁; clear h₁; refine goes_oper_k rfl rfl (by k_ne) (fun K hK => ?_); go_simp; refine hK _ _ ⟨c, HK.none _ _ (by intro e he; have hm := mem_listed he; simp [go_sem, *] at hm), ?_⟩; clear hK K; (try w_num))
    (refine Way.goes rfl (fun _ h₁ => ?_); replace hF := HK.rely _ _ hF h₁; clear h₁; rw [stepG_region_end]; simp only [goes_go]; refine ⟨c, HK.none _ _ (by intro e he; simp at he), ?_⟩)
    (refine Way.goes rfl (fun _ h₁ => ?_); replace hF := HK.rely _ _ hF h₁; clear h₁; rw [stepG_cond (t := false) rfl]; simp only [goes_go, if_true, if_false, Bool.false_eq_true, ↓reduceIte]; refine ⟨c, HK.none _ _ (by intro e he; simp at he), ?_⟩)
    (refine Way.goes rfl (fun _ h₁ => ?_); replace hF := HK.rely _ _ hF h₁; clear h₁; rw [stepG_skip]; simp only [goes_go]; refine ⟨c, HK.none _ _ (by intro e he; simp at he), ?_⟩)
    (refine Way.goes rfl (fun _ h₁ => ?_); replace hF := HK.rely _ _ hF h₁; clear h₁; rw [stepG_seq]; simp only [goes_go]; refine ⟨c, HK.none _ _ (by intro e he; simp at he), ?_⟩)
    (refine Way.goes rfl (fun _ h₁ => ?_); replace hF := HK.rely _ _ hF h₁; clear h₁; rw [stepG_seq]; simp only [goes_go]; refine ⟨c, HK.none _ _ (by intro e he; simp at he), ?_⟩)
    (refine Way.goes rfl (fun _ h₁ => ?_); replace hF := HK.rely _ _ hF h₁; clear h₁; rw [stepG_region]; simp only [goes_go, List.size_toArray, List.length_cons, List.length_nil, Nat.reduceAdd, Nat.zero_add, List.range, List.range.loop]; refine ⟨c, HK.none _ _ (by intro e he; simp at he), ?_⟩)
    (refine Way.goes rfl (fun _ h₁ => ?_); replace hF := HK.rely _ _ hF h₁; clear h₁; refine goes_oper_k rfl rfl (by k_ne) (fun K hK => ?_); go_simp; refine hK _ _ ⟨c, HK.none _ _ (by intro e he; have hm := mem_listed he; simp [go_sem, *] at hm), ?_⟩; clear hK K; (try w_num))
    (refine Way.goes rfl (fun _ h₁ => ?_); replace hF := HK.rely _ _ hF h₁; clear h₁; refine goes_oper_k rfl rfl (by k_ne) (fun K hK => ?_); go_simp; refine hK _ _ ⟨c, HK.none _ _ (by intro e he; have hm := mem_listed he; simp [go_sem, *] at hm), ?_⟩; clear hK K; (try w_num))
    (refine Way.goes rfl (fun _ h₁ => ?_); replace hF := HK.rely _ _ hF h₁; clear h₁; rw [stepG_region_end]; simp only [goes_go]; refine ⟨c, HK.none _ _ (by intro e he; simp at he), ?_⟩)
    (refine Way.goes rfl (fun _ h₁ => ?_); replace hF := HK.rely _ _ hF h₁; clear h₁; rw [stepG_cond (t := false) rfl]; simp only [goes_go, if_true, if_false, Bool.false_eq_true, ↓reduceIte]; refine ⟨c, HK.none _ _ (by intro e he; simp at he), ?_⟩)
    (refine Way.goes rfl (fun _ h₁ => ?_); replace hF := HK.rely _ _ hF h₁; clear h₁; rw [stepG_skip]; simp only [goes_go]; refine ⟨c, HK.none _ _ (by intro e he; simp at he), ?_⟩)
    (refine Way.goes rfl (fun _ h₁ => ?_); replace hF := HK.rely _ _ hF h₁; clear h₁; rw [stepG_seq]; simp only [goes_go]; refine ⟨c, HK.none _ _ (by intro e he; simp at he), ?_⟩)
    (refine Way.goes rfl (fun _ h₁ => ?_); replace hF := HK.rely _ _ hF h₁; clear h₁; rw [stepG_seq]; simp only [goes_go]; refine ⟨c, HK.none _ _ (by intro e he; simp at he), ?_⟩)
    (refine Way.goes rfl (fun _ h₁ => ?_); replace hF := HK.rely _ _ hF h₁; clear h₁; rw [stepG_region]; simp only [goes_go, List.size_toArray, List.length_cons, List.length_nil, Nat.reduceAdd, Nat.zero_add, List.range, List.range.loop]; refine ⟨c, HK.none _ _ (by intro e he; simp at he), ?_⟩)
    (refine Way.goes rfl (fun _ h₁ => ?_); replace hF := HK.rely _ _ hF h₁; clear h₁; refine goes_oper_k rfl rfl (by k_ne) (fun K hK => ?_); go_simp; refine hK _ _ ⟨c, HK.none _ _ (by intro e he; have hm := mem_listed he; simp [go_sem, *] at hm), ?_⟩; clear hK K; (try w_num))
    (refine Way.goes rfl (fun _ h₁ => ?_); replace hF := HK.rely _ _ hF h₁; clear h₁; refine goes_oper_k rfl rfl (by k_ne) (fun K hK => ?_); go_simp; refine hK _ _ ⟨c, HK.none _ _ (by intro e he; have hm := mem_listed he; simp [go_sem, *] at hm), ?_⟩; clear hK K; (try w_num))
    (refine Way.goes rfl (fun _ h₁ => ?_); replace hF := HK.rely _ _ hF h₁; clear h₁; refine goes_oper_k rfl rfl (by k_ne) (fun K hK => ?_); go_simp; refine hK _ _ ⟨c, HK.none _ _ (by intro e he; have hm := mem_listed he; simp [go_sem, *] at hm), ?_⟩; clear hK K; (try w_num))
    (refine Way.goes rfl (fun _ h₁ => ?_); replace hF := HK.rely _ _ hF h₁; clear h₁; rw [stepG_unwanted rfl rfl]; simp only [goes_go]; refine ⟨c, HK.none _ _ (by intro e he; simp at he), ?_⟩; walk_nrm)
    (refine Way.goes rfl (fun _ h₁ => ?_); replace hF := HK.rely _ _ hF h₁; clear h₁; rw [stepG_unwanted rfl rfl]; simp only [goes_go]; refine ⟨c, HK.none _ _ (by intro e he; simp at he), ?_⟩; walk_nrm)
    (refine Way.goes rfl (fun _ h₁ => ?_); replace hF := HK.rely _ _ hF h₁; clear h₁; refine goes_oper_k rfl rfl (by k_ne) (fun K hK => ?_); go_simp; refine hK _ _ ⟨c, HK.none _ _ (by intro e he; have hm := mem_listed he; simp [go_sem, *] at hm), ?_⟩; clear hK K; (try w_num))
    (refine Way.goes rfl (fun _ h₁ => ?_); replace hF := HK.rely _ _ hF h₁; clear h₁; refine goes_oper_k rfl rfl (by k_ne) (fun K hK => ?_); go_simp; refine hK _ _ ⟨c, HK.none _ _ (by intro e he; have hm := mem_listed he; simp [go_sem, *] at hm), ?_⟩; clear hK K; (try w_num))
    (refine Way.goes rfl (fun _ h₁ => ?_); replace hF := HK.rely _ _ hF h₁; clear h₁; rw [stepG_unwanted rfl rfl]; simp only [goes_go]; refine ⟨c, HK.none _ _ (by intro e he; simp at he), ?_⟩; walk_nrm)
    (refine Way.goes rfl (fun _ h₁ => ?_); replace hF := HK.rely _ _ hF h₁; clear h₁; rw [stepG_unwanted rfl rfl]; simp only [goes_go]; refine ⟨c, HK.none _ _ (by intro e he; simp at he), ?_⟩; walk_nrm)
    (refine Way.goes rfl (fun _ h₁ => ?_); replace hF := HK.rely _ _ hF h₁; clear h₁; rw [stepG_unwanted rfl rfl]; simp only [goes_go]; refine ⟨c, HK.none _ _ (by intro e he; simp at he), ?_⟩; walk_nrm)
    (refine Way.goes rfl (fun _ h₁ => ?_); replace hF := HK.rely _ _ hF h₁; clear h₁; rw [stepG_unwanted rfl rfl]; simp only [goes_go]; refine ⟨c, HK.none _ _ (by intro e he; simp at he), ?_⟩; walk_nrm)
    (refine Way.goes rfl (fun _ h₁ => ?_); replace hF := HK.rely _ _ hF h₁; clear h₁; refine goes_oper_k rfl rfl (by k_ne) (fun K hK => ?_); go_simp; refine hK _ _ ⟨c, HK.none _ _ (by intro e he; have hm := mem_listed he; simp [go_sem, *] at hm), ?_⟩; clear hK K; (try w_num))
    (refine Way.goes rfl (fun _ h₁ => ?_); replace hF := HK.rely _ _ hF h₁; clear h₁; rw [stepG_region_end]; simp only [goes_go]; refine ⟨c, HK.none _ _ (by intro e he; simp at he), ?_⟩)
    (refine Way.goes rfl (fun _ h₁ => ?_); replace hF := HK.rely _ _ hF h₁; clear h₁; rw [stepG_cond (t := false) rfl]; simp only [goes_go, if_true, if_false, Bool.false_eq_true, ↓reduceIte]; refine ⟨c, HK.none _ _ (by intro e he; simp at he), ?_⟩)
    (refine Way.goes rfl (fun _ h₁ => ?_); replace hF := HK.rely _ _ hF h₁; clear h₁; rw [stepG_skip]; simp only [goes_go]; refine ⟨c, HK.none _ _ (by intro e he; simp at he), ?_⟩)
    (refine Way.goes rfl (fun _ h₁ => ?_); replace hF := HK.rely _ _ hF h₁; clear h₁; rw [stepG_seq]; simp only [goes_go]; refine ⟨c, HK.none _ _ (by intro e he; simp at he), ?_⟩)
    (refine Way.goes rfl (fun _ h₁ => ?_); replace hF := HK.rely _ _ hF h₁; clear h₁; rw [stepG_seq]; simp only [goes_go]; refine ⟨c, HK.none _ _ (by intro e he; simp at he), ?_⟩)
    (refine Way.goes rfl (fun _ h₁ => ?_); replace hF := HK.rely _ _ hF h₁; clear h₁; rw [stepG_region]; simp only [goes_go, List.size_toArray, List.length_cons, List.length_nil, Nat.reduceAdd, Nat.zero_add, List.range, List.range.loop]; refine ⟨c, HK.none _ _ (by intro e he; simp at he), ?_⟩)
    (refine Way.goes rfl (fun _ h₁ => ?_); replace hF := HK.rely _ _ hF h₁; clear h₁; refine goes_oper_k rfl rfl (by k_ne) (fun K hK => ?_); go_simp; refine hK _ _ ⟨c, HK.none _ _ (by intro e he; have hm := mem_listed he; simp [go_sem, *] at hm), ?_⟩; clear hK K; (try w_num))
    (refine Way.goes rfl (fun _ h₁ => ?_); replace hF := HK.rely _ _ hF h₁; clear h₁; refine goes_oper_k rfl rfl (by k_ne) (fun K hK => ?_); go_simp; refine hK _ _ ⟨c, HK.none _ _ (by intro e he; have hm := mem_listed he; simp [go_sem, *] at hm), ?_⟩; clear hK K; (try w_num))
    (refine Way.goes rfl (fun _ h₁ => ?_); replace hF := HK.rely _ _ hF h₁; clear h₁; refine goes_oper_k rfl rfl (by k_ne) (fun K hK => ?_); go_simp; refine hK _ _ ⟨c, HK.none _ _ (by intro e he; have hm := mem_listed he; simp [go_sem, *] at hm), ?_⟩; clear hK K; (try w_num))
    (refine Way.goes rfl (fun _ h₁ => ?_); replace hF := HK.rely _ _ hF h₁; clear h₁; rw [stepG_unwanted rfl rfl]; simp only [goes_go]; refine ⟨c, HK.none _ _ (by intro e he; simp at he), ?_⟩; walk_nrm)
    (refine Way.goes rfl (fun _ h₁ => ?_); replace hF := HK.rely _ _ hF h₁; clear h₁; rw [stepG_unwanted rfl rfl]; simp only [goes_go]; refine ⟨c, HK.none _ _ (by intro e he; simp at he), ?_⟩; walk_nrm)
    (refine Way.goes rfl (fun _ h₁ => ?_); replace hF := HK.rely _ _ hF h₁; clear h₁; refine goes_oper_k rfl rfl (by k_ne) (fun K hK => ?_); go_simp; refine hK _ _ ⟨c, HK.none _ _ (by intro e he; have hm := mem_listed he; simp [go_sem, *] at hm), ?_⟩; clear hK K; (try w_num))
    (refine Way.goes rfl (fun _ h₁ => ?_); replace hF := HK.rely _ _ hF h₁; clear h₁; rw [stepG_region_end]; simp only [goes_go]; refine ⟨c, HK.none _ _ (by intro e he; simp at he), ?_⟩)
    (refine Way.goes rfl (fun _ h₁ => ?_); replace hF := HK.rely _ _ hF h₁; clear h₁; rw [stepG_cond (t := true) rfl]; simp only [goes_go, if_true, if_false, Bool.false_eq_true, ↓reduceIte]; refine ⟨c, HK.none _ _ (by intro e he; simp at he), ?_⟩)
    (refine Way.goes rfl (fun _ h₁ => ?_); replace hF := HK.rely _ _ hF h₁; clear h₁; rw [stepG_ret']; simp only [goes_go]; refine ⟨c, HK.none _ _ (by intro e he; simp at he), ?_⟩)
    refine Way.here (fun w₁ h₁ => ?_)
    replace hF := HK.rely _ _ hF h₁
    clear h₁
    refine ⟨rfl, _, stepG_unwind_entry (v := .tuple #[]) (evs := #[mk .enable]) rfl H.f_enable (x_enable_n L) (x_enable_b L) (x_enable_x L) (x_enable_f L) (by simp [Extern.Race.none_]) (by simp [mk]) (by simp [mk]), ?_⟩
    (refine Way.goes rfl (fun _ h₁ => ?_); replace hF := HK.rely _ _ hF h₁; clear h₁; refine goes_leave0 rfl rfl H.f_add rfl ⟨c, HK.none _ _ (by intro e he; simp at he), ?_⟩; walk_nrm)
    exact hT _ hF.1 hF.2
end
end Go.Proofs.Ytmhbjmkdekgmlaa.Sim
