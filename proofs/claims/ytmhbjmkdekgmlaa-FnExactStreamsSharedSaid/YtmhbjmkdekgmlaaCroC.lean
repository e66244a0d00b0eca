/-
  A crew whose workers make memory, and its starter: the invariant of the machine, its measure; a step of a worker keeps the one and lowers the other.
  Conditions: the plan's blocks lie apart; what a worker leaves behind stands under its rely.
-/
import Derived.Test.YtmhbjmkdekgmlaaCroB
set_option linter.unusedSimpArgs false
set_option linter.unusedVariables false
namespace Go.Proofs.Ytmhbjmkdekgmlaa.Sim
open Go Go.Conc Go.ConcN
open Go.ConcR (KK wgBlock WgAt stA smA rd wr mk Payload Aside2 DC0 Bk g_of_ofEvents bk_of_mute ofEvent_loc_mark deafBehind_cons deafBehind_one)

/-! ### the measure -/
/-- One of the first n trees goes on. -/
def DecT (n : Nat) (T' T : Nat → Tr) : Prop := ∃ i x, i < n ∧ Tr.Sub x (T i) ∧ T' = upd T i x
theorem DecT.wf (n : Nat) : WellFounded (DecT n) := by
  induction n with
  | zero => exact ⟨fun T => ⟨_, fun T' ⟨i, _, hi, _⟩ => absurd hi (Nat.not_lt_zero _)⟩⟩
  | succ n ih =>
    have h := (Prod.lex ⟨Tr.Sub, Tr.wf⟩ ⟨DecT n, ih⟩).wf
    refine Subrelation.wf (r := InvImage (Prod.Lex Tr.Sub (DecT n)) fun T => (T n, T)) ?_ (InvImage.wf _ h)
    rintro T' T ⟨i, x, hi, hs, rfl⟩
    rcases Nat.lt_or_ge i n with hlt | hge
    · show Prod.Lex _ _ (upd T i x n, upd T i x) (T n, T)
      rw [upd_ne T x (by omega : n ≠ i)]
      exact Prod.Lex.right _ ⟨i, x, hlt, hs, rfl⟩
    · obtain rfl : i = n := by omega
      show Prod.Lex _ _ (upd T i x i, upd T i x) (T i, T)
      rw [upd_same]
      exact Prod.Lex.left _ _ hs
abbrev Meas := Nat × ((Nat → Tr) × Nat)
def LtM (n : Nat) : Meas → Meas → Prop := Prod.Lex (· < ·) (Prod.Lex (DecT n) (· < ·))
theorem LtM.wf (n : Nat) : WellFounded (LtM n) := (Prod.lex Nat.lt_wfRel (Prod.lex ⟨DecT n, DecT.wf n⟩ Nat.lt_wfRel)).wf

/-- From an invariant that some measure bounds to the end of a phase. -/
theorem reach_of_inv {P : Program} {μ : Type} {r : μ → μ → Prop} (wf : WellFounded r) (Inv : μ → Machine → Trace → Prop) (Done : Machine → Trace → Prop)
    (step : ∀ x m t, Inv x m t → Done m t ∨ ∃ m' ops x', stepT P m = (.next m', ops) ∧ r x' x ∧ Inv x' m' (t ++ ops)) :
    ∀ x m t, Inv x m t → ∃ N m' t', runNT P N m t = (.next m', t') ∧ Done m' t' := by
  intro x
  induction x using wf.induction with
  | _ x ih =>
    intro m t h
    rcases step x m t h with hd | ⟨m', ops, x', h1, h2, h3⟩
    · exact ⟨0, m, t, rfl, hd⟩
    · obtain ⟨N, m₂, t₂, e1, e2⟩ := ih x' h2 m' _ h3
      exact ⟨N + 1, m₂, t₂, by simp only [runNT, h1]; exact e1, e2⟩

section
variable [Payload]
/-- The starter has said 'acquire', hearing, behind every worker's release. -/
def AcqN (f : Plan) (j : Nat) (t : Trace) : Prop :=
  ∃ q, t.act? q = some (.mark (.acquire (stA f.p.Wg))) ∧ t.g? q = some 0 ∧ t.heard q ∧ ∀ i, f.q0 ≤ i → i < f.q0 + j → ∃ r, RelBy (stA f.p.Wg) t (i + 1) r ∧ r < q
omit [Payload] in
theorem AcqN.app {f : Plan} {j : Nat} {t u : Trace} (h : AcqN f j t) (hu : ∀ i r, f.q0 ≤ i → i < f.q0 + j → RelBy (stA f.p.Wg) t (i + 1) r → RelBy (stA f.p.Wg) (t ++ u) (i + 1) r) : AcqN f j (t ++ u) := by
  obtain ⟨q, h1, h2, h3, h4⟩ := h
  have hq := lt_of_act? h1
  exact ⟨q, by rw [act?_old hq]; exact h1, by rw [g?_old hq]; exact h2, (heard_old hq).2 h3, fun i hi hj => let ⟨r, hr, hrq⟩ := h4 i hi hj; ⟨r, hu i r hi hj hr, hrq⟩⟩

def mu (f : Plan) (j : Nat) (D : Nat → WD) (T : Nat → Tr) (tag : CTag) (f0 : Nat) : Meas :=
  (phi (f.q0 + f.N) (Vc (f.q0 + j) D) tag + Ssum (f.q0 + j) D, (T, f0 + 2 * Fsum (f.q0 + j) D))
def InvM (P : Program) (f : Plan) (w₀ : World) (Post : Nat → (Nat → Prop) → World → Prop) (Anch Next : (Nat → Prop) → Goroutine → World → Prop) (x : Meas) (m : Machine) (t : Trace) : Prop :=
  ∃ (gs : Array Goroutine) (w : World) (sl : Option (Nat × Nat)) (j : Nat) (D : Nat → WD) (T : Nat → Tr) (M : Nat → Nat → Prop) (tag : CTag) (f0 d0 : Nat) (a : Goroutine) (st sm : Int),
    m = crowd gs w sl ∧ gs[0]? = some a ∧ j + pend tag ≤ f.N ∧ sideC f tag j d0 ∧ CS P f w₀ Post Anch Next tag (T 0) f0 (M 0) a w ∧ Com P f w₀ Post j gs w t D T M d0 ∧ WgAt f.p.ty f.p.Wg w st sm ∧ ConcN.Mode (f.q0 + j) D tag st sm ∧
    (tag = .ret → AcqN f j t) ∧ x = mu f j D T tag f0

section
variable {P : Program} {f : Plan} {w₀ : World} {Post : Nat → (Nat → Prop) → World → Prop} {Anch Next : (Nat → Prop) → Goroutine → World → Prop}
  {gs : Array Goroutine} {w w' : World} {sl : Option (Nat × Nat)} {j : Nat} {D : Nat → WD} {T : Nat → Tr} {M M' : Nat → Nat → Prop} {tag : CTag} {f0 d0 : Nat} {a : Goroutine} {t : Trace} {st sm : Int}

omit [Payload] in
theorem sideC.retag {tag' : CTag} (h : sideC f tag j d0) (e : tag' = tag ∨ (tag = .blk ∧ tag' = .w3)) : sideC f tag' j d0 := by
  rcases e with rfl | ⟨rfl, rfl⟩
  · exact h
  · exact h
omit [Payload] in
theorem pend_retag {tag tag' : CTag} (e : tag' = tag ∨ (tag = .blk ∧ tag' = .w3)) : pend tag' = pend tag := by
  rcases e with rfl | ⟨rfl, rfl⟩ <;> rfl

/-- Whatever step of goroutine i + 1. -/
theorem workerStep (hP : PostOk f Post) (hAr : ∀ c g w, Anch c g w → g.status = .running) (hNr : ∀ c g w, Next c g w → g.status = .running)
    (ha : gs[0]? = some a) (hpj : j + pend tag ≤ f.N) (hsd : sideC f tag j d0) (hcs : CS P f w₀ Post Anch Next tag (T 0) f0 (M 0) a w) (hcom : Com P f w₀ Post j gs w t D T M d0)
    {i : Nat} (hi : i < f.q0 + j) {g g' : Goroutine} {es : Array Event} {s' m' dd' : Nat} {t' : Tr} {st' sm' : Int} (hg : gs[i + 1]? = some g) (hgo : stepG P false g w = .go g' w' es)
    (hRM : RM f (M 0) w w') (hRel : ∀ k, f.q0 < k → k ≠ i + 1 → Rel f.p (f.part k) (M k) w w') (hM : ∀ k, k ≠ i + 1 → M' k = M k) (hMi : i < f.q0 → M' (i + 1) = M (i + 1))
    (hs' : WS P f Post (i + 1) (M' (i + 1)) s' t' m' dd' g' w')
    (hti : TI f M' (t ++ MemOp.ofEvents (i + 1) g.frame.fn g.frame.place es) j w'.heap.size) (hO : Owns f M' w'.heap.size)
    (hnr : ∀ e ∈ es, ∀ ad, e.loc ≠ .mark (.release ad)) (hdeaf : deafBehind (D i).deaf es = dd')
    (hrel : f.q0 ≤ i → s' ≤ 6 → ∃ r, RelBy (stA f.p.Wg) (t ++ MemOp.ofEvents (i + 1) g.frame.fn g.frame.place es) (i + 1) r)
    (hbase : Base f w₀ w') (hout : OutAt f.p w') (hsm : Kin w w') (hwg : WgAt f.p.ty f.p.Wg w' st' sm')
    (hmode : ∀ tag', (tag' = tag ∨ (tag = .blk ∧ tag' = .w3)) → (mayWake P g = true → g'.status = .running → tag' ≠ .blk) → ConcN.Mode (f.q0 + j) (upd D i ⟨s', m', dd'⟩) tag' st' sm')
    (hacq : tag = .ret → AcqN f j (t ++ MemOp.ofEvents (i + 1) g.frame.fn g.frame.place es))
    (hlt : (s' < (D i).stage ∧ cnt ⟨s', m', dd'⟩ ≤ cnt (D i)) ∨ (s' = (D i).stage ∧ (Tr.Sub t' (T (i + 1)) ∨ (t' = T (i + 1) ∧ m' + 1 = (D i).fuel)))) :
    ∃ m₁ ops x', runT P (crowd gs w sl) (i + 1) = (.next m₁, ops) ∧ LtM (f.q0 + f.N + 1) x' (mu f j D T tag f0) ∧ InvM P f w₀ Post Anch Next x' m₁ (t ++ ops) := by
  obtain ⟨tag', f', hcs', hf', htag, hwk⟩ := hcs.wokenBy hAr hNr hRM g g'
  have hrun := runT_crowd_go (P := P) (sl := sl) (i := i + 1) hg (by simpa using hgo)
  have e1 := sumTo_upd D (⟨s', m', dd'⟩ : WD) cnt hi
  have e2 := sumTo_upd D (⟨s', m', dd'⟩ : WD) WD.stage hi
  have e3 := sumTo_upd D (⟨s', m', dd'⟩ : WD) WD.fuel hi
  have hi0 : (0 : Nat) ≠ i + 1 := by omega
  have hcom' : Com P f w₀ Post j ((gs.map (woken P g g' w')).setIfInBounds (i + 1) g') w' (t ++ MemOp.ofEvents (i + 1) g.frame.fn g.frame.place es) (upd D i ⟨s', m', dd'⟩) (upd T (i + 1) t') M' d0 := by
    refine ⟨by simp [hcom.size], fun i' hi' => ?_, hti, hO, fun k b hk0 hk => ?_, fun ad => (hcom.norel ad).app (norel_all hnr ad), by rw [Deaf_other t (g' := i + 1) (by omega) _ g_of_ofEvents, hcom.deaf0], fun i' hi' => ?_, fun i' hq hi' hst => ?_, hbase, hout, Nat.le_trans hcom.b0 hRM.size, hcom.same.trans hsm⟩
    · by_cases e : i' = i
      · subst e
        exact ⟨g', get_map_set_same _ _ _ (by rw [hcom.size]; omega), by rw [upd_same, upd_same]; exact hs'⟩
      · obtain ⟨x, hx, hsx⟩ := hcom.wk i' hi'
        refine ⟨x, by rw [get_map_set _ _ _ _ (by omega), hx, Option.map_some, hsx.woken], ?_⟩
        rw [upd_ne D _ e, upd_ne T _ (by omega), hM _ (by omega)]
        exact hsx.rely hP fun hq => hRel _ hq (by omega)
    · by_cases e : k = i + 1
      · subst e
        rw [hMi (by omega)]
        exact hcom.idle _ b hk0 hk
      · rw [hM k e]; exact hcom.idle k b hk0 hk
    · by_cases e : i' = i
      · subst e; rw [Deaf_own, hcom.deafW i' hi', upd_same]; exact hdeaf
      · rw [Deaf_other t (g' := i + 1) (by omega) _ g_of_ofEvents, hcom.deafW i' hi', upd_ne D _ e]
    · by_cases e : i' = i
      · subst e; rw [upd_same] at hst; exact hrel hq hst
      · rw [upd_ne D _ e] at hst
        obtain ⟨r, hr⟩ := hcom.rel i' hq hi' hst
        exact ⟨r, hr.appOther g_of_ofEvents (by omega)⟩
  refine ⟨_, _, mu f j (upd D i ⟨s', m', dd'⟩) (upd T (i + 1) t') tag' f', hrun, ?_,
    _, w', sl, j, upd D i ⟨s', m', dd'⟩, upd T (i + 1) t', M', tag', f', d0, woken P g g' w' a, st', sm', rfl, by rw [get_map_set _ _ _ _ (by omega), ha]; rfl, by rw [pend_retag htag]; exact hpj, hsd.retag htag, by rw [upd_ne T _ hi0, hM 0 hi0]; exact hcs', hcom', hwg, hmode tag' htag hwk, ?_, rfl⟩
  · simp only [mu]
    rw [phi_retag _ _ htag]
    simp only [Vc, Ssum, Fsum] at *
    rcases hlt with ⟨h1, h2⟩ | ⟨h1, h2⟩
    · refine Prod.Lex.left _ _ ?_
      have := phi_mono (f.q0 + f.N) (v' := sumTo (f.q0 + j) fun a => cnt (upd D i ⟨s', m', dd'⟩ a)) (v := sumTo (f.q0 + j) fun a => cnt (D a)) (by omega) tag
      omega
    · have ec : cnt (⟨s', m', dd'⟩ : WD) = cnt (D i) := by simp only [cnt, h1]
      have ev : (sumTo (f.q0 + j) fun a => cnt (upd D i ⟨s', m', dd'⟩ a)) = sumTo (f.q0 + j) fun a => cnt (D a) := by omega
      have es' : (sumTo (f.q0 + j) fun a => (upd D i ⟨s', m', dd'⟩ a).stage) = sumTo (f.q0 + j) fun a => (D a).stage := by omega
      rw [ev, es']
      refine Prod.Lex.right _ ?_
      rcases h2 with h2 | ⟨h2, h3⟩
      · exact Prod.Lex.left _ _ ⟨i + 1, t', by omega, h2, rfl⟩
      · have et : upd T (i + 1) t' = T := by
          funext b
          by_cases e : b = i + 1
          · subst e; rw [upd_same, h2]
          · rw [upd_ne T _ e]
        rw [et]
        refine Prod.Lex.right _ ?_
        omega
  · intro e
    rcases htag with rfl | ⟨_, rfl⟩
    · exact hacq e
    · cases e

set_option maxHeartbeats 1600000 in
theorem stepWorker (o : f.Ok) (hn : f.q0 + f.N < 2147483648) (hP : PostOk f Post) (hAr : ∀ c g w, Anch c g w → g.status = .running) (hNr : ∀ c g w, Next c g w → g.status = .running)
    (ha : gs[0]? = some a) (hpj : j + pend tag ≤ f.N) (hsd : sideC f tag j d0) (hcs : CS P f w₀ Post Anch Next tag (T 0) f0 (M 0) a w) (hcom : Com P f w₀ Post j gs w t D T M d0) (hwg : WgAt f.p.ty f.p.Wg w st sm) (hmode : ConcN.Mode (f.q0 + j) D tag st sm)
    (hacq : tag = .ret → AcqN f j t) {i : Nat} (hi : i < f.q0 + j) {g : Goroutine} (hg : gs[i + 1]? = some g) (hrun : g.status = .running) :
    ∃ m₁ ops x', runT P (crowd gs w sl) (i + 1) = (.next m₁, ops) ∧ LtM (f.q0 + f.N + 1) x' (mu f j D T tag f0) ∧ InvM P f w₀ Post Anch Next x' m₁ (t ++ ops) := by
  obtain ⟨g₁, hg₁, hs⟩ := hcom.wk i hi
  obtain rfl : g = g₁ := by rw [hg] at hg₁; exact Option.some.inj hg₁
  generalize hst : (D i).stage = s at hs
  generalize htr : T (i + 1) = tr at hs
  generalize hfu : (D i).fuel = m at hs
  generalize hde : (D i).deaf = dd at hs
  have hVj := Vc_le (f.q0 + j) D
  have hdk : Deaf t (i + 1) = dd := by rw [hcom.deafW i hi, hde]
  have hW : f.p.Wg < w.heap.size := Nat.lt_of_lt_of_le (o.sb _ o.wg) hcom.b0
  -- a step of the library's bookkeeping: at most the group's block turns
  have bookG : ∀ {g' : Goroutine} {w' : World} {es : Array Event} {s' m' dd' : Nat} {t' : Tr} {st' sm' : Int}, stepG P false g w = .go g' w' es → Aside f.p.Wg w w' → WgAt f.p.ty f.p.Wg w' st' sm' → (∀ e ∈ es, Bk f.p.Wg e) → (i < f.q0 → ∀ e ∈ es, (MemAct.ofEvent e).touch? = none) →
      (∀ jx e, es[jx]? = some e → (MemAct.ofEvent e).touch? = none ∨ 0 < deafBehind dd (es.extract 0 jx)) → WS P f Post (i + 1) (M (i + 1)) s' t' m' dd' g' w' → deafBehind dd es = dd' → s ≤ 6 →
      (∀ tag', (tag' = tag ∨ (tag = .blk ∧ tag' = .w3)) → (mayWake P g = true → g'.status = .running → tag' ≠ .blk) → ConcN.Mode (f.q0 + j) (upd D i ⟨s', m', dd'⟩) tag' st' sm') → (tag = .ret → AcqN f j (t ++ MemOp.ofEvents (i + 1) g.frame.fn g.frame.place es)) →
      ((s' < s ∧ cnt ⟨s', m', dd'⟩ ≤ cnt (D i)) ∨ (s' = s ∧ t' = tr ∧ m' + 1 = m)) →
      ∃ m₁ ops x', runT P (crowd gs w sl) (i + 1) = (.next m₁, ops) ∧ LtM (f.q0 + f.N + 1) x' (mu f j D T tag f0) ∧ InvM P f w₀ Post Anch Next x' m₁ (t ++ ops) := by
    intro g' w' es s' m' dd' t' st' sm' hgo hAs hwg' hbk hold hd hs' hdd h6 hmode' hacq' hlt
    have hl : WgLive f.p.ty f.p.Wg w' := ⟨_, _, hwg'⟩
    have hti : TI f M (t ++ MemOp.ofEvents (i + 1) g.frame.fn g.frame.place es) j w.heap.size := by
      rcases Nat.lt_or_ge i f.q0 with hlt | hge
      · exact hcom.ti.nought o hcom.owns (by omega) fun e he => ⟨hold hlt e he, (bk_low hW (hbk e he)).1⟩
      · exact hcom.ti.book o hcom.owns (.inr ⟨by omega, by omega⟩) hbk hcom.b0
    exact workerStep (M' := M) hP hAr hNr ha hpj hsd hcs hcom hi hg hgo (RelM.of_wg o hcom.owns hAs hl) (fun k _ _ => Rel.of_wg o hcom.owns hAs hl) (fun _ _ => rfl) (fun _ => rfl) hs' (by rw [hAs.size]; exact hti) (by rw [hAs.size]; exact hcom.owns) (norel_Bk hbk) (by rw [hde]; exact hdd)
      (fun hq _ => let ⟨r, hr⟩ := hcom.rel i hq hi (by omega); ⟨r, hr.book hdk _ _ hbk hd⟩) (hcom.base.of_wg hAs) (OutAt.of_wg o hAs hcom.out) ⟨hAs.tape, hAs.os, hAs.output⟩ hwg' hmode' hacq'
      (by rw [hst, hfu, htr]; exact hlt.imp id fun ⟨h1, h2⟩ => ⟨h1, .inr h2⟩)
  have book : f.q0 ≤ i → ∀ {g' : Goroutine} {w' : World} {es : Array Event} {s' m' dd' : Nat} {t' : Tr} {st' sm' : Int}, stepG P false g w = .go g' w' es → Aside f.p.Wg w w' → WgAt f.p.ty f.p.Wg w' st' sm' → (∀ e ∈ es, Bk f.p.Wg e) →
      (∀ jx e, es[jx]? = some e → (MemAct.ofEvent e).touch? = none ∨ 0 < deafBehind dd (es.extract 0 jx)) → WS P f Post (i + 1) (M (i + 1)) s' t' m' dd' g' w' → deafBehind dd es = dd' → s ≤ 6 →
      ConcN.Mode (f.q0 + j) (upd D i ⟨s', m', dd'⟩) tag st' sm' → (tag = .ret → AcqN f j (t ++ MemOp.ofEvents (i + 1) g.frame.fn g.frame.place es)) → ((s' < s ∧ cnt ⟨s', m', dd'⟩ ≤ cnt (D i)) ∨ (s' = s ∧ t' = tr ∧ m' + 1 = m)) →
      ∃ m₁ ops x', runT P (crowd gs w sl) (i + 1) = (.next m₁, ops) ∧ LtM (f.q0 + f.N + 1) x' (mu f j D T tag f0) ∧ InvM P f w₀ Post Anch Next x' m₁ (t ++ ops) :=
    fun hq _ _ _ _ _ _ _ _ _ hgo hAs hwg' hbk hd hs' hdd h6 hmode' hacq' hlt => bookG hgo hAs hwg' hbk (fun h => absurd h (by omega)) hd hs' hdd h6 (fun _ ht _ => hmode'.retag ht) hacq' hlt
  have nr : s ≠ 1 → tag ≠ .ret := fun h => hmode.not_ret hi (by omega)
  cases hs with
  | work hqi h =>
    have hq : f.q0 ≤ i := by omega
    rcases Way.cases (fun _ _ => Rel.refl) h with ⟨rfl, hstop⟩ | ⟨_, t', g', w', es, c', hsub, hgo, hD, h'⟩
    · obtain ⟨hpost, bk, v, hbk, hR⟩ := hstop w Rel.refl
      obtain ⟨_, hhas, g', hgo, m₂, hk⟩ := hR
      have hti : TI f M (t ++ MemOp.ofEvents (i + 1) g.frame.fn g.frame.place #[mk (.releaseMerge (stA f.p.Wg))]) j w.heap.size :=
        hcom.ti.nought o hcom.owns (by omega) fun e he => by simp at he; subst he; exact ⟨rfl, hW⟩
      exact workerStep (M' := M) (t' := .stop) hP hAr hNr ha hpj hsd hcs hcom hi hg hgo (RelM.refl _ w) (fun _ _ _ => Rel.refl) (fun _ _ => rfl) (fun _ => rfl) (.rest (s := 6) hqi (by omega) (by omega) rfl hbk hpost hk) hti hcom.owns
        (by intro e he; simp at he; subst he; simp [mk]) (by rw [hde]; rfl) (fun _ _ => ⟨t.size, RelBy.new hdk _ _⟩) hcom.base hcom.out (Kin.refl _) hwg (fun _ ht _ => (hmode.counted hi (by omega) (.inl rfl) _ _).retag ht) (fun e => absurd e (nr (by omega))) (.inl ⟨by omega, by simp [cnt, hst]⟩)
    · have hO' := hcom.owns.grow hcom.b0 hD.size (i + 1)
      have ec : c' = upd M (i + 1) (fun b => M (i + 1) b ∨ (w.heap.size ≤ b ∧ b < w'.heap.size)) (i + 1) := by rw [upd_same]; exact hD.own
      have hev : ∀ e ∈ es, EvG f.p (f.part (i + 1)) (upd M (i + 1) (fun b => M (i + 1) b ∨ (w.heap.size ≤ b ∧ b < w'.heap.size)) (i + 1)) e := by rw [← ec]; exact hD.ev
      have hW0 : f.p.Wg < f.B0 := o.sb _ o.wg
      have hti := TI.worker (t := t) (j := j) (sz := w.heap.size) o hO' (hcom.ti.refam (fun k b _ _ hb => by
          by_cases e : k = i + 1
          · subst e; rw [upd_same]; exact .inl hb
          · rw [upd_ne M _ e]; exact hb) (fun k b _ _ hb => by
          by_cases e : k = i + 1
          · subst e; rw [upd_same] at hb; exact hb.imp id (·.1)
          · rw [upd_ne M _ e] at hb; exact .inl hb)) hD.size (k := i + 1) (by omega) (by omega) (fn := g.frame.fn) (pos := g.frame.place) hev hcom.b0
      have hevl : ∀ e ∈ es, (∀ m, e.loc = .mark m → idleMark m = true) := by
        intro e he m hm
        rcases hev e he with ⟨a, wr, rfl, _⟩ | ⟨m', rfl, hm'⟩
        · cases hm
        · cases hm; exact hm'
      refine workerStep (M' := upd M (i + 1) _) hP hAr hNr ha hpj hsd hcs hcom hi hg hgo (RelM.of_gua o hcom.owns hcom.b0 (by omega) hD) (fun k _ hk => Rel.of_gua o hcom.owns hcom.b0 (Ne.symm hk) hD) (fun k hk => upd_ne M _ hk) (fun h => absurd h (by omega)) (.work hqi (ec ▸ h')) hti hO'
        (fun e he ad hl => by have := hevl e he _ hl; simp [idleMark] at this) (by rw [hde]; exact deafBehind_idle (fun e he => ⟨fun hl => by have := hevl e he _ hl; simp [idleMark] at this, fun hl => by have := hevl e he _ hl; simp [idleMark] at this⟩) 0)
        (fun _ h => absurd h (by omega)) (hcom.base.of_gua hcom.owns hcom.b0 hD) (hD.out hcom.out) ⟨hD.tape, hD.os, hD.output⟩ (hwg.of_block (hD.old _ hW (fun x => by have := hcom.owns.high _ _ x; omega) (fun e => o.csb (e ▸ o.wg))))
        (fun _ ht _ => ConcN.Mode.retag (by have := hmode.same (i := i) 0 0; rwa [hst] at this) ht) (fun e => absurd e (nr (by omega))) (.inr ⟨hst.symm, .inl (by rw [htr]; exact hsub)⟩)
  | rest hqi h2 h6 hdd hbk hpost h =>
    rename_i bk
    have hq : f.q0 ≤ i := by omega
    rcases Goes.cases h with hstop | ⟨m', rfl, hstep⟩
    · have hst' := hstop w (RW.refl w)
      have hpw : ∀ {w' : World} {st' sm' : Int}, Aside f.p.Wg w w' → WgAt f.p.ty f.p.Wg w' st' sm' → Post (i + 1) (M (i + 1)) w' := fun hAs hwg' => hP _ _ _ _ (Rel.of_wg o hcom.owns hAs ⟨_, _, hwg'⟩) hpost
      obtain rfl | rfl | rfl | rfl | rfl : s = 6 ∨ s = 5 ∨ s = 4 ∨ s = 3 ∨ s = 2 := by omega
      · -- 'disable'
        obtain rfl : dd = 0 := hdd
        obtain ⟨_, g', hgo, m₂, hk⟩ := hst'
        exact book hq (t' := .stop) hgo (.refl f.p.Wg w) hwg (by intro e he; simp at he; subst he; exact .inl rfl) (by intro jx e he; exact .inl (by have := Array.mem_of_getElem? he; simp at this; subst this; rfl)) (.rest (s := 5) hqi (by omega) (by omega) rfl hbk hpost hk) rfl (by omega)
          (hmode.counted hi (by omega) (.inr rfl) _ _) (fun e => absurd e (nr (by omega))) (.inl ⟨by omega, by simp [cnt, hst]⟩)
      · -- the atomic add
        obtain rfl : dd = 1 := hdd
        obtain ⟨_, hall⟩ := hst'
        have hc1 : cnt (D i) = 1 := by simp [cnt, hst]
        have hV1 : 1 ≤ Vc (f.q0 + j) D := by have := le_sumTo (f := fun x => cnt (D x)) hi; simp only [Vc]; omega
        have bk2 : ∀ e ∈ #[rd (stA f.p.Wg), wr (stA f.p.Wg)], Bk f.p.Wg e := by intro e he; simp at he; rcases he with rfl | rfl <;> exact bk_cell _ _ rfl
        have df2 : ∀ jx e, (#[rd (stA f.p.Wg), wr (stA f.p.Wg)] : Array Event)[jx]? = some e → (MemAct.ofEvent e).touch? = none ∨ 0 < deafBehind 1 ((#[rd (stA f.p.Wg), wr (stA f.p.Wg)] : Array Event).extract 0 jx) := by
          intro jx e he
          match jx, he with
          | 0, _ => exact .inr (by simp [deafBehind])
          | 1, _ => exact .inr (by simp [deafBehind, rd])
          | jx + 2, he => simp at he
        have hq0 : ∀ q, cnt (⟨1, q, 1⟩ : WD) = 0 := fun _ => rfl
        have opq : ∀ q, OpenSt (f.q0 + j) D → OpenSt (f.q0 + j) (upd D i ⟨1, q, 1⟩) := fun q h a ha => by
          by_cases e : a = i
          · subst e; rw [upd_same]; simp
          · rw [upd_ne D _ e]; exact h a ha
        cases hmode with
        | opn h1 h2 h3 =>
          obtain ⟨v, hv⟩ : ∃ v, Vc (f.q0 + j) D + pend tag = v + 1 := ⟨Vc (f.q0 + j) D + pend tag - 1, by omega⟩
          rw [hv] at hwg
          have hw1 : WgAt f.p.ty f.p.Wg w (((v : Nat) + 1) * KK + ((0 : Nat) : Int)) 0 := by simpa using hwg
          obtain ⟨g', hgo, _, hqq⟩ := hall v 0 (by omega) (by omega) hw1
          obtain ⟨q, hqq⟩ := hqq (by omega)
          have hv' : Vc (f.q0 + j) (upd D i ⟨1, q, 1⟩) + pend tag = v := by have := Vc_upd D (⟨1, q, 1⟩ : WD) hi; have := hq0 q; omega
          have hwg' := hwg.setSt ((v : Int) * KK + ((0 : Nat) : Int))
          refine book hq (t' := .stop) hgo (aside_setCell w (stA f.p.Wg) _) hwg' bk2 df2 (.quit (fun _ => hpw (aside_setCell w (stA f.p.Wg) _) hwg') hqq) rfl (by omega) ?_ (fun e => absurd e (nr (by omega))) (.inl ⟨by omega, by simp [cnt]⟩)
          have e : ((v : Nat) : Int) * KK + ((0 : Nat) : Int) = ((Vc (f.q0 + j) (upd D i ⟨1, q, 1⟩) + pend tag : Nat) : Int) * KK := by rw [hv']; simp
          rw [e]
          exact .opn h1 (opq q h2) (fun vs ev => by have := h3 vs ev; omega)
        | reg h1 h2 h3 =>
          obtain ⟨v, hv⟩ : ∃ v, Vc (f.q0 + j) D = v + 1 := ⟨Vc (f.q0 + j) D - 1, by omega⟩
          rw [hv] at hwg
          have hp : pend tag = 0 := by cases tag <;> first | rfl | exact h1.elim
          have hw1 : WgAt f.p.ty f.p.Wg w (((v : Nat) + 1) * KK + ((1 : Nat) : Int)) 0 := by simpa using hwg
          obtain ⟨g', hgo, hl, hqq⟩ := hall v 1 (by omega) (by omega) hw1
          have hwg' := hwg.setSt ((v : Int) * KK + ((1 : Nat) : Int))
          by_cases hv0 : v = 0
          · subst hv0
            obtain ⟨m₂, hk⟩ := hl ⟨rfl, rfl⟩
            refine book hq (t' := .stop) hgo (aside_setCell w (stA f.p.Wg) _) hwg' bk2 df2 (.rest (s := 4) hqi (by omega) (by omega) rfl hbk (hpw (aside_setCell w (stA f.p.Wg) _) hwg') hk) rfl (by omega) ?_ (fun e => absurd e (nr (by omega))) (.inl ⟨by omega, by simp [cnt]⟩)
            have hoth : ∀ a, a < f.q0 + j → a ≠ i → (D a).stage = 1 := fun a ha e => by
              have c0 := others_uncounted hi hv hc1 a ha e
              have := h2 a ha
              simp only [cnt] at c0
              split at c0 <;> omega
            have := ConcN.Mode.last (j := f.q0 + j) (D := upd D i ⟨4, m₂, 1⟩) (tag := tag) i h1 hi (by rw [upd_same]; simp) (fun a ha e => by rw [upd_ne D _ e]; exact hoth a ha e)
            rw [upd_same] at this
            simpa using this
          · obtain ⟨q, hqq⟩ := hqq (by omega)
            have hv' : Vc (f.q0 + j) (upd D i ⟨1, q, 1⟩) = v := by have := Vc_upd D (⟨1, q, 1⟩ : WD) hi; have := hq0 q; omega
            refine book hq (t' := .stop) hgo (aside_setCell w (stA f.p.Wg) _) hwg' bk2 df2 (.quit (fun _ => hpw (aside_setCell w (stA f.p.Wg) _) hwg') hqq) rfl (by omega) ?_ (fun e => absurd e (nr (by omega))) (.inl ⟨by omega, by simp [cnt]⟩)
            have e : ((v : Nat) : Int) * KK + ((1 : Nat) : Int) = ((Vc (f.q0 + j) (upd D i ⟨1, q, 1⟩) : Nat) : Int) * KK + 1 := by rw [hv']; simp
            rw [e]
            exact .reg h1 (opq q h2) (by omega)
        | last L _ h2 h3 h4 =>
          by_cases e : i = L
          · subst e; omega
          · have := h4 i hi e; omega
        | sema h2 => have := h2 i hi; omega
        | fin _ h2 => have := h2 i hi; omega
      · obtain rfl : dd = 1 := hdd
        obtain ⟨_, hx⟩ := hst'
        obtain ⟨hW3, hoth, rfl, rfl⟩ := hmode.isLast hi (by omega)
        simp only [hst] at hwg
        obtain ⟨g', hgo, m₂, hk⟩ := hx (by simpa using hwg)
        refine book hq (t' := .stop) hgo (.refl f.p.Wg w) hwg (by intro e he; simp at he; subst he; exact bk_cell _ _ rfl) (by intro jx e he; match jx, he with | 0, _ => exact .inr (by simp [deafBehind]) | jx + 1, he => simp at he) (.rest (s := 3) hqi (by omega) (by omega) rfl hbk hpost hk) rfl (by omega) ?_ (fun e => absurd e (nr (by omega))) (.inl ⟨by omega, by simp [cnt]⟩)
        have := ConcN.Mode.last (j := f.q0 + j) (D := upd D i ⟨3, m₂, 1⟩) (tag := tag) i hW3 hi (by rw [upd_same]; simp) (fun a ha e => by rw [upd_ne D _ e]; exact hoth a ha e)
        rw [upd_same] at this
        simpa using this
      · obtain rfl : dd = 1 := hdd
        obtain ⟨_, hx⟩ := hst'
        obtain ⟨hW3, hoth, rfl, rfl⟩ := hmode.isLast hi (by omega)
        simp only [hst] at hwg
        obtain ⟨g', hgo, m₂, hk⟩ := hx (by simpa using hwg)
        have hwg' := hwg.setSt 0
        refine book hq (t' := .stop) hgo (aside_setCell w (stA f.p.Wg) _) hwg' (by intro e he; simp at he; subst he; exact bk_cell _ _ rfl) (by intro jx e he; match jx, he with | 0, _ => exact .inr (by simp [deafBehind]) | jx + 1, he => simp at he) (.rest (s := 2) hqi (by omega) (by omega) rfl hbk (hpw (aside_setCell w (stA f.p.Wg) _) hwg') hk) rfl (by omega) ?_ (fun e => absurd e (nr (by omega))) (.inl ⟨by omega, by simp [cnt]⟩)
        have := ConcN.Mode.last (j := f.q0 + j) (D := upd D i ⟨2, m₂, 1⟩) (tag := tag) i hW3 hi (by rw [upd_same]; simp) (fun a ha e => by rw [upd_ne D _ e]; exact hoth a ha e)
        rw [upd_same] at this
        simpa using this
      · obtain rfl : dd = 1 := hdd
        obtain ⟨_, hmw, hx⟩ := hst'
        obtain ⟨hW3, hoth, rfl, rfl⟩ := hmode.isLast hi (by omega)
        simp only [hst] at hwg
        obtain ⟨g', hgo, q, hqq⟩ := hx (by simpa using hwg)
        have hrun' : g'.status = .running := by
          cases q with
          | zero => exact absurd hqq.2 (by decide)
          | succ q => exact hqq.elim (fun x => absurd x.2 (by decide)) (fun x => x.1)
        have hwg' := hwg.setSm 1
        refine bookG (t' := .stop) hgo (aside_setCell w (smA f.p.Wg) _) hwg' (es := semEvents (smA f.p.Wg)) ?_ (fun h => absurd h (by omega)) ?_ (.quit (fun _ => hpw (aside_setCell w (smA f.p.Wg) _) hwg') hqq) (by simp [deafBehind, semEvents]) (by omega) ?_ (fun e => absurd e (nr (by omega))) (.inl ⟨by omega, by simp [cnt]⟩)
        · intro e he
          simp [semEvents] at he
          rcases he with rfl | rfl | rfl | rfl
          · exact .inl rfl
          · exact bk_cell _ _ rfl
          · exact bk_cell _ _ rfl
          · exact .inr (.inl rfl)
        · intro jx e he
          match jx, he with
          | 0, he => simp [semEvents] at he; subst he; exact .inl rfl
          | 1, _ => exact .inr (by simp [deafBehind, semEvents])
          | 2, _ => exact .inr (by simp [deafBehind, semEvents])
          | 3, he => simp [semEvents] at he; subst he; exact .inl rfl
          | jx + 4, he => simp [semEvents] at he
        · intro tag' ht hw
          have hnb := hw hmw hrun'
          have e3 : tag' = .w3 := by
            rcases ht with rfl | ⟨_, rfl⟩
            · cases tag' <;> first | rfl | exact hW3.elim | exact absurd rfl hnb
            · rfl
          subst e3
          simp only [if_true]
          exact .sema fun a ha => by
            by_cases e : a = i
            · subst e; rw [upd_same]
            · rw [upd_ne D _ e]; exact hoth a ha e
    · obtain ⟨g', w', es, hgo, ⟨rfl, rfl⟩, hg'⟩ := hstep w (RW.refl w)
      exact book hq hgo (.refl f.p.Wg _) hwg (by simp) (by simp) (.rest hqi h2 h6 hdd hbk hpost hg') rfl h6 (by have := hmode.same (i := i) m' dd; rwa [hst] at this) (fun e => absurd e (nr (by omega))) (.inr ⟨rfl, rfl, rfl⟩)
  | quit hp h =>
    cases m with
    | zero => rw [h.1] at hrun; cases hrun
    | succ q =>
      rcases h with ⟨hf, _⟩ | ⟨_, g', es, hmute, hstep, hqq⟩
      · rw [hf] at hrun; cases hrun
      · have hbk : ∀ e ∈ es, Bk f.p.Wg e := fun e he => bk_of_mute (hmute e he)
        have hno : ∀ e ∈ es, (MemAct.ofEvent e).touch? = none := fun e he => by
          rcases bk_of_mute (Wg := f.p.Wg) (hmute e he) with h1 | h1 | ⟨a, wr, rfl, _⟩
          · rw [ofEvent_loc_mark h1]; rfl
          · rw [ofEvent_loc_mark h1]; rfl
          · have := hmute _ he; simp [Event.mute] at this
        have hnj : ∀ jx e, es[jx]? = some e → (MemAct.ofEvent e).touch? = none ∨ 0 < deafBehind dd (es.extract 0 jx) := fun jx e he => .inl (hno e (Array.mem_of_getElem? he))
        refine bookG (hstep w) (.refl f.p.Wg w) hwg hbk (fun _ => hno) hnj (.quit hp hqq) rfl (by omega) (fun _ ht _ => ConcN.Mode.retag (by have := hmode.same (i := i) q (deafBehind dd es); rwa [hst] at this) ht) (fun e => (hacq e).app fun i' r hi' hj' hr => ?_) (.inr ⟨rfl, rfl, rfl⟩)
        by_cases e' : i' = i
        · subst e'; exact hr.book hdk _ _ hbk hnj
        · exact hr.appOther g_of_ofEvents (by omega)
end
end
end Go.Proofs.Ytmhbjmkdekgmlaa.Sim
