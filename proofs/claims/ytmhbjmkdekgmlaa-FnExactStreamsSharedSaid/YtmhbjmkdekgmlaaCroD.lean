/-
  A crew whose workers make memory, and its starter: a step of the starter keeps the invariant and lowers the measure; so the machine comes, on every tape, to where the starter has waited for all.
  Conditions: the plan's blocks lie apart; what a worker leaves behind stands under its rely; few workers; behind Wait's loop head stands its load.
-/
import Derived.Test.YtmhbjmkdekgmlaaCroC
set_option linter.unusedSimpArgs false
set_option linter.unusedVariables false
namespace Go.Proofs.Ytmhbjmkdekgmlaa.Sim
open Go Go.Conc Go.ConcN
open Go.ConcR (KK wgBlock WgAt stA smA rd wr mk Payload Aside2 DC0 Bk g_of_ofEvents bk_of_mute ofEvent_loc_mark ofEvent_mk deafBehind_cons deafBehind_one)

section
variable [Payload] {P : Program} {f : Plan} {w₀ : World} {Post : Nat → (Nat → Prop) → World → Prop} {Anch Next : (Nat → Prop) → Goroutine → World → Prop}
  {gs : Array Goroutine} {w w' : World} {sl : Option (Nat × Nat)} {j : Nat} {D : Nat → WD} {T : Nat → Tr} {M M' : Nat → Nat → Prop} {tag tag' : CTag} {f0 f' d0 : Nat} {a a' : Goroutine} {t : Trace} {st sm st' sm' : Int} {es : Array Event} {t' : Tr}

/-- Whatever step of the starter's that is no go statement. -/
theorem callerStep (hP : PostOk f Post) (ha : gs[0]? = some a) (hcom : Com P f w₀ Post j gs w t D T M d0)
    (hgo : stepG P true a w = .go a' w' es) (hRel : ∀ k, k ≠ 0 → Rel f.p (f.part k) (M k) w w') (hM : ∀ k, k ≠ 0 → M' k = M k) (hsz : w.heap.size ≤ w'.heap.size)
    (hti : TI f M' (t ++ MemOp.ofEvents 0 a.frame.fn a.frame.place es) j w'.heap.size) (hO : Owns f M' w'.heap.size)
    (hnr : ∀ e ∈ es, ∀ ad, e.loc ≠ .mark (.release ad)) (hbase : Base f w₀ w') (hout : OutAt f.p w') (hsm : Kin w w')
    (hpj' : j + pend tag' ≤ f.N) (hsd' : sideC f tag' j (deafBehind d0 es)) (hcs' : CS P f w₀ Post Anch Next tag' t' f' (M' 0) a' w') (hwg : WgAt f.p.ty f.p.Wg w' st' sm') (hmode : ConcN.Mode (f.q0 + j) D tag' st' sm')
    (hacq : tag' = .ret → AcqN f j (t ++ MemOp.ofEvents 0 a.frame.fn a.frame.place es))
    (hlt : phi (f.q0 + f.N) (Vc (f.q0 + j) D) tag' < phi (f.q0 + f.N) (Vc (f.q0 + j) D) tag ∨ (phi (f.q0 + f.N) (Vc (f.q0 + j) D) tag' = phi (f.q0 + f.N) (Vc (f.q0 + j) D) tag ∧ (Tr.Sub t' (T 0) ∨ (t' = T 0 ∧ f' < f0)))) :
    ∃ m₁ ops x', runT P (crowd gs w sl) 0 = (.next m₁, ops) ∧ LtM (f.q0 + f.N + 1) x' (mu f j D T tag f0) ∧ InvM P f w₀ Post Anch Next x' m₁ (t ++ ops) := by
  have hrun := runT_crowd_go (P := P) (sl := sl) (i := 0) ha (by simpa using hgo)
  have hcom' : Com P f w₀ Post j ((gs.map (woken P a a' w')).setIfInBounds 0 a') w' (t ++ MemOp.ofEvents 0 a.frame.fn a.frame.place es) D (upd T 0 t') M' (deafBehind d0 es) := by
    refine ⟨by simp [hcom.size], fun i hi => ?_, hti, hO, fun k b hk0 hk => by rw [hM k hk0]; exact hcom.idle k b hk0 hk, fun ad => (hcom.norel ad).app (norel_all hnr ad), by rw [Deaf_own, hcom.deaf0], fun i hi => by rw [Deaf_other t (g' := 0) (by omega) _ g_of_ofEvents, hcom.deafW i hi], fun i hq hi hst => ?_, hbase, hout, Nat.le_trans hcom.b0 hsz, hcom.same.trans hsm⟩
    · obtain ⟨x, hx, hsx⟩ := hcom.wk i hi
      refine ⟨x, by rw [get_map_set _ _ _ _ (by omega), hx, Option.map_some, hsx.woken], ?_⟩
      rw [upd_ne T _ (by omega), hM _ (by omega)]
      exact hsx.rely hP fun _ => hRel _ (by omega)
    · obtain ⟨r, hr⟩ := hcom.rel i hq hi hst
      exact ⟨r, hr.appOther g_of_ofEvents (by omega)⟩
  refine ⟨_, _, mu f j D (upd T 0 t') tag' f', hrun, ?_, _, w', sl, j, D, upd T 0 t', M', tag', f', deafBehind d0 es, a', st', sm', rfl, get_map_set_same _ _ _ (by rw [hcom.size]; omega), hpj', hsd', by rw [upd_same]; exact hcs', hcom', hwg, hmode, hacq, rfl⟩
  simp only [mu]
  rcases hlt with h | ⟨h1, h2 | ⟨h2, h3⟩⟩
  · exact Prod.Lex.left _ _ (by omega)
  · rw [h1]; exact Prod.Lex.right _ (Prod.Lex.left _ _ ⟨0, t', by omega, h2, rfl⟩)
  · have et : upd T 0 t' = T := by
      funext b
      by_cases e : b = 0
      · subst e; rw [upd_same, h2]
      · rw [upd_ne T _ e]
    rw [h1, et]
    exact Prod.Lex.right _ (Prod.Lex.right _ (by omega))

/-- Between two stops. -/
theorem idleM (o : f.Ok) (hP : PostOk f Post) (ha : gs[0]? = some a) (hpj : j + pend tag ≤ f.N) (hsd : sideC f tag j d0) (hcom : Com P f w₀ Post j gs w t D T M d0) (hwg : WgAt f.p.ty f.p.Wg w st sm) (hmode : ConcN.Mode (f.q0 + j) D tag st sm) (hacq : tag = .ret → AcqN f j t)
    {c' : Nat → Prop} (hgo : stepG P true a w = .go a' w' es) (hD : DM f (M 0) w w' es c') (hb : tag ≠ .blk) (hW : Way P true (RM f) (DM f) (StopC P f w₀ Post Anch Next tag) t' c' a' w') (hs : Tr.Sub t' (T 0)) :
    ∃ m₁ ops x', runT P (crowd gs w sl) 0 = (.next m₁, ops) ∧ LtM (f.q0 + f.N + 1) x' (mu f j D T tag f0) ∧ InvM P f w₀ Post Anch Next x' m₁ (t ++ ops) := by
  have hO' := hcom.owns.grow hcom.b0 hD.size 0
  have ec : c' = upd M 0 (fun b => M 0 b ∨ (w.heap.size ≤ b ∧ b < w'.heap.size)) 0 := by rw [upd_same]; exact hD.own
  have hev : ∀ e ∈ es, EvC f.p.Wg (upd M 0 (fun b => M 0 b ∨ (w.heap.size ≤ b ∧ b < w'.heap.size)) 0) e := by rw [← ec]; exact hD.ev
  have hW0 : f.p.Wg < w.heap.size := Nat.lt_of_lt_of_le (o.sb _ o.wg) hcom.b0
  have hti := TI.starter (t := t) (j := j) (sz := w.heap.size) o hO' (hcom.ti.refam (fun k b hk _ hb => by rw [upd_ne M _ (by omega)]; exact hb) (fun k b hk _ hb => by rw [upd_ne M _ (by omega)] at hb; exact .inl hb)) hD.size (fn := a.frame.fn) (pos := a.frame.place) hev hcom.b0
  have hevl : ∀ e ∈ es, (∀ m, e.loc = .mark m → m ≠ .disable ∧ m ≠ .enable ∧ ∀ ad, m ≠ .release ad) := by
    intro e he m hm
    rcases hev e he with ⟨a, wr, rfl, _⟩ | ⟨m', rfl, hm'⟩ | ⟨ad, _, rfl | rfl⟩
    · cases hm
    · cases hm
      refine ⟨?_, ?_, fun ad => ?_⟩ <;> rintro rfl <;> simp [idleMark] at hm'
    · simp only [mk, Loc.mark.injEq] at hm; subst hm; simp
    · simp only [mk, Loc.mark.injEq] at hm; subst hm; simp
  have hdf : deafBehind d0 es = d0 := deafBehind_idle (fun e he => ⟨fun hl => (hevl e he _ hl).1 rfl, fun hl => (hevl e he _ hl).2.1 rfl⟩) d0
  exact callerStep (M' := upd M 0 _) (f' := f0 + 1) hP ha hcom hgo (fun k hk => Rel.of_main o hcom.owns hcom.b0 hk hD) (fun k hk => upd_ne M _ hk) hD.size hti hO' (fun e he ad hl => (hevl e he _ hl).2.2 ad rfl) (hcom.base.of_main hcom.owns hcom.b0 hD) (OutAt.of_main o hcom.owns hcom.b0 hD hcom.out) hD.same
    hpj (by rw [hdf]; exact hsd) (.way hb (ec ▸ hW) (fun _ => by omega)) (hwg.of_block (hD.old _ hW0 (fun x => by have := hcom.owns.high _ _ x; have := o.sb _ o.wg; omega))) hmode
    (fun e => (hacq e).app fun i r _ _ hr => hr.appOther g_of_ofEvents (by omega)) (.inr ⟨rfl, .inl hs⟩)

/-- The library's bookkeeping, by the starter: at most the group's block turns. -/
theorem bookM (o : f.Ok) (hP : PostOk f Post) (ha : gs[0]? = some a) (hcom : Com P f w₀ Post j gs w t D T M d0)
    (hgo : stepG P true a w = .go a' w' es) (hAs : Aside f.p.Wg w w') (hwg' : WgAt f.p.ty f.p.Wg w' st' sm') (hbk : ∀ e ∈ es, Bk f.p.Wg e) (hpj' : j + pend tag' ≤ f.N) (hsd' : sideC f tag' j (deafBehind d0 es)) (hcs' : CS P f w₀ Post Anch Next tag' t' f' (M 0) a' w')
    (hmode' : ConcN.Mode (f.q0 + j) D tag' st' sm') (hne : tag' ≠ .ret) (hlt : phi (f.q0 + f.N) (Vc (f.q0 + j) D) tag' < phi (f.q0 + f.N) (Vc (f.q0 + j) D) tag ∨ (phi (f.q0 + f.N) (Vc (f.q0 + j) D) tag' = phi (f.q0 + f.N) (Vc (f.q0 + j) D) tag ∧ (t' = T 0 ∧ f' < f0))) :
    ∃ m₁ ops x', runT P (crowd gs w sl) 0 = (.next m₁, ops) ∧ LtM (f.q0 + f.N + 1) x' (mu f j D T tag f0) ∧ InvM P f w₀ Post Anch Next x' m₁ (t ++ ops) := by
  have hl : WgLive f.p.ty f.p.Wg w' := ⟨_, _, hwg'⟩
  exact callerStep (M' := M) hP ha hcom hgo (fun k _ => Rel.of_wg o hcom.owns hAs hl) (fun _ _ => rfl) (Nat.le_of_eq hAs.size.symm) (by rw [hAs.size]; exact hcom.ti.book o hcom.owns (.inl rfl) hbk hcom.b0) (by rw [hAs.size]; exact hcom.owns) (norel_Bk hbk) (hcom.base.of_wg hAs) (OutAt.of_wg o hAs hcom.out) ⟨hAs.tape, hAs.os, hAs.output⟩
    hpj' hsd' hcs' hwg' hmode' (fun e => absurd e hne) (hlt.imp id fun ⟨h1, h2⟩ => ⟨h1, .inr h2⟩)

theorem CS.of {tag : CTag} {c : Nat → Prop} {a : Goroutine} {w : World} (hb : tag ≠ .blk) (h : Wy (RM f) (DM f) P (StopC P f w₀ Post Anch Next tag) c a w) : ∃ t, CS P f w₀ Post Anch Next tag t 1 c a w :=
  let ⟨t, h⟩ := h; ⟨t, .way hb h (fun _ => Nat.le_refl _)⟩

/-- THE LOAD IN Wait. -/
theorem w1M (o : f.Ok) (hn : f.q0 + f.N < 2147483648) (hP : PostOk f Post) (ha : gs[0]? = some a) (hcom : Com P f w₀ Post f.N gs w t D T M 1) (hwg : WgAt f.p.ty f.p.Wg w st sm) (hmode : ConcN.Mode (f.q0 + f.N) D .w1 st sm)
    (hstop : AtW1 (RM f) (DM f) P f.p.ty f.p.Wg Anch Next (M 0) a w) :
    ∃ m₁ ops x', runT P (crowd gs w sl) 0 = (.next m₁, ops) ∧ LtM (f.q0 + f.N + 1) x' (mu f f.N D T .w1 f0) ∧ InvM P f w₀ Post Anch Next x' m₁ (t ++ ops) := by
  obtain ⟨_, hall⟩ := hstop
  obtain ⟨ho, rfl, rfl, _⟩ := hmode.open_inv trivial
  have hV := Vc_le (f.q0 + f.N) D
  obtain ⟨a', hgo, h0, hne⟩ := hall (Vc (f.q0 + f.N) D) (by omega) (by simpa [pend] using hwg)
  by_cases hv : Vc (f.q0 + f.N) D = 0
  · obtain ⟨t', hk⟩ := CS.of (tag := .ke) (by simp) (h0 hv)
    refine bookM o hP ha hcom hgo (.refl f.p.Wg w) hwg bk_rd (tag' := .ke) (by simp [pend]) ⟨rfl, rfl⟩ hk ?_ (by simp) (.inl (by simp only [phi]; omega))
    have e : ((Vc (f.q0 + f.N) D + pend .w1 : Nat) : Int) * KK = 0 := by rw [hv]; simp [pend]
    rw [e]
    exact .fin trivial (allQuit_of ho hv)
  · obtain ⟨t', hk⟩ := CS.of (tag := .w2 (Vc (f.q0 + f.N) D)) (by simp) (hne hv)
    exact bookM o hP ha hcom hgo (.refl f.p.Wg w) hwg bk_rd (tag' := .w2 (Vc (f.q0 + f.N) D)) (by simp [pend]) ⟨rfl, rfl⟩ hk (hmode.reopen trivial trivial rfl (fun vs e => by cases e; omega)) (by simp) (.inl (by simp only [phi]; omega))

/-- THE go STATEMENT. -/
theorem Com.spawn (o : f.Ok) (h : Com P f w₀ Post j gs w t D T M 0) (hj : j < f.N) {a' child : Goroutine} {tr : Tr} {x y : MemOp} (hx : x.g = 0 ∧ x.act = .go (f.q0 + (j + 1))) (hy : y.g = f.q0 + (j + 1) ∧ y.act = .start)
    (hc : Work P f Post (f.q0 + (j + 1)) tr (M 0) child w) {t0 : Tr} :
    Com P f w₀ Post (j + 1) ((gs.setIfInBounds 0 a').push child) w (t ++ #[x, y]) (upd D (f.q0 + j) ⟨7, 0, 0⟩) (upd (upd T (f.q0 + j + 1) tr) 0 t0) (upd (upd M (f.q0 + j + 1) (M 0)) 0 fun _ => False) 0 := by
  have hO : Owns f (upd (upd M (f.q0 + j + 1) (M 0)) 0 fun _ => False) w.heap.size := by
    have cas : ∀ k b, upd (upd M (f.q0 + j + 1) (M 0)) 0 (fun _ => False) k b → (k ≠ f.q0 + j + 1 ∧ k ≠ 0 ∧ M k b) ∨ (k = f.q0 + j + 1 ∧ M 0 b) := by
      intro k b hb
      by_cases e0 : k = 0
      · subst e0; rw [upd_same] at hb; exact hb.elim
      · rw [upd_ne _ _ e0] at hb
        by_cases e : k = f.q0 + j + 1
        · subst e; rw [upd_same] at hb; exact .inr ⟨rfl, hb⟩
        · rw [upd_ne _ _ e] at hb; exact .inl ⟨e, e0, hb⟩
    refine ⟨fun k k' b hk hk' => ?_, fun k b hk => ?_, fun k b hk => ?_⟩
    · rcases cas _ _ hk with ⟨h1, h1', h1''⟩ | ⟨h1, h1'⟩ <;> rcases cas _ _ hk' with ⟨h2, h2', h2''⟩ | ⟨h2, h2'⟩
      · exact h.owns.one _ _ _ h1'' h2''
      · exact absurd (h.owns.one _ _ _ h1'' h2') h1'
      · exact absurd (h.owns.one _ _ _ h2'' h1') h2'
      · omega
    · rcases cas _ _ hk with ⟨_, _, h1⟩ | ⟨_, h1⟩ <;> exact h.owns.high _ _ h1
    · rcases cas _ _ hk with ⟨_, _, h1⟩ | ⟨_, h1⟩ <;> exact h.owns.low _ _ h1
  have hti : TI f (upd (upd M (f.q0 + j + 1) (M 0)) 0 fun _ => False) t j w.heap.size := h.ti.refam (fun k b hk hj hb => by rw [upd_ne _ _ (by omega), upd_ne _ _ (by omega)]; exact hb) (fun k b hk hj hb => by rw [upd_ne _ _ (by omega), upd_ne _ _ (by omega)] at hb; exact .inl hb)
  have hm : ∀ op ∈ #[x, y], op = x ∨ op = y := fun op hop => by simpa using hop
  have hst : ∀ op ∈ #[x, y], op.act ≠ .mark .disable ∧ op.act ≠ .mark .enable := by
    intro op hop
    rcases hm op hop with rfl | rfl
    · rw [hx.2]; simp
    · rw [hy.2]; simp
  refine ⟨by simp [h.size]; omega, fun i hi => ?_, hti.fork o hO hx hy h.deaf0, hO, fun k b hk0 hk => ?_, fun ad => (h.norel ad).app fun op hop => ?_, by rw [Deaf_still t 0 _ hst, h.deaf0], fun i hi => ?_, fun i hq hi hs => ?_, h.base, h.out, h.b0, h.same⟩
  · rcases Nat.lt_or_ge i (f.q0 + j) with hlt | hge
    · obtain ⟨g, hg, hsg⟩ := h.wk i hlt
      refine ⟨g, ?_, by rw [upd_ne D _ (by omega), upd_ne _ _ (by omega), upd_ne _ _ (by omega), upd_ne _ _ (by omega), upd_ne _ _ (by omega)]; exact hsg⟩
      rw [Array.getElem?_push_lt (by simp [h.size]; omega), ← Array.getElem?_eq_getElem, Array.getElem?_setIfInBounds_ne (by omega)]
      exact hg
    · obtain rfl : i = f.q0 + j := by omega
      refine ⟨child, ?_, by
        have hne : f.q0 + j + 1 ≠ 0 := by omega
        rw [upd_same D, upd_ne (upd M _ _) _ hne, upd_ne (upd T _ _) _ hne, upd_same, upd_same]; exact .work (by omega) hc⟩
      rw [show f.q0 + j + 1 = (gs.setIfInBounds 0 a').size by simp [h.size], Array.getElem?_push_size]
  · have e : k ≠ f.q0 + j + 1 := by omega
    rw [upd_ne _ _ hk0, upd_ne _ _ e]
    exact h.idle k b hk0 (by omega)
  · rcases hm op hop with rfl | rfl
    · rw [hx.2]; simp
    · rw [hy.2]; simp
  · rw [Deaf_still t _ _ hst]
    rcases Nat.lt_or_ge i (f.q0 + j) with hlt | hge
    · rw [h.deafW i hlt, upd_ne D _ (by omega)]
    · obtain rfl : i = f.q0 + j := by omega
      rw [upd_same]
      exact Deaf_absent fun a op ha e => by have := h.ti.ct.gs a op ha; omega
  · rcases Nat.lt_or_ge i (f.q0 + j) with hlt | hge
    · rw [upd_ne D _ (by omega)] at hs
      obtain ⟨r, hr⟩ := h.rel i hq hlt hs
      refine ⟨r, hr.appNot fun op hop => ?_⟩
      rcases hm op hop with rfl | rfl
      · rw [hx.1]; omega
      · rw [hy.1]; omega
    · obtain rfl : i = f.q0 + j := by omega
      rw [upd_same] at hs
      simp at hs

set_option maxHeartbeats 1600000 in
theorem stepStarter (o : f.Ok) (hn : f.q0 + f.N < 2147483648) (hP : PostOk f Post) (hAn : ∀ c g w, Anch c g w → Wy (RM f) (DM f) P (AtW1 (RM f) (DM f) P f.p.ty f.p.Wg Anch Next) c g w)
    (ha : gs[0]? = some a) (hpj : j + pend tag ≤ f.N) (hsd : sideC f tag j d0) (hcs : CS P f w₀ Post Anch Next tag (T 0) f0 (M 0) a w) (hcom : Com P f w₀ Post j gs w t D T M d0) (hwg : WgAt f.p.ty f.p.Wg w st sm) (hmode : ConcN.Mode (f.q0 + j) D tag st sm)
    (hacq : tag = .ret → AcqN f j t) (hrun : a.status = .running) (hnd : ¬ (tag = .ret ∧ T 0 = .stop)) :
    ∃ m₁ ops x', runT P (crowd gs w sl) 0 = (.next m₁, ops) ∧ LtM (f.q0 + f.N + 1) x' (mu f j D T tag f0) ∧ InvM P f w₀ Post Anch Next x' m₁ (t ++ ops) := by
  have hVj := Vc_le (f.q0 + j) D
  generalize hT0 : T 0 = tr0 at hcs hnd
  cases hcs with
  | blk h => cases hrun
  | way hb h hf0 =>
    rcases h.cases RelM.refl with ⟨hT, hstop⟩ | ⟨_, t', a', w', es, c', hs, hgo, hD, hW⟩
    · have hst := hstop w (RelM.refl _ w)
      cases tag with
      | sp r s =>
        obtain ⟨hr, rfl, hs⟩ := hsd
        have ej : f.N - (r + 1) + 1 = f.N - r := by omega
        rcases hs with ⟨rfl, rfl⟩ | ⟨rfl, rfl⟩ | ⟨rfl, rfl⟩ | ⟨rfl, rfl⟩
        · obtain ⟨_, a', hgo, hk⟩ := hst
          obtain ⟨t', hk⟩ := CS.of (P := P) (w₀ := w₀) (Post := Post) (Anch := Anch) (Next := Next) (tag := .sp r 4) (by simp) hk
          exact bookM (tag' := .sp r 4) o hP ha hcom hgo (.refl f.p.Wg w) hwg bk_dis (by simp [pend]) ⟨hr, rfl, .inr (.inl ⟨rfl, rfl⟩)⟩ hk (hmode.reopen trivial trivial rfl (by simp)) (by simp) (.inl (by simp only [phi]; omega))
        · obtain ⟨_, hall⟩ := hst
          obtain ⟨ho, rfl, rfl, _⟩ := hmode.open_inv trivial
          obtain ⟨a', hgo, hk⟩ := hall (Vc (f.q0 + (f.N - (r + 1))) D) (by omega) (by simpa [pend] using hwg)
          obtain ⟨t', hk⟩ := CS.of (P := P) (w₀ := w₀) (Post := Post) (Anch := Anch) (Next := Next) (tag := .sp r 3) (by simp) hk
          refine bookM (tag' := .sp r 3) o hP ha hcom hgo (aside_setCell w (stA f.p.Wg) _) (hwg.setSt _) bk_rw (by simp [pend]; omega) ⟨hr, rfl, .inr (.inr (.inl ⟨rfl, rfl⟩))⟩ hk ?_ (by simp) (.inl (by simp only [phi]; omega))
          have e : (((Vc (f.q0 + (f.N - (r + 1))) D : Nat) : Int) + 1) * KK = ((Vc (f.q0 + (f.N - (r + 1))) D + pend (.sp r 3) : Nat) : Int) * KK := by simp [pend]
          rw [e]
          exact .opn trivial ho (by simp)
        · obtain ⟨_, a', hgo, hk⟩ := hst
          obtain ⟨t', hk⟩ := CS.of (P := P) (w₀ := w₀) (Post := Post) (Anch := Anch) (Next := Next) (tag := .sp r 2) (by simp) hk
          exact bookM (tag' := .sp r 2) o hP ha hcom hgo (.refl f.p.Wg w) hwg bk_en (by simpa [pend] using hpj) ⟨hr, rfl, .inr (.inr (.inr ⟨rfl, rfl⟩))⟩ hk (hmode.reopen trivial trivial rfl (by simp)) (by simp) (.inl (by simp only [phi]; omega))
        · obtain ⟨_, a', child, hsp, _, hwk, hnext⟩ := hst
          obtain ⟨tr, hwk⟩ := hwk hcom.base hcom.out
          obtain ⟨ho, rfl, rfl, _⟩ := hmode.open_inv trivial
          have hrun' := runT_crowd_spawn (P := P) (sl := sl) (i := 0) ha (by simpa using hsp)
          rw [hcom.size] at hrun'
          have eV : Vc (f.q0 + (f.N - (r + 1)) + 1) (upd D (f.q0 + (f.N - (r + 1))) ⟨7, 0, 0⟩) = Vc (f.q0 + (f.N - (r + 1))) D + 1 := by
            simp only [Vc, sumTo, upd_same]
            rw [sumTo_upd_out D _ cnt (Nat.le_refl _)]; rfl
          have eS : Ssum (f.q0 + (f.N - (r + 1)) + 1) (upd D (f.q0 + (f.N - (r + 1))) ⟨7, 0, 0⟩) = Ssum (f.q0 + (f.N - (r + 1))) D + 7 := by
            simp only [Ssum, sumTo, upd_same]
            rw [sumTo_upd_out D _ WD.stage (Nat.le_refl _)]
          have ho' : OpenSt (f.q0 + (f.N - (r + 1)) + 1) (upd D (f.q0 + (f.N - (r + 1))) ⟨7, 0, 0⟩) := fun i hi => by
            by_cases e : i = f.q0 + (f.N - (r + 1))
            · subst e; rw [upd_same]; simp
            · rw [upd_ne D _ e]; exact ho i (by omega)
          have ha' : ((gs.setIfInBounds 0 a').push child)[0]? = some a' := by
            rw [Array.getElem?_push_lt (by simp [hcom.size]), ← Array.getElem?_eq_getElem]
            simp [hcom.size]
          have ej' : f.q0 + (f.N - (r + 1)) + 1 = f.q0 + (f.N - r) := by omega
          have est : ∀ tag', pend tag' = 0 → ((Vc (f.q0 + (f.N - (r + 1))) D + pend (.sp r 2) : Nat) : Int) * KK = ((Vc (f.q0 + (f.N - r)) (upd D (f.q0 + (f.N - (r + 1))) ⟨7, 0, 0⟩) + pend tag' : Nat) : Int) * KK := fun tag' hp => by rw [← ej', eV, hp]; simp [pend]
          have hcomF : ∀ t0 j', j' = f.N - (r + 1) + 1 → Com P f w₀ Post j' ((gs.setIfInBounds 0 a').push child) w (t ++ #[{ g := 0, fn := a.frame.fn, pos := a.frame.place, act := .go (f.q0 + (f.N - (r + 1) + 1)) }, { g := f.q0 + (f.N - (r + 1) + 1), fn := child.frame.fn, pos := a.frame.place, act := .start }])
              (upd D (f.q0 + (f.N - (r + 1))) ⟨7, 0, 0⟩) (upd (upd T (f.q0 + (f.N - (r + 1)) + 1) tr) 0 t0) (upd (upd M (f.q0 + (f.N - (r + 1)) + 1) (M 0)) 0 fun _ => False) 0 := fun t0 j' e => by
            subst e
            exact hcom.spawn o (by omega) (a' := a') (x := { g := 0, fn := a.frame.fn, pos := a.frame.place, act := .go (f.q0 + (f.N - (r + 1) + 1)) }) (y := { g := f.q0 + (f.N - (r + 1) + 1), fn := child.frame.fn, pos := a.frame.place, act := .start }) ⟨rfl, rfl⟩ ⟨rfl, rfl⟩ hwk (t0 := t0)
          rw [show f.q0 + (f.N - (r + 1)) + 1 = f.q0 + (f.N - (r + 1) + 1) by omega] at hrun'
          have hops : ((MemOp.ofEvents 0 a.frame.fn a.frame.place #[]).push { g := 0, fn := a.frame.fn, pos := a.frame.place, act := .go (f.q0 + (f.N - (r + 1) + 1)) } |>.push { g := f.q0 + (f.N - (r + 1) + 1), fn := child.frame.fn, pos := a.frame.place, act := .start }) =
              #[{ g := 0, fn := a.frame.fn, pos := a.frame.place, act := .go (f.q0 + (f.N - (r + 1) + 1)) }, { g := f.q0 + (f.N - (r + 1) + 1), fn := child.frame.fn, pos := a.frame.place, act := .start }] := by simp [ofEvents_eq]
          rw [hops] at hrun'
          cases r with
          | zero =>
            obtain ⟨t0, hk⟩ := hnext
            have hcom' := hcomF t0 f.N (by omega)
            simp only [Nat.sub_zero] at est ej'
            refine ⟨_, _, mu f f.N (upd D (f.q0 + (f.N - (0 + 1))) ⟨7, 0, 0⟩) (upd (upd T (f.q0 + (f.N - (0 + 1)) + 1) tr) 0 t0) .kd 0, hrun', Prod.Lex.left _ _ ?_,
              _, w, sl, f.N, _, _, _, .kd, 0, 0, a', _, _, rfl, ha', by simp [pend], ⟨rfl, rfl⟩, by rw [upd_same, upd_same]; exact .way (by simp) hk (by simp), hcom', hwg, ?_, by simp, rfl⟩
            · simp only [phi]; rw [ej'] at eV eS; omega
            · rw [est .kd rfl]
              exact .opn trivial (by rw [ej'] at ho'; exact ho') (by simp)
          | succ r' =>
            obtain ⟨t0, hk⟩ := hnext
            have hcom' := hcomF t0 (f.N - (r' + 1)) (by omega)
            refine ⟨_, _, mu f (f.N - (r' + 1)) (upd D (f.q0 + (f.N - (r' + 1 + 1))) ⟨7, 0, 0⟩) (upd (upd T (f.q0 + (f.N - (r' + 1 + 1)) + 1) tr) 0 t0) (.sp r' 5) 0, hrun', Prod.Lex.left _ _ ?_,
              _, w, sl, f.N - (r' + 1), _, _, _, .sp r' 5, 0, 0, a', _, _, rfl, ha', by simp [pend], ⟨by omega, rfl, .inl ⟨rfl, rfl⟩⟩, by rw [upd_same, upd_same]; exact .way (by simp) hk (by simp), hcom', hwg, ?_, by simp, rfl⟩
            · simp only [phi]; rw [ej'] at eV eS; omega
            · rw [est (.sp r' 5) rfl]
              exact .opn trivial (by rw [ej'] at ho'; exact ho') (by simp)
      | kd =>
        obtain ⟨rfl, rfl⟩ := hsd
        obtain ⟨_, a', hgo, hk⟩ := hst
        obtain ⟨t', hk⟩ := CS.of (P := P) (w₀ := w₀) (Post := Post) (Anch := Anch) (Next := Next) (tag := .anch) (by simp) hk
        exact bookM (tag' := .anch) o hP ha hcom hgo (.refl f.p.Wg w) hwg bk_dis (by simp [pend]) ⟨rfl, rfl⟩ hk (hmode.reopen trivial trivial rfl (by simp)) (by simp) (.inl (by simp only [phi]; omega))
      | anch =>
        obtain ⟨rfl, rfl⟩ := hsd
        rcases (hAn _ _ _ hst).choose_spec.cases RelM.refl with ⟨_, hstop'⟩ | ⟨_, t', a', w', es, c', hs, hgo, hD, hW⟩
        · obtain ⟨m₁, ops, x', h1, h2, h3⟩ := w1M (sl := sl) (f0 := f0) o hn hP ha hcom hwg (hmode.reopen trivial trivial rfl (by simp)) (hstop' w (RelM.refl _ w))
          refine ⟨m₁, ops, x', h1, ?_, h3⟩
          obtain ⟨x1, x2⟩ := x'
          rcases Prod.lex_def.1 h2 with h | ⟨h, _⟩
          · refine Prod.Lex.left _ _ ?_
            simp only [mu, phi] at h ⊢; omega
          · refine Prod.Lex.left _ _ ?_
            simp only [mu, phi] at h ⊢; omega
        · have hk := idleM (sl := sl) (f0 := f0) (T := upd T 0 ((hAn _ _ _ hst).choose)) (tag := .w1) (w₀ := w₀) (Post := Post) (Anch := Anch) (Next := Next) o hP ha (by simp [pend]) ⟨rfl, rfl⟩ (hcom := ⟨hcom.size, fun i hi => by obtain ⟨g, h1, h2⟩ := hcom.wk i hi; exact ⟨g, h1, by rw [upd_ne T _ (by omega)]; exact h2⟩, hcom.ti, hcom.owns, hcom.idle, hcom.norel, hcom.deaf0, hcom.deafW, hcom.rel, hcom.base, hcom.out, hcom.b0, hcom.same⟩) hwg (hmode.reopen trivial trivial rfl (by simp)) (by simp) hgo hD (by simp) hW (by rw [upd_same]; exact hs)
          obtain ⟨m₁, ops, x', h1, h2, h3⟩ := hk
          refine ⟨m₁, ops, x', h1, ?_, h3⟩
          obtain ⟨x1, x2⟩ := x'
          rcases Prod.lex_def.1 h2 with h | ⟨h, _⟩
          · refine Prod.Lex.left _ _ ?_
            simp only [mu, phi] at h ⊢; omega
          · refine Prod.Lex.left _ _ ?_
            simp only [mu, phi] at h ⊢; omega
      | w1 =>
        obtain ⟨rfl, rfl⟩ := hsd
        exact w1M o hn hP ha hcom hwg hmode hst
      | w2 vs =>
        obtain ⟨rfl, rfl⟩ := hsd
        obtain ⟨_, hall⟩ := hst
        obtain ⟨ho, rfl, rfl, hw2⟩ := hmode.open_inv trivial
        obtain ⟨hle, h1⟩ := hw2 vs rfl
        obtain ⟨hhit, hmiss⟩ := hall (Vc (f.q0 + f.N) D) (by omega) (by simpa [pend] using hwg)
        by_cases e : Vc (f.q0 + f.N) D = vs
        · obtain ⟨a', hgo, hk⟩ := hhit e
          obtain ⟨t', hk⟩ := CS.of (P := P) (w₀ := w₀) (Post := Post) (Anch := Anch) (Next := Next) (tag := .w3) (by simp) hk
          exact bookM (tag' := .w3) o hP ha hcom hgo (aside_setCell w (stA f.p.Wg) _) (hwg.setSt _) bk_rw (by simp [pend]) ⟨rfl, rfl⟩ hk (.reg trivial ho (by omega)) (by simp) (.inl (by simp only [phi]; omega))
        · obtain ⟨a', hgo, hk⟩ := hmiss e
          obtain ⟨t', hk⟩ := CS.of (P := P) (w₀ := w₀) (Post := Post) (Anch := Anch) (Next := Next) (tag := .anch) (by simp) hk
          exact bookM (tag' := .anch) o hP ha hcom hgo (.refl f.p.Wg w) hwg bk_rd (by simp [pend]) ⟨rfl, rfl⟩ hk (hmode.reopen trivial trivial rfl (by simp)) (by simp) (.inl (by simp only [phi]; omega))
      | w3 =>
        obtain ⟨rfl, rfl⟩ := hsd
        obtain ⟨_, hoff, hblk, htake⟩ := hst
        have h1 := hf0 rfl
        cases hmode with
        | opn h1 _ _ => exact h1.elim
        | reg _ h2 h3 => exact bookM (tag' := .blk) o hP ha hcom (hblk ⟨_, hwg⟩) (.refl f.p.Wg w) hwg (by simp) (by simp [pend]) ⟨rfl, rfl⟩ (.blk hstop) (.reg trivial h2 h3) (by simp) (.inr ⟨rfl, (hT0.trans hT).symm, by omega⟩)
        | last L _ h2 h3 h4 => exact bookM (tag' := .blk) o hP ha hcom (hblk ⟨_, hwg⟩) (.refl f.p.Wg w) hwg (by simp) (by simp [pend]) ⟨rfl, rfl⟩ (.blk hstop) (.last L trivial h2 h3 h4) (by simp) (.inr ⟨rfl, (hT0.trans hT).symm, by omega⟩)
        | sema h2 =>
          obtain ⟨a', hgo, hk⟩ := htake hwg
          obtain ⟨t', hk⟩ := CS.of (P := P) (w₀ := w₀) (Post := Post) (Anch := Anch) (Next := Next) (tag := .w4) (by simp) hk
          exact bookM (tag' := .w4) o hP ha hcom hgo (aside_setCell w (smA f.p.Wg) _) (hwg.setSm 0) bk_sem (by simp [pend]) ⟨rfl, by simp [deafBehind, semEvents]⟩ hk (.fin trivial h2) (by simp) (.inl (by simp only [phi]; omega))
        | fin h1 _ => exact h1.elim
      | blk => exact absurd rfl hb
      | w4 =>
        obtain ⟨rfl, rfl⟩ := hsd
        obtain ⟨_, hx⟩ := hst
        obtain ⟨hq, rfl, rfl⟩ := hmode.fin_inv trivial
        obtain ⟨a', hgo, hk⟩ := hx hwg
        obtain ⟨t', hk⟩ := CS.of (P := P) (w₀ := w₀) (Post := Post) (Anch := Anch) (Next := Next) (tag := .ke) (by simp) hk
        exact bookM (tag' := .ke) o hP ha hcom hgo (.refl f.p.Wg w) hwg bk_rd (by simp [pend]) ⟨rfl, rfl⟩ hk (.fin trivial hq) (by simp) (.inl (by simp only [phi]; omega))
      | ke =>
        obtain ⟨rfl, rfl⟩ := hsd
        obtain ⟨_, a', hgo, hk⟩ := hst
        obtain ⟨hq, rfl, rfl⟩ := hmode.fin_inv trivial
        obtain ⟨t', hk⟩ := CS.of (P := P) (w₀ := w₀) (Post := Post) (Anch := Anch) (Next := Next) (tag := .acq) (by simp) hk
        exact bookM (tag' := .acq) o hP ha hcom hgo (.refl f.p.Wg w) hwg bk_en (by simp [pend]) ⟨rfl, rfl⟩ hk (.fin trivial hq) (by simp) (.inl (by simp only [phi]; omega))
      | acq =>
        obtain ⟨rfl, rfl⟩ := hsd
        obtain ⟨_, a', hgo, hk⟩ := hst
        obtain ⟨hq, rfl, rfl⟩ := hmode.fin_inv trivial
        obtain ⟨t', hk⟩ := CS.of (P := P) (w₀ := w₀) (Post := Post) (Anch := Anch) (Next := Next) (tag := .ret) (by simp) hk
        have hW0 : f.p.Wg < w.heap.size := Nat.lt_of_lt_of_le (o.sb _ o.wg) hcom.b0
        refine callerStep (tag' := .ret) (M' := M) hP ha hcom hgo (fun k _ => Rel.refl) (fun _ _ => rfl) (Nat.le_refl _) (hcom.ti.nought o hcom.owns (Nat.zero_le _) fun e he => by simp at he; subst he; exact ⟨rfl, hW0⟩) hcom.owns (by intro e he ad; simp at he; subst he; simp [mk]) hcom.base hcom.out (Kin.refl _)
          (by simp [pend]) ⟨rfl, rfl⟩ hk hwg (.fin trivial hq) (fun _ => ?_) (.inl (by simp only [phi]; omega))
        have e1 : MemOp.ofEvents 0 a.frame.fn a.frame.place #[mk (.acquire (stA f.p.Wg))] = #[{ g := 0, fn := a.frame.fn, pos := a.frame.place, act := .mark (.acquire (stA f.p.Wg)) }] := by rw [ofEvents_eq]; simp [ofEvent_mk]
        have hy : (t ++ #[({ g := 0, fn := a.frame.fn, pos := a.frame.place, act := .mark (.acquire (stA f.p.Wg)) } : MemOp)])[t.size]? = some { g := 0, fn := a.frame.fn, pos := a.frame.place, act := .mark (.acquire (stA f.p.Wg)) } := by simp
        refine ⟨t.size, by rw [e1, act?_of hy], by rw [e1]; simp [Trace.g?], by rw [e1]; exact ⟨0, by simp [Trace.g?], by rw [deaf_old (Nat.le_refl _)]; exact hcom.deaf0⟩, fun i hqi hi => ?_⟩
        obtain ⟨r, hr⟩ := hcom.rel i hqi hi (by rw [hq i hi]; omega)
        exact ⟨r, hr.appOther g_of_ofEvents (by omega), lt_of_act? hr.act⟩
      | ret => exact absurd ⟨rfl, hT⟩ hnd
    · exact idleM o hP ha hpj hsd hcom hwg hmode hacq hgo hD hb hW (by rw [hT0]; exact hs)
end
end Go.Proofs.Ytmhbjmkdekgmlaa.Sim
