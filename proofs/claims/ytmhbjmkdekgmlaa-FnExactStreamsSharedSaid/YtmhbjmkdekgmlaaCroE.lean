/-
  Between two crews goroutine 0 goes on beside goroutines that only leave; a crew's whole time; the run's end; on whatever tape.
  Conditions: the plan's blocks lie apart; what a worker leaves behind stands under its rely; few workers; behind Wait's loop head stands its load.
-/
import Derived.Test.YtmhbjmkdekgmlaaCroD
set_option linter.unusedSimpArgs false
set_option linter.unusedVariables false
namespace Go.Proofs.Ytmhbjmkdekgmlaa.Sim
open Go Go.Conc Go.ConcN
open Go.ConcR (KK wgBlock WgAt stA smA rd wr mk Payload Aside2 DC0 Bk g_of_ofEvents bk_of_mute ofEvent_loc_mark ofEvent_mk ofEvent_cell deafBehind_cons deafBehind_one)

/-- Goroutine 0 is 'a'; all others only leave; all is handed over. -/
structure Pt (P : Program) (Sb : Nat → Prop) (J : Nat) (gs : Array Goroutine) (a : Goroutine) (w : World) (t : Trace) : Prop where
  size : gs.size = J + 1
  main : gs[0]? = some a
  lv : ∀ i, i < J → ∃ g q, gs[i + 1]? = some g ∧ QuitsD P q (Deaf t (i + 1)) g
  still : Still Sb J t w.heap.size
  deaf0 : Deaf t 0 = 0
  norel : ∀ ad, NoRelease ad t

/-- From here the machine comes to where Q holds. -/
def Reach (P : Program) (gs : Array Goroutine) (w : World) (sl : Option (Nat × Nat)) (t : Trace) (Q : Array Goroutine → World → Option (Nat × Nat) → Trace → Prop) : Prop :=
  ∃ N gs' w' sl' t', runNT P N (crowd gs w sl) t = (.next (crowd gs' w' sl'), t') ∧ Q gs' w' sl' t'
theorem Reach.here {P : Program} {gs : Array Goroutine} {w : World} {sl : Option (Nat × Nat)} {t : Trace} {Q : Array Goroutine → World → Option (Nat × Nat) → Trace → Prop} (h : Q gs w sl t) : Reach P gs w sl t Q := ⟨0, gs, w, sl, t, rfl, h⟩
theorem Reach.bind {P : Program} {gs : Array Goroutine} {w : World} {sl : Option (Nat × Nat)} {t : Trace} {Q Q' : Array Goroutine → World → Option (Nat × Nat) → Trace → Prop} (h : Reach P gs w sl t Q) (hn : ∀ gs w sl t, Q gs w sl t → Reach P gs w sl t Q') : Reach P gs w sl t Q' := by
  obtain ⟨N, gs₁, w₁, sl₁, t₁, h1, h2⟩ := h
  obtain ⟨K, gs₂, w₂, sl₂, t₂, h3, h4⟩ := hn _ _ _ _ h2
  exact ⟨N + K, gs₂, w₂, sl₂, t₂, by rw [runNT_add, h1]; exact h3, h4⟩
theorem Reach.mono {P : Program} {gs : Array Goroutine} {w : World} {sl : Option (Nat × Nat)} {t : Trace} {Q Q' : Array Goroutine → World → Option (Nat × Nat) → Trace → Prop} (h : Reach P gs w sl t Q) (hn : ∀ gs w sl t, Q gs w sl t → Q' gs w sl t) : Reach P gs w sl t Q' := h.bind fun _ _ _ _ x => .here (hn _ _ _ _ x)

/-! ### beside leavers -/
/-- What goroutine 0 may list between two crews. -/
def EvQ (Sb : Nat → Prop) (sz : Nat) (e : Event) : Prop := (∃ a wr, e = ⟨.cell a, wr, false⟩ ∧ ¬ Sb a.block ∧ a.block < sz) ∨ (∃ m, e = ⟨.mark m, false, true⟩ ∧ idleMark m = true)

theorem EvQ.mark {Sb : Nat → Prop} {sz : Nat} {e : Event} (h : EvQ Sb sz e) {m : Mark} (hm : e.loc = .mark m) : idleMark m = true := by
  rcases h with ⟨a, wr, rfl, _⟩ | ⟨m', rfl, hm'⟩
  · cases hm
  · cases hm; exact hm'

theorem Still.own {Sb : Nat → Prop} {J : Nat} {t : Trace} {sz sz' : Nat} (h : Still Sb J t sz) (hsz : sz ≤ sz') {fn : FuncId} {pos : String} {es : Array Event} (hes : ∀ e ∈ es, EvQ Sb sz' e) : Still Sb J (t ++ MemOp.ofEvents 0 fn pos es) sz' := by
  have htouch : ∀ op ∈ MemOp.ofEvents 0 fn pos es, op.g = 0 ∧ op.act.low sz' ∧ ∀ x, op.act.touch? = some x → ¬ Shb Sb x.loc ∧ x.kind ≠ .atomic := by
    intro op hop
    obtain ⟨e, he, rfl⟩ := mem_ofE hop
    refine ⟨rfl, ?_⟩
    rcases hes e he with ⟨a, wr, rfl, h1, h2⟩ | ⟨m, rfl, hm⟩
    · refine ⟨by rw [ofEvent_cell]; exact h2, fun x hx => ?_⟩
      have := touch_cell hx
      subst this
      exact ⟨by rintro ⟨_, e, hs⟩; cases e; exact h1 hs, by simp⟩
    · exact ⟨(touch_idle hm).2 _, fun x hx => by rw [(touch_idle hm).1] at hx; cases hx⟩
  refine ⟨h.quiet.app fun op hop x hx hs => absurd hs ((htouch op hop).2.2 x hx).1, fun said => noRace_append (h.nr said) (fun op hop => (htouch op hop).1) fun i a ha op hop b hb hc => ?_, fun i op hi => ?_, fun i x hx hs => ?_, fun op hop => ?_, handedOver_app h.over fun op hop => .inl (htouch op hop).1, fun i op x hi hx => ?_⟩
  · have hl := ((htouch op hop).2.2 b hb).1
    exact h.knows hl i a ha hc.1
  · rcases getElem?_append_cases hi with ⟨_, hi'⟩ | ⟨_, hiu⟩
    · exact h.gs i op hi'
    · rw [(htouch op hiu).1]; exact Nat.zero_le _
  · obtain ⟨op, ho, hox⟩ := touch_of hx
    rcases getElem?_append_cases ho with ⟨_, ho'⟩ | ⟨_, hou⟩
    · exact h.pl i x (by rw [touchAt_of ho']; exact hox) hs
    · exact ((htouch op hou).2.2 x hox).2
  · rcases Array.mem_append.1 hop with h1 | h1
    · exact MemAct.low_mono hsz (h.low op h1)
    · exact (htouch op h1).2.1
  · rcases getElem?_append_cases hi with ⟨_, hi'⟩ | ⟨_, hiu⟩
    · exact h.mem i op x hi' hx
    · exact .inr (htouch op hiu).1

/-- A leaver's entries touch nothing. -/
theorem Still.mute {Sb : Nat → Prop} {J : Nat} {t : Trace} {sz : Nat} (h : Still Sb J t sz) {g : Nat} (hg : g ≤ J) {fn : FuncId} {pos : String} {es : Array Event} (hes : ∀ e ∈ es, e.mute = true) : Still Sb J (t ++ MemOp.ofEvents g fn pos es) sz := by
  have htouch : ∀ op ∈ MemOp.ofEvents g fn pos es, op.g = g ∧ op.act.low sz ∧ op.act.touch? = none := by
    intro op hop
    obtain ⟨e, he, rfl⟩ := mem_ofE hop
    exact ⟨rfl, low_mute (hes e he) _, touch_mute (hes e he)⟩
  refine ⟨h.quiet.app fun op hop x hx hs => (by rw [(htouch op hop).2.2] at hx; cases hx), fun said => noRace_append (h.nr said) (fun op hop => (htouch op hop).1) fun i a ha op hop b hb hc => (by rw [(htouch op hop).2.2] at hb; cases hb), fun i op hi => ?_, fun i x hx hs => ?_, fun op hop => ?_, handedOver_app h.over fun op hop => .inr (htouch op hop).2.2, fun i op x hi hx => ?_⟩
  · rcases getElem?_append_cases hi with ⟨_, hi'⟩ | ⟨_, hiu⟩
    · exact h.gs i op hi'
    · rw [(htouch op hiu).1]; exact hg
  · obtain ⟨op, ho, hox⟩ := touch_of hx
    rcases getElem?_append_cases ho with ⟨_, ho'⟩ | ⟨_, hou⟩
    · exact h.pl i x (by rw [touchAt_of ho']; exact hox) hs
    · rw [(htouch op hou).2.2] at hox; cases hox
  · rcases Array.mem_append.1 hop with h1 | h1
    · exact h.low op h1
    · exact (htouch op h1).2.1
  · rcases getElem?_append_cases hi with ⟨_, hi'⟩ | ⟨_, hiu⟩
    · exact h.mem i op x hi' hx
    · rw [(htouch op hiu).2.2] at hx; cases hx

def AtR {γ : Type} (_ : γ) (w w₁ : World) : Prop := AtRel w w₁

section
variable {γ : Type} {P : Program} {Sb : Nat → Prop} {J : Nat} {D : γ → World → World → Array Event → γ → Prop} {Stop : γ → Goroutine → World → Prop}
  {gs : Array Goroutine} {a : Goroutine} {w : World} {sl : Option (Nat × Nat)} {t : Trace}

def LtB : (Tr × Nat) → (Tr × Nat) → Prop := Prod.Lex Tr.Sub (· < ·)
theorem LtB.wf : WellFounded LtB := (Prod.lex ⟨Tr.Sub, Tr.wf⟩ Nat.lt_wfRel).wf

def InvB (P : Program) (Sb : Nat → Prop) (J : Nat) (D : γ → World → World → Array Event → γ → Prop) (Stop : γ → Goroutine → World → Prop) (x : Tr × Nat) (m : Machine) (t : Trace) : Prop :=
  ∃ (gs : Array Goroutine) (w : World) (sl : Option (Nat × Nat)) (a : Goroutine) (c : γ) (q : Nat → Nat), m = crowd gs w sl ∧ Pt P Sb J gs a w t ∧ (∀ i, i < J → ∃ g, gs[i + 1]? = some g ∧ QuitsD P (q i) (Deaf t (i + 1)) g) ∧ Way P true AtR D Stop x.1 c a w ∧ x.2 = sumTo J q

theorem Pt.awake (h : Pt P Sb J gs a w t) (ha : a.status = .running) : ∀ g ∈ gs, awake g := by
  intro g hg
  obtain ⟨i, hi⟩ := Array.mem_iff_getElem?.1 hg
  cases i with
  | zero => rw [h.main] at hi; cases hi; exact awake_of (.inl ha)
  | succ i =>
    have hlt : i < J := by have := (Array.getElem?_eq_some_iff.1 hi).1; rw [h.size] at this; omega
    obtain ⟨g', q, hg', hq⟩ := h.lv i hlt
    rw [hi] at hg'; cases hg'
    exact awake_of (hq.status.imp id fun x => .inr x)

/-- ████ THE WALK BESIDE LEAVERS, ON WHATEVER TAPE. ████ -/
theorem Pt.beside (h : Pt P Sb J gs a w t) (hD : ∀ c w w' es c', D c w w' es c' → w.heap.size ≤ w'.heap.size ∧ ∀ e ∈ es, EvQ Sb w'.heap.size e) (hS : ∀ c g w, Stop c g w → g.status = .running) {c : γ} {tr : Tr} (hW : Way P true AtR D Stop tr c a w) :
    Reach P gs w sl t fun gs' w' _ t' => ∃ a' c', Pt P Sb J gs' a' w' t' ∧ ∀ w₁, AtRel w' w₁ → Stop c' a' w₁ := by
  classical
  have hq : ∀ i, ∃ q, i < J → ∃ g, gs[i + 1]? = some g ∧ QuitsD P q (Deaf t (i + 1)) g := fun i => by
    by_cases hi : i < J
    · obtain ⟨g, q, h1, h2⟩ := h.lv i hi
      exact ⟨q, fun _ => ⟨g, h1, h2⟩⟩
    · exact ⟨0, fun h => absurd h hi⟩
  have key := reach_of_inv (P := P) LtB.wf (InvB P Sb J D Stop) (fun m t' => ∃ gs' w' sl' a' c', m = crowd gs' w' sl' ∧ Pt P Sb J gs' a' w' t' ∧ ∀ w₁, AtRel w' w₁ → Stop c' a' w₁) ?_ (tr, sumTo J fun i => (hq i).choose) (crowd gs w sl) t ⟨gs, w, sl, a, c, fun i => (hq i).choose, rfl, h, fun i hi => (hq i).choose_spec hi, hW, rfl⟩
  · obtain ⟨N, m', t', h1, gs', w', sl', a', c', rfl, h2, h3⟩ := key
    exact ⟨N, gs', w', sl', t', h1, a', c', h2, h3⟩
  rintro ⟨x1, x2⟩ m t ⟨gs, w, sl, a, c, q, rfl, hp, hlv, hW, rfl⟩
  have tr' : ∀ (c : γ) a b d, AtR c a b → AtR c b d → AtR c a d := fun _ _ _ _ h1 h2 => atRel_trans _ _ _ h1 h2
  have hrun : a.status = .running := Way.running (fun _ w => atRel_refl w) hS hW
  rcases hW.cases (fun _ w => atRel_refl w) with ⟨_, hstop⟩ | ⟨_, t1, _, _, _, _, hs1, _⟩
  · exact .inl ⟨gs, w, sl, a, c, rfl, hp, hstop⟩
  right
  obtain ⟨i, g, d, sl', hg, hgr, hstep⟩ := crowd_pick (P := P) (w := w) (sl := sl) (hp.awake hrun) ⟨0, a, hp.main, hrun⟩
  have hW' : Way P true AtR D Stop x1 c a (w.at d) := Way.rely tr' hW ⟨d, rfl⟩
  have hp' : Pt P Sb J gs a (w.at d) t := ⟨hp.size, hp.main, hp.lv, hp.still, hp.deaf0, hp.norel⟩
  cases i with
  | zero =>
    rw [hp.main] at hg; cases hg
    rcases hW'.cases (fun _ w => atRel_refl w) with ⟨rfl, hstop⟩ | ⟨_, t', a', w', es, c', hs, hgo, hd, hW2⟩
    · obtain ⟨_, _, e, _⟩ := hs1
      cases e
    · obtain ⟨hsz, hev⟩ := hD _ _ _ _ _ hd
      have hrunT := runT_crowd_go (P := P) (sl := sl') (i := 0) hp.main (by simpa using hgo)
      have hmk : ∀ e ∈ es, ∀ m, e.loc = .mark m → idleMark m = true := fun e he m hm => (hev e he).mark hm
      have hdf : deafBehind 0 es = 0 := deafBehind_idle (fun e he => ⟨fun hl => by have := hmk e he _ hl; simp [idleMark] at this, fun hl => by have := hmk e he _ hl; simp [idleMark] at this⟩) 0
      have hlv' : ∀ i, i < J → ∃ g, ((gs.map (woken P a a' w')).setIfInBounds 0 a')[i + 1]? = some g ∧ QuitsD P (q i) (Deaf (t ++ MemOp.ofEvents 0 a.frame.fn a.frame.place es) (i + 1)) g := fun i hi => by
        obtain ⟨g, h1, h2⟩ := hlv i hi
        exact ⟨g, by rw [get_map_set _ _ _ _ (by omega), h1, Option.map_some, woken_quitsD h2], by rw [Deaf_other t (g' := 0) (by omega) _ g_of_ofEvents]; exact h2⟩
      refine ⟨_, _, (t', sumTo J q), hstep.trans hrunT, Prod.Lex.left _ _ hs, _, w', sl', a', c', q, rfl, ⟨by simp [hp.size], get_map_set_same _ _ _ (by rw [hp.size]; omega), fun i hi => ?_, hp.still.own hsz hev, by rw [Deaf_own, hp.deaf0, hdf], fun ad => (hp.norel ad).app (norel_all (fun e he ad hl => by have := hmk e he _ hl; simp [idleMark] at this) ad)⟩, hlv', hW2, rfl⟩
      obtain ⟨g, h1, h2⟩ := hlv' i hi
      exact ⟨g, _, h1, h2⟩
  | succ i =>
    have hi : i < J := by have := (Array.getElem?_eq_some_iff.1 hg).1; rw [hp.size] at this; omega
    obtain ⟨g', hg', hqi⟩ := hlv i hi
    rw [hg] at hg'; cases hg'
    cases hqv : q i with
    | zero => rw [hqv] at hqi; rw [hqi.1] at hgr; cases hgr
    | succ k =>
      rw [hqv] at hqi
      rcases hqi with ⟨hf, _⟩ | ⟨_, g', es, hm, hstp, hq'⟩
      · rw [hf] at hgr; cases hgr
      have hrunT := runT_crowd_go (P := P) (sl := sl') (i := i + 1) hg (by simpa using hstp (w.at d))
      have hsum : sumTo J (upd q i k) + (k + 1) = sumTo J q + k := by
        have := sumTo_upd q k id hi
        simpa [hqv] using this
      have hmk : ∀ e ∈ es, ∀ ad, e.loc ≠ .mark (.release ad) := fun e he ad hl => by
        have := hm e he
        obtain ⟨loc, wr, sy⟩ := e
        simp only at hl
        subst hl
        simp [Event.mute] at this
      have hlv' : ∀ i', i' < J → ∃ x, ((gs.map (woken P g g' (w.at d))).setIfInBounds (i + 1) g')[i' + 1]? = some x ∧ QuitsD P (upd q i k i') (Deaf (t ++ MemOp.ofEvents (i + 1) g.frame.fn g.frame.place es) (i' + 1)) x := fun i' hi' => by
        by_cases e : i' = i
        · subst e
          exact ⟨g', get_map_set_same _ _ _ (by rw [hp.size]; omega), by rw [upd_same, Deaf_own]; exact hq'⟩
        · obtain ⟨x, h1, h2⟩ := hlv i' hi'
          exact ⟨x, by rw [get_map_set _ _ _ _ (by omega), h1, Option.map_some, woken_quitsD h2], by rw [upd_ne q k e, Deaf_other t (g' := i + 1) (by omega) _ g_of_ofEvents]; exact h2⟩
      refine ⟨_, _, (x1, sumTo J (upd q i k)), hstep.trans hrunT, Prod.Lex.right _ (by omega), _, w.at d, sl', a, c, upd q i k, rfl, ⟨by simp [hp.size], by rw [get_map_set _ _ _ _ (by omega), hp.main, Option.map_some, woken_run hrun], fun i' hi' => ?_, hp.still.mute (by omega) hm, by rw [Deaf_other t (g' := i + 1) (by omega) _ g_of_ofEvents, hp.deaf0], fun ad => (hp.norel ad).app (norel_all hmk ad)⟩, hlv', hW', rfl⟩
      obtain ⟨x, h1, h2⟩ := hlv' i' hi'
      exact ⟨x, _, h1, h2⟩
end

/-! ### the run's end -/
theorem Pt.ends {P : Program} {Sb : Nat → Prop} {J : Nat} {gs : Array Goroutine} {a : Goroutine} {w : World} {sl : Option (Nat × Nat)} {t : Trace} {Post : Value → World → Prop} (h : Pt P Sb J gs a w t)
    (hE : ∀ w₁, AtRel w w₁ → a.status = .running ∧ ∃ v es, stepG P true a w₁ = .ended (.done v) w₁ es ∧ (∀ e ∈ es, EvQ Sb w.heap.size e) ∧ Post v w₁) :
    ∃ N last o w' t', runNT P (N + 1) (crowd gs w sl) t = (.ended o w', t') ∧ runN P N (crowd gs w sl) = .next last ∧ step P last = .ended o w' ∧ Good P Post last o w' t' := by
  classical
  have hq : ∀ i, ∃ q, 0 < i → i - 1 < J → ∃ g, gs[i]? = some g ∧ QuitsD P q (Deaf t i) g := fun i => by
    by_cases hi : 0 < i ∧ i - 1 < J
    · obtain ⟨g, q, h1, h2⟩ := h.lv (i - 1) hi.2
      rw [show i - 1 + 1 = i by omega] at h1 h2
      exact ⟨q, fun _ _ => ⟨g, h1, h2⟩⟩
    · exact ⟨0, fun h1 h2 => absurd ⟨h1, h2⟩ hi⟩
  have hL : Leavers P t gs fun i => (hq i).choose := by
    refine ⟨fun i g hi hg => ?_, fun j hj => Deaf_absent fun a op ha e => ?_⟩
    · have hlt := (Array.getElem?_eq_some_iff.1 hg).1
      rw [h.size] at hlt
      obtain ⟨g', h1, h2⟩ := (hq i).choose_spec hi (by omega)
      rw [hg] at h1; cases h1
      exact h2
    · have := h.still.gs a op ha
      rw [h.size] at hj
      omega
  have hP : Past (Shb Sb) w.heap.size t := by
    refine ⟨h.still.nr, fun i x hx hm => ?_, h.still.over, h.deaf0, h.still.low⟩
    by_cases hs : Shb Sb x.loc
    · obtain ⟨op, ho, hox⟩ := touch_of hx
      obtain ⟨k1, k2⟩ := h.still.quiet i op x ho hox hs
      by_cases hg : op.g = 0
      · have := knows_own ho
        rw [hg] at this
        exact .inl this
      · refine .inr ⟨hs, ?_⟩
        cases hk : x.kind with
        | plain => exact absurd hk k1
        | atomic => rfl
        | said => exact absurd (k2 hk) hg
    · exact .inl (h.still.knows hs i x hx rfl)
  refine beside_ends (P := P) (Shun := Shb Sb) (B := w.heap.size) (D := fun _ _ _ => False) (n := 0) (fun _ _ _ x => x.elim) h.main hL hP (fun w₁ h₁ => ?_)
  obtain ⟨h1, v, es, h2, h3, h4⟩ := hE w₁ h₁
  refine ⟨h1, v, es, h2, fun e he => ?_, h4⟩
  rcases h3 e he with ⟨ad, wr, rfl, e1, e2⟩ | ⟨m, rfl, hm⟩
  · exact evL_cell ad wr (by rintro ⟨_, e, hs⟩; cases e; exact e1 hs) e2
  · exact ⟨fun x hx => (by rw [(touch_idle hm).1] at hx; cases hx), (by rintro e; cases e; simp [idleMark] at hm), (by rintro e; cases e; simp [idleMark] at hm), (touch_idle hm).2 _⟩

theorem Reach.ends {P : Program} {gs : Array Goroutine} {w : World} {sl : Option (Nat × Nat)} {t : Trace} {Q : Array Goroutine → World → Option (Nat × Nat) → Trace → Prop} {Post : Value → World → Prop} (h : Reach P gs w sl t Q)
    (hn : ∀ gs w sl t, Q gs w sl t → ∃ N last o w' t', runNT P (N + 1) (crowd gs w sl) t = (.ended o w', t') ∧ runN P N (crowd gs w sl) = .next last ∧ step P last = .ended o w' ∧ Good P Post last o w' t') :
    ∃ N last o w' t', runNT P (N + 1) (crowd gs w sl) t = (.ended o w', t') ∧ runN P N (crowd gs w sl) = .next last ∧ step P last = .ended o w' ∧ Good P Post last o w' t' := by
  obtain ⟨K, gs₁, w₁, sl₁, t₁, h1, h2⟩ := h
  obtain ⟨N, last, o, w', t', e1, e2, e3, e4⟩ := hn _ _ _ _ h2
  refine ⟨K + N, last, o, w', t', ?_, ?_, e3, e4⟩
  · rw [Nat.add_assoc, runNT_add, h1]; exact e1
  · rw [runN_add, ← runNT_fst P _ _ t, h1]; exact e2

/-- The start. -/
theorem Pt.start (P : Program) (a : Goroutine) (w : World) : Pt P (fun _ => False) 0 #[a] a w #[] := by
  refine ⟨rfl, rfl, fun i hi => absurd hi (Nat.not_lt_zero _), ⟨fun i op x hi => by simp at hi, fun said => noRace_nil said, fun i op hi => by simp at hi, fun i x hx => by simp [touchAt, Trace.act?] at hx, by simp, fun i g hg => by simp [Trace.g?] at hg, fun i op x hi => by simp at hi⟩, rfl, fun ad i hi => by simp [Trace.act?] at hi⟩

/-! ### a crew's whole time -/
section
variable [Payload] {P : Program} {f : Plan} {Post : Nat → (Nat → Prop) → World → Prop} {Anch Next : (Nat → Prop) → Goroutine → World → Prop}
  {gs : Array Goroutine} {a : Goroutine} {w : World} {sl : Option (Nat × Nat)} {t : Trace}

/-- What stands when all are waited for. -/
structure After (P : Program) (f : Plan) (w₀ : World) (Post : Nat → (Nat → Prop) → World → Prop) (Next : (Nat → Prop) → Goroutine → World → Prop) (gs : Array Goroutine) (w : World) (t : Trace) (a : Goroutine) (M : Nat → Nat → Prop) : Prop where
  pt : Pt P f.Sb (f.q0 + f.N) gs a w t
  next : Next (M 0) a w
  base : Base f w₀ w
  out : OutAt f.p w
  b0 : f.B0 ≤ w.heap.size
  same : Kin w₀ w
  post : ∀ i, f.q0 < i → i ≤ f.q0 + f.N → Post i (M i) w
  owns : Owns f M w.heap.size

theorem InvM.awake {w₀ : World} {j : Nat} {D : Nat → WD} {T : Nat → Tr} {M : Nat → Nat → Prop} {tag : CTag} {f0 d0 : Nat} {tr : Tr} {c : Nat → Prop} (hAr : ∀ c g w, Anch c g w → g.status = .running) (hNr : ∀ c g w, Next c g w → g.status = .running) (ha : gs[0]? = some a) (hcs : CS P f w₀ Post Anch Next tag tr f0 c a w) (hcom : Com P f w₀ Post j gs w t D T M d0) : ∀ g ∈ gs, awake g := by
  intro g hg tm
  obtain ⟨i, hi⟩ := Array.mem_iff_getElem?.1 hg
  cases i with
  | zero =>
    rw [ha] at hi; cases hi
    rcases hcs.status hAr hNr with ⟨hs, _⟩ | ⟨hs, _⟩ <;> rw [hs] <;> simp
  | succ i =>
    have hlt : i < f.q0 + j := by have := (Array.getElem?_eq_some_iff.1 hi).1; rw [hcom.size] at this; omega
    obtain ⟨g', hg', hs⟩ := hcom.wk i hlt
    rw [hi] at hg'; cases hg'
    rcases hs.status with h | ⟨h, _⟩ <;> rw [h] <;> simp

theorem someone {w₀ : World} {j : Nat} {D : Nat → WD} {T : Nat → Tr} {M : Nat → Nat → Prop} {tag : CTag} {f0 d0 : Nat} {tr : Tr} {c : Nat → Prop} {st sm : Int} (hAr : ∀ c g w, Anch c g w → g.status = .running) (hNr : ∀ c g w, Next c g w → g.status = .running) (ha : gs[0]? = some a) (hcs : CS P f w₀ Post Anch Next tag tr f0 c a w) (hcom : Com P f w₀ Post j gs w t D T M d0) (hmode : ConcN.Mode (f.q0 + j) D tag st sm) :
    ∃ (i : Nat) (g : Goroutine), gs[i]? = some g ∧ g.status = .running := by
  rcases hcs.status hAr hNr with ⟨hs, _⟩ | ⟨_, rfl⟩
  · exact ⟨0, a, ha, hs⟩
  · have run : ∀ i, i < f.q0 + j → (D i).stage ≠ 1 → ∃ (i : Nat) (g : Goroutine), gs[i]? = some g ∧ g.status = .running := fun i hi hne => by
      obtain ⟨g, hg, hs⟩ := hcom.wk i hi
      exact ⟨i + 1, g, hg, hs.status.resolve_right fun x => hne x.2⟩
    cases hmode with
    | opn h1 _ _ => exact h1.elim
    | reg _ _ h3 =>
      obtain ⟨i, hi, h5⟩ := exists_counted h3
      exact run i hi (by omega)
    | last L _ h2 h3 _ => exact run L h2 (by omega)
    | fin h1 _ => exact h1.elim

theorem crew_step {w₀ : World} (o : f.Ok) (hn : f.q0 + f.N < 2147483648) (hP : PostOk f Post) (hAr : ∀ c g w, Anch c g w → g.status = .running) (hNr : ∀ c g w, Next c g w → g.status = .running)
    (hAn : ∀ c g w, Anch c g w → Wy (RM f) (DM f) P (AtW1 (RM f) (DM f) P f.p.ty f.p.Wg Anch Next) c g w) : ∀ x m t, InvM P f w₀ Post Anch Next x m t →
    (∃ gs' w' sl' a' M', m = crowd gs' w' sl' ∧ After P f w₀ Post Next gs' w' t a' M') ∨ ∃ m' ops x', stepT P m = (.next m', ops) ∧ LtM (f.q0 + f.N + 1) x' x ∧ InvM P f w₀ Post Anch Next x' m' (t ++ ops) := by
  rintro x m t ⟨gs, w, sl, j, D, T, M, tag, f0, d0, a, st, sm, rfl, ha, hpj, hsd, hcs, hcom, hwg, hmode, hacq, rfl⟩
  by_cases hd : tag = .ret ∧ T 0 = .stop
  · left
    obtain ⟨rfl, hT⟩ := hd
    obtain ⟨rfl, rfl⟩ := hsd
    obtain ⟨hq, _, _⟩ := hmode.fin_inv trivial
    rw [hT] at hcs
    have hnext : Next (M 0) a w := by
      generalize hx : M 0 = c0 at hcs
      cases hcs with
      | way _ hW _ => exact hW w (RelM.refl _ w)
    have hwq : ∀ i, i < f.q0 + f.N → ∃ g, gs[i + 1]? = some g ∧ QuitsD P (D i).fuel (D i).deaf g ∧ (f.q0 < i + 1 → Post (i + 1) (M (i + 1)) w) := fun i hi => by
      obtain ⟨g, hg, hs⟩ := hcom.wk i hi
      refine ⟨g, hg, ?_⟩
      rw [hq i hi] at hs
      generalize (D i).fuel = x1 at hs ⊢
      generalize (D i).deaf = x2 at hs ⊢
      generalize T (i + 1) = x3 at hs
      cases hs with
      | rest _ h2 _ _ _ _ _ => omega
      | quit hp hqq => exact ⟨hqq, hp⟩
    obtain ⟨q, h1, h2, h3, h4⟩ := hacq rfl
    have hover : t.HandedOver := hcom.ti.over (hcom.norel _) h1 h2 h3 fun k hk hkj => by
      obtain ⟨r, hr⟩ := h4 (k - 1) (by omega) (by omega)
      rw [show k - 1 + 1 = k by omega] at hr
      exact ⟨r, hr⟩
    refine ⟨gs, w, sl, a, M, rfl, ⟨hcom.size, ha, fun i hi => ?_, hcom.ti.still hover, hcom.deaf0, hcom.norel⟩, hnext, hcom.base, hcom.out, hcom.b0, hcom.same, fun i hi hj => ?_, hcom.owns⟩
    · obtain ⟨g, hg, hqq, _⟩ := hwq i hi
      exact ⟨g, _, hg, by rw [hcom.deafW i hi]; exact hqq⟩
    · obtain ⟨g, _, _, hp⟩ := hwq (i - 1) (by omega)
      rw [show i - 1 + 1 = i by omega] at hp
      exact hp hi
  · right
    obtain ⟨i, g, d, sl', hg, hgr, hstep⟩ := crowd_pick (P := P) (w := w) (sl := sl) (InvM.awake hAr hNr ha hcs hcom) (someone hAr hNr ha hcs hcom hmode)
    rw [hstep]
    have hcs' := hcs.rely (RelM.at (M 0) w d)
    have hcom' : Com P f w₀ Post j gs (w.at d) t D T M d0 := ⟨hcom.size, fun i hi => let ⟨g, hg, hs⟩ := hcom.wk i hi; ⟨g, hg, hs.rely hP fun _ => Rel.at w d⟩, hcom.ti, hcom.owns, hcom.idle, hcom.norel, hcom.deaf0, hcom.deafW, hcom.rel, hcom.base, hcom.out, hcom.b0, hcom.same⟩
    have hwg' : WgAt f.p.ty f.p.Wg (w.at d) st sm := hwg
    cases i with
    | zero =>
      rw [ha] at hg; cases hg
      exact stepStarter o hn hP hAn ha hpj hsd hcs' hcom' hwg' hmode hacq hgr hd
    | succ i =>
      have hi : i < f.q0 + j := by have := (Array.getElem?_eq_some_iff.1 hg).1; rw [hcom.size] at this; omega
      exact stepWorker o hn hP hAr hNr ha hpj hsd hcs' hcom' hwg' hmode hacq hi hg hgr

/-- ████ FROM THE LOOP THAT STARTS THEM TO WHERE ALL ARE WAITED FOR, ON WHATEVER TAPE. ████ -/
theorem Pt.crew (o : f.Ok) (hn : f.q0 + f.N < 2147483648) (hP : PostOk f Post) (hAr : ∀ c g w, Anch c g w → g.status = .running) (hNr : ∀ c g w, Next c g w → g.status = .running)
    (hAn : ∀ c g w, Anch c g w → Wy (RM f) (DM f) P (AtW1 (RM f) (DM f) P f.p.ty f.p.Wg Anch Next) c g w)
    (h : Pt P f.Sb f.q0 gs a w t) (hB : f.B0 ≤ w.heap.size) (hsp : SpawnsM P f w Post Anch f.N (fun _ => False) a w) (hout : OutAt f.p w) (hwg : WgAt f.p.ty f.p.Wg w 0 0) :
    Reach P gs w sl t fun gs' w' _ t' => ∃ a' M', After P f w Post Next gs' w' t' a' M' := by
  classical
  have hq : ∀ i, ∃ q, i < f.q0 → ∃ g, gs[i + 1]? = some g ∧ QuitsD P q (Deaf t (i + 1)) g := fun i => by
    by_cases hi : i < f.q0
    · obtain ⟨g, q, h1, h2⟩ := h.lv i hi
      exact ⟨q, fun _ => ⟨g, h1, h2⟩⟩
    · exact ⟨0, fun h => absurd h hi⟩
  have hcom : ∀ T, Com P f w Post 0 gs w t (fun i => ⟨1, (hq i).choose, Deaf t (i + 1)⟩) T (fun _ _ => False) 0 := fun T => by
    refine ⟨h.size, fun i hi => ?_, h.still.ti, ⟨fun _ _ _ x => x.elim, fun _ _ x => x.elim, fun _ _ x => x.elim⟩, fun _ _ _ _ x => x, h.norel, h.deaf0, fun _ _ => rfl, fun i h1 h2 => by omega, fun _ _ _ _ => rfl, hout, hB, Kin.refl w⟩
    obtain ⟨g, h1, h2⟩ := (hq i).choose_spec hi
    exact ⟨g, h1, .quit (fun hi' => by omega) h2⟩
  have hV : Vc (f.q0 + 0) (fun i => (⟨1, (hq i).choose, Deaf t (i + 1)⟩ : WD)) = 0 := by
    have : ∀ j, Vc j (fun i => (⟨1, (hq i).choose, Deaf t (i + 1)⟩ : WD)) = 0 := by
      intro j
      induction j with
      | zero => rfl
      | succ j ih => simp only [Vc, sumTo] at ih ⊢; rw [ih]; rfl
    exact this _
  have hmode : ∀ tag, isOpen tag → pend tag = 0 → (∀ vs, tag ≠ .w2 vs) → ConcN.Mode (f.q0 + 0) (fun i => (⟨1, (hq i).choose, Deaf t (i + 1)⟩ : WD)) tag 0 0 := fun tag h1 h2 h3 => by
    have := ConcN.Mode.opn (j := f.q0 + 0) (D := fun i => (⟨1, (hq i).choose, Deaf t (i + 1)⟩ : WD)) h1 (fun i hi => .inr (.inr (.inr rfl))) (fun vs e => absurd e (h3 vs))
    rw [hV, h2] at this
    simpa using this
  have hI : ∃ x, InvM P f w Post Anch Next x (crowd gs w sl) t := by
    cases hN : f.N with
    | zero =>
      rw [hN] at hsp
      obtain ⟨tr, hk⟩ := hsp
      exact ⟨_, gs, w, sl, 0, _, fun _ => tr, fun _ _ => False, .kd, 0, 0, a, 0, 0, rfl, h.main, by simp [pend], ⟨by omega, rfl⟩, .way (by simp) hk (by simp), hcom _, hwg, hmode .kd trivial rfl (by simp), by simp, rfl⟩
    | succ r =>
      rw [hN] at hsp
      obtain ⟨tr, hk⟩ := hsp
      exact ⟨_, gs, w, sl, 0, _, fun _ => tr, fun _ _ => False, .sp r 5, 0, 0, a, 0, 0, rfl, h.main, by simp [pend], ⟨by omega, by omega, .inl ⟨rfl, rfl⟩⟩, .way (by simp) hk (by simp), hcom _, hwg, hmode (.sp r 5) trivial rfl (by simp), by simp, rfl⟩
  obtain ⟨x, hI⟩ := hI
  have key := reach_of_inv (P := P) (LtM.wf (f.q0 + f.N + 1)) (InvM P f w Post Anch Next) (fun m t' => ∃ gs' w' sl' a' M', m = crowd gs' w' sl' ∧ After P f w Post Next gs' w' t' a' M') ?_ x _ _ hI
  · obtain ⟨N, m', t', h1, gs', w', sl', a', M', rfl, h2⟩ := key
    exact ⟨N, gs', w', sl', t', h1, a', M', h2⟩
  exact crew_step o hn hP hAr hNr hAn
end
end Go.Proofs.Ytmhbjmkdekgmlaa.Sim
