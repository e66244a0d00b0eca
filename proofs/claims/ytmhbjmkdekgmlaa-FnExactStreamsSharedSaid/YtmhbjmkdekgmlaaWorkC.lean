/-
  The way of sync.WaitGroup's Done up to its release, silent; behind it the library's own walk; a worker from its birth to that release.
  Condition: the job's own contract in company ('Job').
-/
import Derived.Test.YtmhbjmkdekgmlaaWorkB
import Derived.Test.YtmhbjmkdekgmlaaCroB
import Derived.Test.YtmhbjmkdekgmlaaLnkA
set_option linter.unusedSimpArgs false
set_option linter.unusedVariables false
namespace Go.Proofs.Ytmhbjmkdekgmlaa.Sim
open Go.Proofs.Ytmhbjmkdekgmlaa.Seeds (link wgLib)
open Go Go.Conc Go.ConcN Go.RowKit Go.Conc.Lib Go.ConcR.Gen Go.ConcN.Gen
open Go.ConcR (KK wgBlock WgAt stA smA rd wr mk Payload Aside2 DC0)

section
variable [Payload] {L : WgLink} {P : Program}
/-- It says 'disable'. -/
def SaysD (P : Program) (g : Goroutine) (w : World) : Prop := ∃ g', stepG P false g w = .go g' w #[mk .disable]
/-- It says its release; behind it, silent, 'disable'. -/
def SaysR (P : Program) (R : World → World → Prop) (Wg : Nat) (g : Goroutine) (w : World) : Prop :=
  ∃ g', stepG P false g w = .go g' w #[mk (.releaseMerge (stA Wg))] ∧ ∃ m, Goes P false R DC0 (SaysD P) m g' w

section
variable {Own Rd : Nat → Loc → Prop} {ty : TypeId} {Wg C n Low k : Nat} {val : Value}
theorem says_no : ∀ (m m' : Nat) (g : Goroutine) (w : World), Goes P false (RW ty Wg C n Low (k - 1)) DC0 (SaysD P) m g w → Goes P false (RW ty Wg C n Low (k - 1)) (DWs Wg Own Rd C n k) (AtR0 P ty Wg C n Low k val) m' g w → False := by
  intro m
  induction m with
  | zero =>
    intro m' g w h h'
    obtain ⟨g', hs⟩ := h w (RW.refl w)
    cases m' with
    | zero =>
      obtain ⟨_, _, g2, h2, _⟩ := h' w (RW.refl w)
      rw [hs] at h2
      cases h2
    | succ m' =>
      rcases h' with h' | ⟨_, h'⟩
      · obtain ⟨_, _, g2, h2, _⟩ := h' w (RW.refl w)
        rw [hs] at h2
        cases h2
      · have h2 := h' w (RW.refl w)
        rw [hs, goes_go] at h2
        exact (h2.1.2 (mk .disable) (by simp)).2.1 rfl
  | succ m ih =>
    intro m' g w h h'
    rcases h with h | ⟨_, h⟩
    · exact ih m' g w (Goes.stop h) h'
    · have h1 := h w (RW.refl w)
      cases hs : stepG P false g w with
      | go g' w' es =>
        rw [hs, goes_go] at h1
        obtain ⟨⟨rfl, rfl⟩, h1⟩ := h1
        cases m' with
        | zero =>
          obtain ⟨_, _, g2, h2, _⟩ := h' w' (RW.refl w')
          rw [hs] at h2
          cases h2
        | succ m' =>
          rcases h' with h' | ⟨_, h'⟩
          · obtain ⟨_, _, g2, h2, _⟩ := h' w' (RW.refl w')
            rw [hs] at h2
            cases h2
          · have h2 := h' w' (RW.refl w')
            rw [hs, goes_go] at h2
            exact ih _ _ _ h1 h2.2
      | _ => rw [hs] at h1; exact h1.elim

/-- Two walks of one goroutine: the one says how silent it is, the other what stands at its stop. -/
theorem says_both : ∀ (m m' : Nat) (g : Goroutine) (w : World), Goes P false (RW ty Wg C n Low (k - 1)) DC0 (SaysR P (RW ty Wg C n Low (k - 1)) Wg) m g w → Goes P false (RW ty Wg C n Low (k - 1)) (DWs Wg Own Rd C n k) (AtR0 P ty Wg C n Low k val) m' g w →
    Goes P false (RW ty Wg C n Low (k - 1)) DC0 (AtR0 P ty Wg C n Low k val) m g w := by
  have stop : ∀ (m' : Nat) (g : Goroutine) (w : World), (∀ w₁, RW ty Wg C n Low (k - 1) w w₁ → SaysR P (RW ty Wg C n Low (k - 1)) Wg g w₁) → Goes P false (RW ty Wg C n Low (k - 1)) (DWs Wg Own Rd C n k) (AtR0 P ty Wg C n Low k val) m' g w →
      ∀ w₁, RW ty Wg C n Low (k - 1) w w₁ → AtR0 P ty Wg C n Low k val g w₁ := by
    intro m' g w h h' w₁ h₁
    cases m' with
    | zero => exact h' w₁ h₁
    | succ m' =>
      rcases h' with h' | ⟨_, h'⟩
      · exact h' w₁ h₁
      · obtain ⟨g', hs, m, hm⟩ := h w₁ h₁
        have h2 := h' w₁ h₁
        rw [hs, goes_go] at h2
        exact (says_no _ _ _ _ hm h2.2).elim
  intro m
  induction m with
  | zero => exact fun m' g w h h' => stop m' g w h h'
  | succ m ih =>
    intro m' g w h h'
    rcases h with h | ⟨hr, h⟩
    · exact .inl (stop m' g w h h')
    · refine .inr ⟨hr, fun w₁ h₁ => ?_⟩
      have h1 := h w₁ h₁
      cases hs : stepG P false g w₁ with
      | go g' w' es =>
        rw [hs, goes_go] at h1
        obtain ⟨⟨rfl, rfl⟩, h1⟩ := h1
        rw [goes_go]
        refine ⟨⟨rfl, rfl⟩, ?_⟩
        cases m' with
        | zero =>
          obtain ⟨_, _, g2, h2, _⟩ := h' w' h₁
          rw [hs] at h2
          cases h2
        | succ m' =>
          rcases h' with h' | ⟨_, h'⟩
          · obtain ⟨_, _, g2, h2, _⟩ := h' w' h₁
            rw [hs] at h2
            cases h2
          · have h2 := h' w' h₁
            rw [hs, goes_go] at h2
            exact ih _ _ _ h1 h2.2
      | _ => rw [hs] at h1; exact h1.elim

set_option maxRecDepth 100000 in
set_option maxHeartbeats 8000000 in
theorem done_silent (H : WgLib P L) {c : Frame} {cs : List Frame} (w : World) (hK : WgLive L.tWg Wg w ∧ Has C (k - 1) val w) :
    Goes P false (RW L.tWg Wg C n Low (k - 1)) DC0 (SaysR P (RW L.tWg Wg C n Low (k - 1)) Wg) 23 (G ((baseD L.done).at ⟨#[.pointer (some ⟨Wg, 0, none⟩), undef, undef, undef], []⟩ [.code (body_done L)]) (c :: cs)) w := by
  lib_facts
  simp only [body_done, body_add, doneFn, addFn, Option.getD_some]
  u_reg kn_rely hK
  u_op kn_rely hK
  u_in kn_rely hK
  refine goes_call rfl rfl (by k_ne) rfl H.f_add (nm_add L) rfl ⟨by u_nil, ?_⟩
  walk_nrmf addFn
  u_c stepG_seq kn_rely hK
  u_cond true kn_rely hK
  u_c stepG_seq kn_rely hK
  u_c stepG_seq kn_rely hK
  u_reg kn_rely hK
  u_op kn_rely hK
  u_op kn_rely hK
  u_c stepG_region_end kn_rely hK
  u_cond true kn_rely hK
  u_reg kn_rely hK
  u_op kn_rely hK
  u_conv H.underlying_tWgP H.room_tWg (WgLive.cell0 hK.1).choose_spec kn_rely hK
  refine Goes.stop (fun w₁ h₁ => ?_)
  replace hK := kn_rely hK h₁
  clear h₁
  refine ⟨_, stepG_markAt .releaseMerge (by simp) rfl rfl (by k_ne) rfl H.f_relMerge (x_relMerge_n L) (x_relMerge_b L) (x_relMerge_x L) (x_relMerge_f L) (by simp [Act.eval, stA]), 10, ?_⟩
  walk_nrm
  u_c stepG_region_end kn_rely hK
  u_c stepG_seq kn_rely hK
  u_reg kn_rely hK
  refine Goes.stop (fun w₁ h₁ => ?_)
  exact ⟨_, stepG_mark0 .disable (by simp) rfl rfl (by k_ne) rfl H.f_disable (x_disable_n L) (x_disable_b L) (x_disable_x L) (x_disable_f L)⟩
end

/-- A silent walk, as a way. -/
theorem way_of_silent {p : Crew} {q : Part} {Stop : Goroutine → World → Prop} {Stop' : (Nat → Prop) → Goroutine → World → Prop} {I : (Nat → Prop) → World → Prop} {bk : Nat}
    (hI : ∀ M w w', Rel p q M w w' → I M w → I M w') {M : Nat → Prop} (hb : M bk) (hn : ∀ g w, Stop g w → I M w → Stop' M g w) :
    ∀ (m : Nat) (g : Goroutine) (w : World), Goes P false (RW p.ty p.Wg bk 1 0 0) DC0 Stop m g w → I M w → ∃ t, Way P false (Rel p q) (Gua p q) Stop' t M g w := by
  intro m
  induction m with
  | zero => exact fun g w h hi => Way.here fun w₁ h₁ => hn _ _ (h w₁ (RW.of_rel h₁ hb)) (hI _ _ _ h₁ hi)
  | succ m ih =>
    intro g w h hi
    rcases h with h | ⟨hr, h⟩
    · exact Way.here fun w₁ h₁ => hn _ _ (h w₁ (RW.of_rel h₁ hb)) (hI _ _ _ h₁ hi)
    · refine Way.goes hr fun w₁ h₁ => ?_
      have h1 := h w₁ (RW.of_rel h₁ hb)
      cases hs : stepG P false g w₁ with
      | go g' w' es =>
        rw [hs, goes_go] at h1
        obtain ⟨⟨rfl, rfl⟩, h1⟩ := h1
        rw [goes_go]
        exact ⟨M, Gua.idle, ih _ _ h1 (hI _ _ _ h₁ hi)⟩
      | _ => rw [hs] at h1; exact h1.elim

/-! ### the worker, from its birth -/
noncomputable def bot : Frame := { (default : Frame) with fn := Try.prog.funcs.size, defers := [], mode := .panicking [goexitEntry] }
def call104 (Wg bk Bm Bn Bd : Nat) : Deferred := { target := .fn (.func 104) #[.pointer (some ⟨Wg, 0, none⟩), .pointer (some ⟨bk, 0, none⟩), .pointer (some ⟨Bm, 0, none⟩), .pointer (some ⟨Bn, 0, none⟩), .pointer (some ⟨Bd, 0, none⟩)], args := #[] }
omit [Payload] in
theorem born_step (Wg bk Bm Bn Bd : Nat) (w : World) : stepG Try.prog false (born Try.prog (call104 Wg bk Bm Bn Bd)) w =
    .go (G ((baseD 104).at ⟨#[.pointer (some ⟨Wg, 0, none⟩), .pointer (some ⟨bk, 0, none⟩), .pointer (some ⟨Bm, 0, none⟩), .pointer (some ⟨Bn, 0, none⟩), .pointer (some ⟨Bd, 0, none⟩), undef, undef, undef, undef, undef, undef, undef, undef, undef, undef, undef], []⟩ [.code body104]) [bot]) w #[] := by
  simp [born, call104, stepG, unwind, callDeferred, invoke, callFunc, Try.func104, Try.f104, seen, GStep.after, G, Frame.enter, Frame.at, baseD, bot, body104]
omit [Payload] in
theorem quits_tail (T : Array Value) : QuitsD Try.prog 2 0 (G { (baseD 104).at ⟨T, []⟩ [] with mode := .returning } [bot]) := by
  refine QuitsD.ctl (g' := G bot []) rfl (fun w => ?_) ?_
  · simp [G, stepG, unwind, doReturn, results, Frame.at, baseD, bot, Try.func104, Try.f104, seen, GStep.after, goexitEntry]
  refine QuitsD.ctl (g' := { G bot [] with status := .finished }) rfl (fun w => ?_) ⟨rfl, rfl⟩
  simp [G, stepG, unwind, bot, goexitEntry, Frame.catches]
  rfl

variable {p : Crew} {q : Part} {St : (Nat → Prop) → (Nat → Prop) → World → Prop} {fd : FuncId} {fdo : Func} {cd : Code} {caps : Array Value} {Bm Bn Bd bk mny stp k0 : Nat}
/-- ████ A WORKER: from its birth to its release. ████ -/
theorem worker_way {f : Plan} {k : Nat} {Post : Nat → (Nat → Prop) → World → Prop} (J : Job f.p (f.part k) St fd fdo cd caps Bm Bn Bd bk mny stp k0) (hty : f.p.ty = 124)
    (hP : ∀ M w w', Rel f.p (f.part k) M w w' → Post k M w → Post k M w') (hpost : ∀ M w, St (fun j => j < mny ∧ j % stp = k0) M w → Post k M w)
    (M : Nat → Prop) (w : World) (hF : St (fun _ => False) M w) : ∃ t, Work Try.prog f Post k t M (born Try.prog (call104 f.p.Wg bk Bm Bn Bd)) w := by
  have T := termsW f.p (f.part k)
  have hb : ∀ D M w, St D M w → M bk := fun D M w h => (J.first D M w h).2
  refine Way.goes rfl fun w₁ h₁ => ?_
  replace hF := J.rely _ _ _ _ h₁ hF
  rw [born_step, goes_go]
  refine ⟨M, Gua.idle, ?_⟩
  refine wp104 J M w₁ hF (baseD 104) [] [bot] _ rfl (by simp [baseD]) ?_
  rintro e a' M' w' ⟨rfl, hd, hS⟩
  refine Wm.ctl T rfl (fun _ => stepG_end) ?_
  obtain ⟨tm, df⟩ := a'
  simp only at hd
  subst hd
  refine Way.goes rfl fun w₂ h₂ => ?_
  replace hS := J.rely _ _ _ _ h₂ hS
  rw [stepG_unwind_enter (f := 105) (args := #[.pointer (some ⟨f.p.Wg, 0, none⟩)]) (ds := []) rfl wgLib.f_done (nm_done link) rfl, goes_go]
  refine ⟨M', Gua.idle, ?_⟩
  have hK : WgLive (link).tWg f.p.Wg w₂ ∧ Has bk 0 (.int .i64 k0) w₂ := ⟨by have := J.live _ _ _ hS; rw [hty] at this; exact this, (J.first _ _ _ hS).1⟩
  have h1 := done_silent (L := link) (n := 1) (Low := 0) (k := 1) wgLib (c := { (baseD 104).at ⟨tm, []⟩ [] with mode := .returning }) (cs := [bot]) w₂ hK
  have h2 := doneN (L := link) (Own := fun _ _ => False) (Rd := fun _ _ => False) (n := 1) (Low := 0) (k := 1) wgLib (c := { (baseD 104).at ⟨tm, []⟩ [] with mode := .returning }) (cs := [bot]) rfl (quits_tail tm) w₂ hK
  have h3 := says_both _ _ _ _ h1 h2
  have e : (link).tWg = f.p.ty := hty.symm
  rw [e] at h3
  exact way_of_silent (I := Post k) hP (hb _ _ _ hS) (fun g w h hi => ⟨hi, bk, _, hb _ _ _ hS, h⟩) _ _ _ h3 (hpost _ _ hS)
end
end Go.Proofs.Ytmhbjmkdekgmlaa.Sim
