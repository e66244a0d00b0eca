/-
  sync.WaitGroup's Add(+1) and Wait, made by goroutine 0 in company: the stops at which it looks at the group's cells; what the walks between them ask of the rely and the guarantee.
  No condition.
-/
import Derived.Test.YtmhbjmkdekgmlaaWayB
import Derived.Conc.WgGenN3
set_option linter.unusedSimpArgs false
set_option linter.unusedVariables false
namespace Go.Proofs.Ytmhbjmkdekgmlaa.Sim
open Go Go.Conc Go.ConcN Go.RowKit Go.Conc.Lib Go.ConcR.Gen Go.ConcN.Gen
open Go.ConcR (KK wgBlock WgAt stA smA rd wr mk)
variable {L : WgLink}

section
variable {γ : Type} {P : Program} {main : Bool} {R : γ → World → World → Prop} {D : γ → World → World → Array Event → γ → Prop} {Stop : γ → Goroutine → World → Prop}
theorem Way.goes {c : γ} {g : Goroutine} {w : World} (hs : g.status = .running) (h : ∀ w₁, R c w w₁ → (stepG P main g w₁).goes fun g' w' es => ∃ c', D c w₁ w' es c' ∧ ∃ t, Way P main R D Stop t c' g' w') : ∃ t, Way P main R D Stop t c g w := by
  refine Way.go hs fun w₁ h1 => ?_
  have hk := h w₁ h1
  cases hgo : stepG P main g w₁ with
  | go g' w' es =>
    rw [hgo, goes_go] at hk
    obtain ⟨c', hD, hW⟩ := hk
    exact ⟨g', w', es, c', rfl, hD, hW⟩
  | _ => rw [hgo] at hk; exact hk.elim
end

section
variable {γ : Type} (R : γ → World → World → Prop) (D : γ → World → World → Array Event → γ → Prop)
/-- What the caller holds, under the rely; what an idle step may do. -/
structure Kept (ty : TypeId) (Wg : Nat) (F : World → Prop) (c : γ) : Prop where
  rely : ∀ w w₁, F w ∧ WgLive ty Wg w → R c w w₁ → F w₁ ∧ WgLive ty Wg w₁
  none : ∀ w es, (∀ e ∈ es, False) → D c w w es c
  said : ∀ w a, a.block = Wg → D c w w #[mk (.read a)] c ∧ D c w w #[mk (.write a)] c
  st : ∀ w v, F w → F (w.setCell (stA Wg) v)
  sm : ∀ w v, F w → F (w.setCell (smA Wg) v)

variable (P : Program) (ty : TypeId) (Wg : Nat)
abbrev Wy (Stop : γ → Goroutine → World → Prop) (c : γ) (g : Goroutine) (w : World) : Prop := ∃ t, Way P true R D Stop t c g w

/-- Add's stops, from its end backwards. -/
def AtKeA (Next : γ → Goroutine → World → Prop) (c : γ) (g : Goroutine) (w : World) : Prop :=
  g.status = .running ∧ ∃ g', stepG P true g w = .go g' w #[mk .enable] ∧ Wy R D P Next c g' w
def AtAdd (Next : γ → Goroutine → World → Prop) (c : γ) (g : Goroutine) (w : World) : Prop :=
  g.status = .running ∧ ∀ v : Nat, v < 2147483647 → WgAt ty Wg w (v * KK) 0 →
    ∃ g', stepG P true g w = .go g' (w.setCell (stA Wg) (.int .u64 ((v + 1) * KK))) #[rd (stA Wg), wr (stA Wg)] ∧ Wy R D P (AtKeA R D P Next) c g' (w.setCell (stA Wg) (.int .u64 ((v + 1) * KK)))
def AtKdA (Next : γ → Goroutine → World → Prop) (c : γ) (g : Goroutine) (w : World) : Prop :=
  g.status = .running ∧ ∃ g', stepG P true g w = .go g' w #[mk .disable] ∧ Wy R D P (AtAdd R D P ty Wg Next) c g' w

/-- Wait's stops, from its end backwards. -/
def AtAcq (Next : γ → Goroutine → World → Prop) (c : γ) (g : Goroutine) (w : World) : Prop :=
  g.status = .running ∧ ∃ g', stepG P true g w = .go g' w #[mk (.acquire (stA Wg))] ∧ Wy R D P Next c g' w
def AtKeW (Next : γ → Goroutine → World → Prop) (c : γ) (g : Goroutine) (w : World) : Prop :=
  g.status = .running ∧ ∃ g', stepG P true g w = .go g' w #[mk .enable] ∧ Wy R D P (AtAcq R D P Wg Next) c g' w
def AtW4 (Next : γ → Goroutine → World → Prop) (c : γ) (g : Goroutine) (w : World) : Prop :=
  g.status = .running ∧ (WgAt ty Wg w 0 0 → ∃ g', stepG P true g w = .go g' w #[rd (stA Wg)] ∧ Wy R D P (AtKeW R D P Wg Next) c g' w)
def AtW3 (Next : γ → Goroutine → World → Prop) (c : γ) (g : Goroutine) (w : World) : Prop :=
  g.status = .running ∧ g.offers = none ∧
    ((∃ st, WgAt ty Wg w st 0) → stepG P true g w = .go { g with status := .blocked } w #[]) ∧
    (WgAt ty Wg w 0 1 → ∃ g', stepG P true g w = .go g' (w.setCell (smA Wg) (.int .u32 0)) (semEvents (smA Wg)) ∧ Wy R D P (AtW4 R D P ty Wg Next) c g' (w.setCell (smA Wg) (.int .u32 0)))
def AtW2 (Anch Next : γ → Goroutine → World → Prop) (vs : Nat) (c : γ) (g : Goroutine) (w : World) : Prop :=
  g.status = .running ∧ ∀ v : Nat, v < 2147483648 → WgAt ty Wg w (v * KK) 0 →
    (v = vs → ∃ g', stepG P true g w = .go g' (w.setCell (stA Wg) (.int .u64 (v * KK + 1))) #[rd (stA Wg), wr (stA Wg)] ∧ Wy R D P (AtW3 R D P ty Wg Next) c g' (w.setCell (stA Wg) (.int .u64 (v * KK + 1)))) ∧
    (v ≠ vs → ∃ g', stepG P true g w = .go g' w #[rd (stA Wg)] ∧ Wy R D P Anch c g' w)
def AtW1 (Anch Next : γ → Goroutine → World → Prop) (c : γ) (g : Goroutine) (w : World) : Prop :=
  g.status = .running ∧ ∀ v : Nat, v < 2147483648 → WgAt ty Wg w (v * KK) 0 → ∃ g', stepG P true g w = .go g' w #[rd (stA Wg)] ∧
    (v = 0 → Wy R D P (AtKeW R D P Wg Next) c g' w) ∧ (v ≠ 0 → Wy R D P (AtW2 R D P ty Wg Anch Next v) c g' w)
def AtKdW (Anch : γ → Goroutine → World → Prop) (c : γ) (g : Goroutine) (w : World) : Prop :=
  g.status = .running ∧ ∃ g', stepG P true g w = .go g' w #[mk .disable] ∧ Wy R D P Anch c g' w
end

end Go.Proofs.Ytmhbjmkdekgmlaa.Sim
