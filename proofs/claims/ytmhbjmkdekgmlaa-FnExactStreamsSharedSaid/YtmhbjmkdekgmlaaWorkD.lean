/-
  What a worker holds while it fills its results: the rows that are made, what all may read; over a call; over a store into its result.
  No condition.
-/
import Derived.Test.YtmhbjmkdekgmlaaWorkB
import Derived.Test.YtmhbjmkdekgmlaaLoneD
set_option linter.unusedSimpArgs false
set_option linter.unusedVariables false
namespace Go.Proofs.Ytmhbjmkdekgmlaa.Sim
open Go Go.Conc Go.ConcN Go.RowKit
open Go.Proofs.Ytmhbjmkdekgmlaa.Seeds (ownsRow_of)

/-- A row of the lone run, in company. -/
theorem ownsRow_rel {ρ : Array Nat} {u w : World} (H : HRel ρ u w) {v v' : Value} (hv : VRel ρ v v') {base B : Nat} {e : TypeId} {size n : Nat} {xs : List Value} (h : u.ownsRow base e size v n xs) (hB : ∀ (i b : Nat), ρ[i]? = some b → B ≤ b) :
    w.ownsRow B e size v' n xs ∧ ∀ g, v'.ownBlock = some g → ∃ i : Nat, ρ[i]? = some g := by
  obtain ⟨h0, h⟩ := h
  rcases h with ⟨rfl, hn⟩ | ⟨g, cap, cur, rfl, hg, hc, h1, h2, h3, h4⟩
  · have := hv.eq_of_closed (.sliceNil 0 0)
    subst this
    exact ⟨⟨h0, .inl ⟨rfl, hn⟩⟩, fun g hg => by simp [Value.ownBlock] at hg⟩
  · cases hv with
    | same hcl => cases hcl
    | @slice a b _ _ hab =>
      obtain ⟨e1, e2, e3⟩ := hab
      obtain ⟨bb, bo, bs⟩ := b
      simp only at e1 e2 e3
      subst e2 e3
      obtain ⟨c, e', f, k1, k2, _⟩ := H.row _ _ e1
      rw [hc] at k1
      cases k1
      refine ⟨⟨h0, .inr ⟨bb, cap, cur, rfl, hB _ _ e1, k2, h1, h2, h3, h4⟩⟩, fun g hg => ?_⟩
      simp only [Value.ownBlock, Option.some.injEq] at hg
      subst hg
      exact ⟨_, e1⟩

theorem ownsRow_base {w : World} {base B : Nat} {e : TypeId} {size n : Nat} {v : Value} {xs : List Value} (h : w.ownsRow base e size v n xs) (hB : B ≤ base) : w.ownsRow B e size v n xs := by
  refine ⟨h.1, h.2.imp id ?_⟩
  rintro ⟨g, cap, cur, h1, h2, h3⟩
  exact ⟨g, cap, cur, h1, Nat.le_trans hB h2, h3⟩
theorem ownsRow_lt {w : World} {base : Nat} {e : TypeId} {size n : Nat} {v : Value} {xs : List Value} (h : w.ownsRow base e size v n xs) {g : Nat} (hg : v.ownBlock = some g) : g < w.heap.size ∧ base ≤ g := by
  rcases h.2 with ⟨rfl, _⟩ | ⟨g', cap, cur, rfl, h1, h2, _⟩
  · simp [Value.ownBlock] at hg
  · simp only [Value.ownBlock, Option.some.injEq] at hg
    subst hg
    exact ⟨(Array.getElem?_eq_some_iff.1 h2).1, h1⟩
theorem lt_of_some {α : Type} {a : Array α} {i : Nat} {x : α} (h : a[i]? = some x) : i < a.size := (Array.getElem?_eq_some_iff.1 h).1

/-- A row whose block holds nothing that names a place. -/
def RowC (w : World) (base : Nat) (e : TypeId) (size : Nat) (v : Value) (n : Nat) (xs : List Value) : Prop :=
  w.ownsRow base e size v n xs ∧ ∀ g, v.ownBlock = some g → ∃ cur, w.heap[g]? = some (.cells cur e) ∧ AllClosed cur
theorem RowC.of {w w' : World} {base : Nat} {e : TypeId} {size n : Nat} {v : Value} {xs : List Value} (h : RowC w base e size v n xs) (hb : ∀ g, v.ownBlock = some g → w'.heap[g]? = w.heap[g]?) : RowC w' base e size v n xs :=
  ⟨ownsRow_of h.1 hb, fun g hg => by obtain ⟨cur, h1, h2⟩ := h.2 g hg; exact ⟨cur, (hb g hg).trans h1, h2⟩⟩
theorem RowC.base {w : World} {base B : Nat} {e : TypeId} {size n : Nat} {v : Value} {xs : List Value} (h : RowC w base e size v n xs) (hB : B ≤ base) : RowC w B e size v n xs := ⟨ownsRow_base h.1 hB, h.2⟩
theorem RowC.lt {w : World} {base : Nat} {e : TypeId} {size n : Nat} {v : Value} {xs : List Value} (h : RowC w base e size v n xs) {g : Nat} (hg : v.ownBlock = some g) : g < w.heap.size ∧ base ≤ g := ownsRow_lt h.1 hg
theorem rowC_rel {ρ : Array Nat} {u w : World} (H : HRel ρ u w) {v v' : Value} (hv : VRel ρ v v') {base B : Nat} {e : TypeId} {size n : Nat} {xs : List Value} (h : u.ownsRow base e size v n xs) (hB : ∀ (i b : Nat), ρ[i]? = some b → B ≤ b) :
    RowC w B e size v' n xs ∧ ∀ g, v'.ownBlock = some g → ∃ i : Nat, ρ[i]? = some g := by
  obtain ⟨h1, h2⟩ := ownsRow_rel H hv h hB
  refine ⟨⟨h1, fun g hg => ?_⟩, h2⟩
  obtain ⟨i, hi⟩ := h2 g hg
  obtain ⟨c, e', f, _, k2, k3⟩ := H.row _ _ hi
  rcases h1.2 with ⟨rfl, _⟩ | ⟨g', cap, cur, rfl, _, k4, _⟩
  · simp [Value.ownBlock] at hg
  · simp only [Value.ownBlock, Option.some.injEq] at hg
    subst hg
    rw [k4] at k2
    cases k2
    exact ⟨_, k4, k3⟩

structure StJ (p : Crew) (q : Part) (w₀ : World) (bk k0 : Nat) (e : TypeId) (sz cnt : Nat) (xs : Nat → List Value) (D M : Nat → Prop) (w : World) : Prop where
  ro : ∀ b, q.Ro b → w.heap[b]? = w₀.heap[b]?
  rolt : ∀ b, q.Ro b → b < w.heap.size
  k : w.heap[bk]? = some (.cells #[.int .i64 k0] 2)
  kept : M bk
  out : OutAt p w
  live : WgLive p.ty p.Wg w
  nm : ¬ M p.Wg
  lt : p.Wg < w.heap.size
  ck : p.C < bk
  own : ∀ j, D j → q.Cell j
  rows : ∀ j, D j → ∃ v, w.cell? ⟨p.C, j, none⟩ = some v ∧ RowC w (bk + 1) e sz v cnt (xs j) ∧ ∀ g, v.ownBlock = some g → M g
  sep : ∀ j j' v v' g, D j → D j' → j ≠ j' → w.cell? ⟨p.C, j, none⟩ = some v → w.cell? ⟨p.C, j', none⟩ = some v' → v.ownBlock = some g → v'.ownBlock ≠ some g

section
variable {p : Crew} {q : Part} {w₀ w w' : World} {bk k0 : Nat} {e : TypeId} {sz cnt : Nat} {xs : Nat → List Value} {D M M' : Nat → Prop}
theorem StJ.rely (h : StJ p q w₀ bk k0 e sz cnt xs D M w) (r : Rel p q M w w') : StJ p q w₀ bk k0 e sz cnt xs D M w' :=
  ⟨fun b hb => (r.own b (.inr hb)).trans (h.ro b hb), fun b hb => Nat.lt_of_lt_of_le (h.rolt b hb) r.size, (r.own _ (.inl h.kept)).trans h.k, h.kept, r.out h.out, r.live h.live, h.nm, Nat.lt_of_lt_of_le h.lt r.size, h.ck, h.own, fun j hj => by
    obtain ⟨v, h1, h2, h3⟩ := h.rows j hj
    exact ⟨v, (r.cell j (h.own j hj)).trans h1, h2.of fun g hg => r.own g (.inl (h3 g hg)), h3⟩,
    fun j j' v v' g hj hj' hne hv hv' => h.sep j j' v v' g hj hj' hne ((r.cell j (h.own j hj)).symm.trans hv) ((r.cell j' (h.own j' hj')).symm.trans hv')⟩
theorem StJ.ltk (h : StJ p q w₀ bk k0 e sz cnt xs D M w) : bk < w.heap.size := lt_of_some h.k
theorem StJ.ltc (h : StJ p q w₀ bk k0 e sz cnt xs D M w) : p.C < w.heap.size := by obtain ⟨cs, h1, _⟩ := h.out; exact lt_of_some h1
theorem StJ.at (h : StJ p q w₀ bk k0 e sz cnt xs D M w) (d : Nat) : StJ p q w₀ bk k0 e sz cnt xs D M (w.at d) := ⟨h.ro, h.rolt, h.k, h.kept, h.out, h.live, h.nm, h.lt, h.ck, h.own, h.rows, h.sep⟩
theorem StJ.owns (h : StJ p q w₀ bk k0 e sz cnt xs D M w) : Own p q (fun b => (q.Ro b ∨ M b) ∧ b < w.heap.size) w M M w :=
  ⟨fun _ x => x, fun _ _ => rfl, fun _ x => x.1, fun _ _ => rfl, h.out, h.live, h.nm, h.lt⟩
theorem StJ.over (h : StJ p q w₀ bk k0 e sz cnt xs D M w) (o : Own p q (fun b => (q.Ro b ∨ M b) ∧ b < w.heap.size) w M M' w') : StJ p q w₀ bk k0 e sz cnt xs D M' w' := by
  have hk := o.keep bk ⟨.inr h.kept, h.ltk⟩
  refine ⟨fun b hb => (o.keep b ⟨.inl hb, h.rolt b hb⟩).trans (h.ro b hb), fun b hb => ?_, hk.trans h.k, o.more _ h.kept, o.out, o.live, o.nm, o.lt, h.ck, h.own, fun j hj => ?_, fun j j' v v' g hj hj' hne hv hv' => h.sep j j' v v' g hj hj' hne ((o.cell j (h.own j hj)).symm.trans hv) ((o.cell j' (h.own j' hj')).symm.trans hv')⟩
  · have := o.keep b ⟨.inl hb, h.rolt b hb⟩
    rw [Array.getElem?_eq_getElem (h.rolt b hb)] at this
    exact lt_of_some this
  · obtain ⟨v, h1, h2, h3⟩ := h.rows j hj
    exact ⟨v, (o.cell j (h.own j hj)).trans h1, h2.of fun g hg => o.keep g ⟨.inr (h3 g hg), (h2.lt hg).1⟩, fun g hg => o.more _ (h3 g hg)⟩

/-- The store of a row into one's own result. -/
theorem StJ.store (h : StJ p q w₀ bk k0 e sz cnt xs D M w) {i : Nat} {v : Value} (hi : q.Cell i) (hn : i < p.n) (hD : ¬ D i) (hv : RowC w (bk + 1) e sz v cnt (xs i)) (hm : ∀ g, v.ownBlock = some g → M g) (hnew : ∀ j v' g, D j → w.cell? ⟨p.C, j, none⟩ = some v' → v'.ownBlock = some g → v.ownBlock ≠ some g) (hro : ¬ q.Ro p.C) (hcw : p.C ≠ p.Wg) :
    StJ p q w₀ bk k0 e sz cnt xs (fun j => D j ∨ j = i) M (w.setCell ⟨p.C, i, none⟩ v) := by
  obtain ⟨cs, hc, hsz⟩ := h.out
  have hot : ∀ b, b ≠ p.C → (w.setCell ⟨p.C, i, none⟩ v).heap[b]? = w.heap[b]? := fun b hb => by
    simp only [World.setCell, Array.getElem?_modify, if_neg (Ne.symm hb)]
  have hC : (w.setCell ⟨p.C, i, none⟩ v).heap[p.C]? = some (.cells (cs.setIfInBounds i v) p.e) := by
    simp only [World.setCell, Array.getElem?_modify, if_true, hc, Option.map_some]
    rfl
  have hs : (w.setCell ⟨p.C, i, none⟩ v).heap.size = w.heap.size := by simp
  have hck := h.ck
  have hrow : ∀ {v' : Value} {j : Nat}, RowC w (bk + 1) e sz v' cnt (xs j) → RowC (w.setCell ⟨p.C, i, none⟩ v) (bk + 1) e sz v' cnt (xs j) := fun h2 => h2.of fun g hg => hot g (by have := (h2.lt hg).2; omega)
  have hcell : (w.setCell ⟨p.C, i, none⟩ v).cell? ⟨p.C, i, none⟩ = some v := by
    obtain ⟨v0, hv0⟩ : ∃ v0, cs[i]? = some v0 := ⟨cs[i], Array.getElem?_eq_getElem (by omega)⟩
    simp [World.cell?, hC, Array.getElem?_setIfInBounds, hsz, hn]
  have hfar : ∀ j, j ≠ i → (w.setCell ⟨p.C, i, none⟩ v).cell? ⟨p.C, j, none⟩ = w.cell? ⟨p.C, j, none⟩ := fun j hj => by
    simp [World.cell?, hC, hc, Array.getElem?_setIfInBounds, Ne.symm hj]
  refine ⟨fun b hb => (hot b fun e => hro (e ▸ hb)).trans (h.ro b hb), fun b hb => by rw [hs]; exact h.rolt b hb, (hot bk (by omega)).trans h.k, h.kept, ⟨_, hC, by simpa using hsz⟩, WgLive.of_block (hot _ (Ne.symm hcw)) h.live, h.nm, by rw [hs]; exact h.lt, h.ck, ?_, ?_, ?_⟩
  · rintro j (hj | rfl)
    · exact h.own j hj
    · exact hi
  · rintro j (hj | rfl)
    · obtain ⟨v', h1, h2, h3⟩ := h.rows j hj
      exact ⟨v', (hfar j fun e => hD (e ▸ hj)).trans h1, hrow h2, h3⟩
    · exact ⟨v, hcell, hrow hv, hm⟩
  · have hof : ∀ j, D j → j ≠ i := fun j hj e => hD (e ▸ hj)
    rintro j j' v1 v2 g (hj | rfl) (hj' | rfl) hne h1 h2 hg
    · exact h.sep j j' v1 v2 g hj hj' hne ((hfar j (hof j hj)).symm.trans h1) ((hfar j' (hof j' hj')).symm.trans h2) hg
    · rw [hcell] at h2
      cases h2
      exact hnew j v1 g hj ((hfar j (hof j hj)).symm.trans h1) hg
    · rw [hcell] at h1
      cases h1
      exact fun hg2 => hnew j' v2 g hj' ((hfar j' (hof j' hj')).symm.trans h2) hg2 hg
    · exact absurd rfl hne
theorem Gua.cell {p : Crew} {q : Part} {M : Nat → Prop} {w : World} {i : Nat} {v : Value} {es : Array Event} (hi : q.Cell i) (ho : OutAt p w) (he : ∀ e ∈ es, e = ⟨.cell ⟨p.C, i, none⟩, true, false⟩) : Gua p q M w (w.setCell ⟨p.C, i, none⟩ v) es M := by
  obtain ⟨cs, hc, hsz⟩ := ho
  have hC : (w.setCell ⟨p.C, i, none⟩ v).heap[p.C]? = some (.cells (cs.setIfInBounds i v) p.e) := by
    simp only [World.setCell, Array.getElem?_modify, if_true, hc, Option.map_some]
    rfl
  have hs : (w.setCell ⟨p.C, i, none⟩ v).heap.size = w.heap.size := by simp
  refine ⟨funext fun b => propext ⟨.inl, fun h => h.elim id fun h => by omega⟩, by rw [hs]; exact Nat.le_refl _, fun b _ _ hb => by simp only [World.setCell, Array.getElem?_modify, if_neg (Ne.symm hb)], fun _ => ⟨_, hC, by simpa using hsz⟩, fun j hj => ?_, rfl, rfl, rfl, fun e hx => .inl ⟨_, true, he e hx, .inr (.inl ⟨rfl, hi⟩)⟩⟩
  have : j ≠ i := fun e => hj (e ▸ hi)
  simp [World.cell?, hC, hc, Array.getElem?_setIfInBounds, Ne.symm this]
end
end Go.Proofs.Ytmhbjmkdekgmlaa.Sim
