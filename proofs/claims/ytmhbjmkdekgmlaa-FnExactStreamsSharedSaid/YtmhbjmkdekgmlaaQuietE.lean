/-
  Calls between two crews whose arguments name places: a seed's block, rows of int64.
  Conditions: the blocks hold nothing that names a place, and are not among those that are touched atomically alone.
-/
import Derived.Test.YtmhbjmkdekgmlaaQuietA
import Derived.Test.YtmhbjmkdekgmlaaWorkE
import Derived.Test.YtmhbjmkdekgmlaaLoneL
set_option linter.unusedSimpArgs false
set_option linter.unusedVariables false
namespace Go.Proofs.Ytmhbjmkdekgmlaa.Sim
open Go Go.Conc Go.ConcN Go.RowKit
open Go.Proofs.Ytmhbjmkdekgmlaa.Seeds (Sd SdObj splitS wordsV validB cells3 RdRow marksL)

/-- A lone heap made of some blocks of the world. -/
theorem build {w : World} (bs : List Nat) (hnd : ∀ (i j b : Nat), bs[i]? = some b → bs[j]? = some b → i = j) (hc : ∀ b ∈ bs, ∃ c e f, w.heap[b]? = some (.cells c e f) ∧ AllClosed c) :
    ∃ u : World, u.heap.size = bs.length ∧ HRel bs.toArray u w ∧ HRel (idT u.heap.size) u u ∧ ∀ (i b : Nat), bs[i]? = some b → u.heap[i]? = w.heap[b]? := by
  refine ⟨{ w with heap := (bs.map fun b => (w.heap[b]?).getD (.cells #[] 0)).toArray }, by simp, ?_, ?_, ?_⟩
  · refine ⟨by simp, fun i j b hi hj => hnd i j b (by simpa using hi) (by simpa using hj), fun i b hi => ?_, fun i b hi => ?_⟩
    · obtain ⟨c, e, f, h, _⟩ := hc b (List.mem_of_getElem? (by simpa using hi))
      exact lt_of_some h
    · obtain ⟨c, e, f, h, h2⟩ := hc b (List.mem_of_getElem? (by simpa using hi))
      have hi' : bs[i]? = some b := by simpa using hi
      exact ⟨c, e, f, by simp [hi', h], h, h2⟩
  · refine ⟨by simp [idT], fun i j b hi hj => by have := (idT_get.1 hi).2; have := (idT_get.1 hj).2; omega, fun i b hi => by obtain ⟨h1, rfl⟩ := idT_get.1 hi; exact h1, fun i b hi => ?_⟩
    obtain ⟨hlt, rfl⟩ := idT_get.1 hi
    have hlt' : b < bs.length := by simpa using hlt
    obtain ⟨c, e, f, h, h2⟩ := hc bs[b] (List.getElem_mem hlt')
    have h3 : bs[b]? = some bs[b] := List.getElem?_eq_getElem hlt'
    exact ⟨c, e, f, by simp [h3, h], by simp [h3, h], h2⟩
  · intro i b hi
    obtain ⟨c, e, f, h, _⟩ := hc b (List.mem_of_getElem? hi)
    simp [hi, h]

theorem image {w u : World} {bs : List Nat} (hu : ∀ (i b : Nat), bs[i]? = some b → u.heap[i]? = w.heap[b]?) (hs : u.heap.size = bs.length) {i lo : Nat} {r : Value} {n : Nat} {xs : List Value} (hr : RowC w lo 2 1 r n xs) (hi : ∀ g, r.ownBlock = some g → bs[i]? = some g) :
    ∃ rl, VRel bs.toArray rl r ∧ VRel (idT u.heap.size) rl rl ∧ (∀ u' : World, u'.heap = u.heap → u'.ownsRow 0 2 1 rl n xs) ∧ ∃ pa ca, rl = .slice pa n ca := by
  rcases hr.1.2 with ⟨rfl, rfl⟩ | ⟨g, cap, cur, rfl, _, h1, h2, h3, h4, h5⟩
  · exact ⟨_, .same (.sliceNil 0 0), .same (.sliceNil 0 0), fun u' _ => ⟨hr.1.1, .inl ⟨rfl, rfl⟩⟩, _, _, rfl⟩
  · have hg := hi g rfl
    have hlt : i < bs.length := (List.getElem?_eq_some_iff.1 hg).1
    refine ⟨.slice (some ⟨i, 0, none⟩) n cap, .slice n cap ⟨by simpa using hg, rfl, rfl⟩, .slice n cap ⟨idT_get.2 ⟨by show i < _; omega, rfl⟩, rfl, rfl⟩, fun u' he => ⟨hr.1.1, .inr ⟨i, cap, cur, rfl, Nat.zero_le _, ?_, h2, h3, h4, h5⟩⟩, _, _, rfl⟩
    rw [he, hu i g hg]; exact h1
theorem RdRow.own {w : World} {base n : Nat} {pa : Option Addr} {ca : Nat} {L : List Int} (h : w.ownsRow base 2 1 (.slice pa n ca) n (L.map (Value.int .i64))) : RdRow w pa L := by
  intro j x hx
  have hl := h.1
  rw [List.length_map] at hl
  have hj : j < L.length := (List.getElem?_eq_some_iff.1 hx).1
  rcases h.2 with ⟨e, rfl⟩ | ⟨g, cap, cur, e, _⟩
  · omega
  · cases e
    refine ⟨g, rfl, ?_⟩
    rw [h.cellAt j (by omega), List.getElem?_map, hx]
    rfl
theorem ownsRow_rel2 {ρ : Array Nat} {u w : World} (H : HRel ρ u w) {v v' : Value} (hv : VRel ρ v v') {base B : Nat} {e : TypeId} {size n : Nat} {xs : List Value} (h : u.ownsRow base e size v n xs) (hB : ∀ (i b : Nat), base ≤ i → ρ[i]? = some b → B ≤ b) :
    RowC w B e size v' n xs ∧ ∀ g, v'.ownBlock = some g → ∃ i : Nat, base ≤ i ∧ ρ[i]? = some g := by
  obtain ⟨h0, h⟩ := h
  rcases h with ⟨rfl, hn⟩ | ⟨g, cap, cur, rfl, hg, hc, h1, h2, h3, h4⟩
  · have := hv.eq_of_closed (.sliceNil 0 0)
    subst this
    exact ⟨⟨⟨h0, .inl ⟨rfl, hn⟩⟩, fun g hg => by simp [Value.ownBlock] at hg⟩, fun g hg => by simp [Value.ownBlock] at hg⟩
  · cases hv with
    | same hcl => cases hcl
    | @slice a b _ _ hab =>
      obtain ⟨e1, e2, e3⟩ := hab
      obtain ⟨bb, bo, bs⟩ := b
      simp only at e1 e2 e3
      subst e2 e3
      obtain ⟨c, e', f, k1, k2, k3⟩ := H.row _ _ e1
      rw [hc] at k1
      cases k1
      refine ⟨⟨⟨h0, .inr ⟨bb, cap, cur, rfl, hB _ _ hg e1, k2, h1, h2, h3, h4⟩⟩, fun g' hg' => ?_⟩, fun g' hg' => ?_⟩
      · simp only [Value.ownBlock, Option.some.injEq] at hg'
        subst hg'
        exact ⟨cur, k2, k3⟩
      · simp only [Value.ownBlock, Option.some.injEq] at hg'
        subst hg'
        exact ⟨_, hg, e1⟩
theorem two_closed {a b : Value} (ha : Closed a) (hb : Closed b) : AllClosed #[a, b] := by
  intro j hj
  simp only [List.size_toArray, List.length_cons, List.length_nil] at hj
  obtain rfl | rfl : j = 0 ∨ j = 1 := by omega
  · exact ha
  · exact hb
theorem crel_two {ρ : Array Nat} {a b a' b' : Value} (ha : VRel ρ a a') (hb : VRel ρ b b') : CRel ρ #[a, b] #[a', b'] := by
  refine ⟨rfl, fun j hj _ => ?_⟩
  simp only [List.size_toArray, List.length_cons, List.length_nil] at hj
  obtain rfl | rfl : j = 0 ∨ j = 1 := by omega
  · exact ha
  · exact hb

section
variable {Fin : End} {c : Gh} {w : World}
/-- A call that only reads. -/
theorem cq_read {f : FuncId} (hB : BT f = true) {argsL argsC : Array Value} {u : World} {ρ : Array Nat} {v : Value} (hv : Closed v) (hcl : ∀ (t : Nat) v, npT f t = true → argsL[t]? = some v → Closed v)
    (ha : CRel (idT u.heap.size) argsL argsL) (Hu : HRel (idT u.heap.size) u u) (hc : ∀ τ, Calls Try.prog f argsL (tp u τ) fun e w' => e = .returned v ∧ w'.heap = u.heap) (hargs : CRel ρ argsL argsC)
    (H : HRel ρ u w) (hρ : ∀ (i b : Nat), ρ[i]? = some b → ¬ c.1 b) (hSb : ∀ b, c.1 b → b < w.heap.size) :
    CQ Fin f argsC c w fun v' c' w' => v' = v ∧ c' = c ∧ KeepQ (fun _ => False) w w' := by
  refine CallQ.mono (cq_lone hB (Rf := fun v' w' => v' = v ∧ w'.heap = u.heap) hcl ha Hu (fun τ => (hc τ).mono fun e w' ⟨h1, h2⟩ => by subst h1; exact ⟨rfl, h2⟩) hargs H hρ hSb) ?_
  rintro v' c' w' ⟨rfl, hk, ρ', u', v1, hE, H', _, ⟨τ, rfl, hu⟩, hV⟩
  refine ⟨hV.eq_of_closed hv, rfl, hk.kin, hk.size, fun b hb _ => ?_⟩
  by_cases hx : ∃ i : Nat, ρ[i]? = some b
  · obtain ⟨i, hi⟩ := hx
    obtain ⟨c1, e1, f1, k1, k2, _⟩ := H.row i b hi
    obtain ⟨c2, e2, f2, k3, k4, _⟩ := H'.row i b (hE.get hi)
    have hu' : u'.heap = u.heap := hu
    rw [hu', k1] at k3
    cases k3
    rw [k4, k2]
  · exact hk.keep b hb hx

theorem nd_one {o : Option Nat} : ∀ (i j b : Nat), o.toList[i]? = some b → o.toList[j]? = some b → i = j := by
  intro i j b hi hj
  cases o with
  | none => simp at hi
  | some g => have := (List.getElem?_eq_some_iff.1 hi).1; have := (List.getElem?_eq_some_iff.1 hj).1; simp at *; omega
theorem row_build {la n : Nat} {ra : Value} {xs : List Value} (ha : RowC w la 2 1 ra n xs) : ∃ u : World, u.heap.size = ra.ownBlock.toList.length ∧ HRel ra.ownBlock.toList.toArray u w ∧ HRel (idT u.heap.size) u u ∧ ∃ pa ca, VRel ra.ownBlock.toList.toArray (.slice pa n ca) ra ∧ VRel (idT u.heap.size) (.slice pa n ca) (.slice pa n ca) ∧ ∀ u' : World, u'.heap = u.heap → u'.ownsRow 0 2 1 (.slice pa n ca) n xs := by
  obtain ⟨u, hu1, hu2, hu3, hu4⟩ := build (w := w) ra.ownBlock.toList nd_one (fun b hb => by
    obtain ⟨cur, k1, k2⟩ := ha.2 b (by simpa [Option.mem_toList] using hb)
    exact ⟨cur, _, _, k1, k2⟩)
  obtain ⟨al, a1, a2, a3, pa, ca, rfl⟩ := image hu4 hu1 (i := 0) ha (fun g hg => by rw [hg]; rfl)
  exact ⟨u, hu1, hu2, hu3, pa, ca, a1, a2, a3⟩
theorem opt_of {o : Option Nat} {i b : Nat} (h : o.toList.toArray[i]? = some b) : o = some b := by
  have := List.mem_of_getElem? (show o.toList[i]? = some b by rwa [List.getElem?_toArray] at h)
  simpa [Option.mem_toList] using this

/-- A marked row is held. -/
theorem cq_heldRow {la n k : Nat} {ra : Value} (ha : RowC w la 2 1 ra n ((marksL k n).map (Value.int .i64))) (hn : n ≤ 1000) (hk : k ≤ 1000000) (hSb : ∀ b, c.1 b → b < w.heap.size) (na : ∀ g, ra.ownBlock = some g → ¬ c.1 g) :
    CQ Fin 44 #[ra, .int .i64 k] c w fun v' c' w' => v' = .int .i64 ((k + n : Nat) : Int) ∧ c' = c ∧ KeepQ (fun _ => False) w w' := by
  obtain ⟨u, hu1, hu2, hu3, pa, ca, a1, a2, a3⟩ := row_build ha
  refine cq_read (u := u) (ρ := ra.ownBlock.toList.toArray) (by rfl) (.int _ _) (argsL := #[.slice pa n ca, .int .i64 k]) ?_ (crel_two a2 (.same (.int _ _))) hu3 (fun τ => ?_) (crel_two a1 (.same (.int _ _))) hu2 (fun i b hi => na b (opt_of hi)) hSb
  · intro t v ht hv
    have hlt := (Array.getElem?_eq_some_iff.1 hv).1
    simp only [List.size_toArray, List.length_cons, List.length_nil] at hlt
    obtain rfl | rfl : t = 0 ∨ t = 1 := by omega
    · exact absurd ht (by decide)
    · simp at hv; subst hv; exact .int _ _
  · exact Seeds.heldRow_any k n pa ca (tp u τ) (RdRow.own (a3 _ rfl)) hn hk
/-- A row is marked. -/
theorem cq_markRow {la n k : Nat} {ra : Value} {xs : List Value} (ha : RowC w la 2 1 ra n xs) (hn : n ≤ 1000) (hk : k ≤ 1000000) (hSb : ∀ b, c.1 b → b < w.heap.size) (na : ∀ g, ra.ownBlock = some g → ¬ c.1 g) :
    CQ Fin 43 #[ra, .int .i64 k] c w fun v' c' w' => v' = .int .i64 ((k + n : Nat) : Int) ∧ c' = c ∧ KeepQ (fun b => ra.ownBlock = some b) w w' ∧ RowC w' la 2 1 ra n ((marksL k n).map (Value.int .i64)) := by
  obtain ⟨u, hu1, hu2, hu3, pa, ca, a1, a2, a3⟩ := row_build ha
  refine CallQ.mono (cq_lone (u := u) (ρ := ra.ownBlock.toList.toArray) (Rf := fun v w' => v = .int .i64 ((k + n : Nat) : Int) ∧ w'.ownsRow 0 2 1 (.slice pa n ca) n ((marksL k n).map (Value.int .i64))) (by rfl) (argsL := #[.slice pa n ca, .int .i64 k]) ?_ (crel_two a2 (.same (.int _ _))) hu3 (fun τ => ?_) (crel_two a1 (.same (.int _ _))) hu2 (fun i b hi => na b (opt_of hi)) hSb) ?_
  · intro t v ht hv
    have hlt := (Array.getElem?_eq_some_iff.1 hv).1
    simp only [List.size_toArray, List.length_cons, List.length_nil] at hlt
    obtain rfl | rfl : t = 0 ∨ t = 1 := by omega
    · exact absurd ht (by decide)
    · simp at hv; subst hv; exact .int _ _
  · exact (Seeds.markRow_any k n 0 (.slice pa n ca) xs (tp u τ) (a3 _ rfl) hn hk).mono fun e w' ⟨h1, h2⟩ => by subst h1; exact ⟨rfl, h2⟩
  · rintro v' c' w' ⟨rfl, hkp, ρ', u', v1, hE, H', hB, ⟨τ, rfl, ho⟩, hV⟩
    refine ⟨hV.eq_of_closed (.int _ _), rfl, hkp.mono fun b _ ⟨i, hi⟩ => opt_of hi, ?_⟩
    have hr : VRel ρ' (.slice pa n ca) ra := a1.ext hE
    refine ⟨⟨ho.1, ?_⟩, fun g hg => ?_⟩
    · rcases ho.2 with ⟨e1, e2⟩ | ⟨g, cap, cur, e1, _, k2, k3, k4, k5, k6⟩
      · rw [e1] at hr
        exact .inl ⟨hr.eq_of_closed (.sliceNil 0 0), e2⟩
      · cases e1
        cases hr with
        | same hcl => cases hcl
        | @slice a b _ _ hab =>
          obtain ⟨x1, x2, x3⟩ := hab
          obtain ⟨bb, bo, bs⟩ := b
          simp only at x1 x2 x3
          subst x2 x3
          obtain ⟨c1, e1, f1, y1, y2, y3⟩ := H'.row _ _ x1
          have : (tp u' τ).heap[g]? = u'.heap[g]? := rfl
          rw [this, y1] at k2
          cases k2
          have hlo : la ≤ bb := by
            rcases ha.1.2 with ⟨e, _⟩ | ⟨g', _, _, e, z, _⟩
            · cases e
            · cases e; exact z
          exact .inr ⟨bb, ca, _, rfl, hlo, y2, k3, k4, k5, k6⟩
    · obtain ⟨i, hi⟩ : ∃ i : Nat, ρ'[i]? = some g := by
        have h0 : ra.ownBlock.toList.toArray[0]? = some g := by rw [hg]; rfl
        exact ⟨0, hE.get h0⟩
      obtain ⟨c1, e1, f1, _, y2, y3⟩ := H'.row _ _ hi
      have hblk : ∃ cur, w'.heap[g]? = some (.cells cur 2) := by
        rcases ho.2 with ⟨e1, e2⟩ | ⟨g2, cap, cur, e1, _, k2, _⟩
        · rw [e1] at hr
          have := hr.eq_of_closed (.sliceNil 0 0)
          rw [this] at hg
          simp [Value.ownBlock] at hg
        · cases e1
          cases hr with
          | same hcl => cases hcl
          | @slice a b _ _ hab =>
            obtain ⟨x1, x2, x3⟩ := hab
            obtain ⟨bb, bo, bs⟩ := b
            simp only at x1 x2 x3
            simp only [Value.ownBlock, Option.some.injEq] at hg
            subst hg
            obtain ⟨c1, e1, f1, y1, y2, y3⟩ := H'.row _ _ x1
            have : (tp u' τ).heap[g2]? = u'.heap[g2]? := rfl
            rw [this, y1] at k2
            cases k2
            exact ⟨_, y2⟩
      obtain ⟨cur, hcur⟩ := hblk
      rw [hcur] at y2
      cases y2
      exact ⟨_, hcur, y3⟩
/-- Two equal rows. -/
theorem cq_eqRow {la lb n : Nat} {ra rb : Value} {L : List Int} (ha : RowC w la 2 1 ra n (L.map (Value.int .i64))) (hb : RowC w lb 2 1 rb n (L.map (Value.int .i64))) (hab : ∀ g, ra.ownBlock = some g → rb.ownBlock ≠ some g) (hn : n ≤ 1000)
    (hSb : ∀ b, c.1 b → b < w.heap.size) (na : ∀ g, ra.ownBlock = some g → ¬ c.1 g) (nb : ∀ g, rb.ownBlock = some g → ¬ c.1 g) :
    CQ Fin 42 #[ra, rb] c w fun v' c' w' => v' = .bool true ∧ c' = c ∧ KeepQ (fun _ => False) w w' := by
  obtain ⟨bs, hbs⟩ : ∃ bs, bs = ra.ownBlock.toList ++ rb.ownBlock.toList := ⟨_, rfl⟩
  have hmem : ∀ b, b ∈ bs → ra.ownBlock = some b ∨ rb.ownBlock = some b := fun b hb => by
    rw [hbs] at hb
    simpa [Option.mem_toList] using hb
  have hnd : ∀ (i j b : Nat), bs[i]? = some b → bs[j]? = some b → i = j := by
    intro i j b hi hj
    subst hbs
    cases h1 : ra.ownBlock with
    | none =>
      cases h2 : rb.ownBlock with
      | none => simp [h1, h2] at hi
      | some g => simp [h1, h2] at hi hj; have := (List.getElem?_eq_some_iff.1 hi).1; have := (List.getElem?_eq_some_iff.1 hj).1; simp at *; omega
    | some g1 =>
      cases h2 : rb.ownBlock with
      | none => simp [h1, h2] at hi hj; have := (List.getElem?_eq_some_iff.1 hi).1; have := (List.getElem?_eq_some_iff.1 hj).1; simp at *; omega
      | some g2 =>
        have hne : g2 ≠ g1 := fun e => hab g1 h1 (by rw [h2, e])
        have li := (List.getElem?_eq_some_iff.1 hi).1
        have lj := (List.getElem?_eq_some_iff.1 hj).1
        simp [h1, h2] at hi hj li lj
        obtain rfl | rfl : i = 0 ∨ i = 1 := by omega
        · obtain rfl | rfl : j = 0 ∨ j = 1 := by omega
          · rfl
          · simp at hi hj; omega
        · obtain rfl | rfl : j = 0 ∨ j = 1 := by omega
          · simp at hi hj; omega
          · rfl
  obtain ⟨u, hu1, hu2, hu3, hu4⟩ := build (w := w) bs hnd (fun b hb' => by
    rcases hmem b hb' with h | h
    · obtain ⟨cur, k1, k2⟩ := ha.2 b h; exact ⟨cur, _, _, k1, k2⟩
    · obtain ⟨cur, k1, k2⟩ := hb.2 b h; exact ⟨cur, _, _, k1, k2⟩)
  obtain ⟨al, a1, a2, a3, pa, ca, rfl⟩ := image hu4 hu1 (i := 0) ha (fun g hg => by rw [hbs, hg]; rfl)
  obtain ⟨bl, b1, b2, b3, pb, cb, rfl⟩ := image hu4 hu1 (i := ra.ownBlock.toList.length) hb (fun g hg => by rw [hbs, hg]; simp)
  have hLn : n = L.length := by have := ha.1.1; simpa using this.symm
  have hin : ∀ (i b : Nat), bs.toArray[i]? = some b → ra.ownBlock = some b ∨ rb.ownBlock = some b := fun i b hi => hmem b (List.mem_of_getElem? (by simpa using hi))
  refine cq_read (u := u) (ρ := bs.toArray) (by rfl) (.bool _) (argsL := #[.slice pa n ca, .slice pb n cb]) ?_ (crel_two a2 b2) hu3 (fun τ => ?_) (crel_two a1 b1) hu2 (fun i b hi => (hin i b hi).elim (na b) (nb b)) hSb
  · intro t v ht hv
    have hlt := (Array.getElem?_eq_some_iff.1 hv).1
    simp only [List.size_toArray, List.length_cons, List.length_nil] at hlt
    obtain rfl | rfl : t = 0 ∨ t = 1 := by omega
    · exact absurd ht (by decide)
    · exact absurd ht (by decide)
  · subst hLn
    exact Seeds.eqRow_any L pa pb ca cb (tp u τ) (RdRow.own (a3 _ rfl)) (RdRow.own (b3 _ rfl)) hn
end
end Go.Proofs.Ytmhbjmkdekgmlaa.Sim
