/-
  Calls between two crews that take a seed, or a seed's address.
  Conditions: the seed's block is not among those that are touched atomically alone; the seed's words are uint64s.
-/
import Derived.Test.YtmhbjmkdekgmlaaQuietE
set_option linter.unusedSimpArgs false
set_option linter.unusedVariables false
namespace Go.Proofs.Ytmhbjmkdekgmlaa.Sim
open Go Go.Conc Go.ConcN Go.RowKit
open Go.Proofs.Ytmhbjmkdekgmlaa.Seeds (Sd SdObj splitS wordsV validB cells3 RdRow marksL)

/-- The seed s stands in the block B. -/
def SeedAt (w : World) (B : Nat) (s : Sd) : Prop := ∃ cs e f, w.heap[B]? = some (.cells cs e f) ∧ AllClosed cs ∧ cs[0]? = some (.int .i64 s.k) ∧ cs[1]? = some (.int .u64 s.a) ∧ cs[2]? = some (.int .u64 s.b)
theorem sdObj_closed (s : Sd) : AllClosed #[.int .i64 s.k, .int .u64 s.a, .int .u64 s.b] := by
  intro j hj
  simp only [List.size_toArray, List.length_cons, List.length_nil] at hj
  obtain rfl | rfl | rfl : j = 0 ∨ j = 1 ∨ j = 2 := by omega
  all_goals exact .int _ _
theorem SeedAt.of_obj {w : World} {B : Nat} {s : Sd} (h : w.heap[B]? = some (SdObj s)) : SeedAt w B s := ⟨_, _, _, h, sdObj_closed s, rfl, rfl, rfl⟩
theorem SeedAt.of {w w' : World} {B : Nat} {s : Sd} (h : SeedAt w B s) (hh : w'.heap[B]? = w.heap[B]?) : SeedAt w' B s := by
  obtain ⟨cs, e, f, h1, h2⟩ := h
  exact ⟨cs, e, f, hh.trans h1, h2⟩
theorem SeedAt.lt {w : World} {B : Nat} {s : Sd} (h : SeedAt w B s) : B < w.heap.size := by
  obtain ⟨cs, e, f, h1, _⟩ := h
  exact lt_of_some h1
theorem SeedAt.cells {w : World} {B : Nat} {s : Sd} (h : SeedAt w B s) : w.cell? ⟨B, 0, none⟩ = some (.int .i64 s.k) ∧ w.cell? ⟨B, 1, none⟩ = some (.int .u64 s.a) ∧ w.cell? ⟨B, 2, none⟩ = some (.int .u64 s.b) := by
  obtain ⟨cs, e, f, h1, h2, h3, h4, h5⟩ := h
  simp only [World.cell?, h1]
  exact ⟨h3, h4, h5⟩
theorem nd_single (B : Nat) : ∀ (i j b : Nat), [B][i]? = some b → [B][j]? = some b → i = j := by
  intro i j b hi hj
  have := (List.getElem?_eq_some_iff.1 hi).1
  have := (List.getElem?_eq_some_iff.1 hj).1
  simp at *
  omega
theorem single_get {B i b : Nat} (h : ([B].toArray)[i]? = some b) : i = 0 ∧ b = B := by
  rw [List.getElem?_toArray] at h
  have := (List.getElem?_eq_some_iff.1 h).1
  simp only [List.length_cons, List.length_nil] at this
  obtain rfl : i = 0 := by omega
  simp at h
  exact ⟨rfl, h.symm⟩
theorem seed_build {w : World} {B : Nat} {s : Sd} (h : SeedAt w B s) : ∃ u : World, u.heap.size = 1 ∧ HRel [B].toArray u w ∧ HRel (idT u.heap.size) u u ∧ u.heap[0]? = w.heap[B]? := by
  obtain ⟨cs, e, f, h1, h2, _⟩ := h
  obtain ⟨u, hu1, hu2, hu3, hu4⟩ := build (w := w) [B] (nd_single B) (fun b hb => by simp only [List.mem_singleton] at hb; subst hb; exact ⟨cs, e, f, h1, h2⟩)
  exact ⟨u, hu1, hu2, hu3, hu4 0 B rfl⟩
theorem ptr_rel (B off : Nat) : VRel [B].toArray (.pointer (some ⟨0, off, none⟩)) (.pointer (some ⟨B, off, none⟩)) := .ptr ⟨rfl, rfl, rfl⟩
theorem ptr_id {u : World} (hu : u.heap.size = 1) (off : Nat) : VRel (idT u.heap.size) (.pointer (some ⟨0, off, none⟩)) (.pointer (some ⟨0, off, none⟩)) := .ptr ⟨idT_get.2 ⟨by show 0 < _; omega, rfl⟩, rfl, rfl⟩
theorem np_two {f : FuncId} {a b : Value} (h0 : npT f 0 = false) (hb : Closed b) : ∀ (t : Nat) v, npT f t = true → (#[a, b] : Array Value)[t]? = some v → Closed v := by
  intro t v ht hv
  have hlt := (Array.getElem?_eq_some_iff.1 hv).1
  simp only [List.size_toArray, List.length_cons, List.length_nil] at hlt
  obtain rfl | rfl : t = 0 ∨ t = 1 := by omega
  · rw [h0] at ht; cases ht
  · simp at hv; subst hv; exact hb

section
variable {Fin : End} {c : Gh} {w : World} {B : Nat} {s : Sd}
theorem cq_can (n : Int) (hs : s.Ok) (hB : w.heap[B]? = some (SdObj s)) (hSb : ∀ b, c.1 b → b < w.heap.size) (nB : ¬ c.1 B) :
    CQ Fin 88 #[.pointer (some ⟨B, 0, none⟩), .int .i64 n] c w fun v' c' w' => v' = .bool (validB s && (decide (0 ≤ n) && decide (n ≤ 256))) ∧ c' = c ∧ KeepQ (fun _ => False) w w' := by
  obtain ⟨u, hu1, hu2, hu3, hu4⟩ := seed_build (.of_obj hB)
  refine cq_read (u := u) (ρ := [B].toArray) (by rfl) (.bool _) (argsL := #[.pointer (some ⟨0, 0, none⟩), .int .i64 n]) (np_two (by decide) (.int _ _)) (crel_two (ptr_id hu1 0) (.same (.int _ _))) hu3 (fun τ => ?_) (crel_two (ptr_rel B 0) (.same (.int _ _))) hu2 (fun i b hi => by rw [(single_get hi).2]; exact nB) hSb
  exact (Seeds.can_any s 0 n (tp u τ) hs (hu4.trans hB)).mono fun e w' ⟨h1, h2⟩ => ⟨h1, by rw [← h2]; rfl⟩
theorem cq_splitL (i : Nat) (hi : i ≤ 1000) (hs : s.Ok) (hB : SeedAt w B s) (hSb : ∀ b, c.1 b → b < w.heap.size) (nB : ¬ c.1 B) :
    CQ Fin 89 #[.pointer (some ⟨B, 0, none⟩), .int .i64 i] c w fun v' c' w' => v' = (splitS s i).val ∧ c' = c ∧ KeepQ (fun b => b = B) w w' ∧ SeedAt w' B s := by
  obtain ⟨u, hu1, hu2, hu3, hu4⟩ := seed_build hB
  obtain ⟨c0, c1, c2⟩ := (SeedAt.cells hB)
  refine CallQ.mono (cq_lone (u := u) (ρ := [B].toArray) (Rf := fun v w' => v = (splitS s i).val ∧ w'.cell? ⟨0, 0, none⟩ = some (.int .i64 s.k) ∧ w'.cell? ⟨0, 1, none⟩ = some (.int .u64 s.a) ∧ w'.cell? ⟨0, 2, none⟩ = some (.int .u64 s.b)) (by rfl) (argsL := #[.pointer (some ⟨0, 0, none⟩), .int .i64 i]) (np_two (by decide) (.int _ _)) (crel_two (ptr_id hu1 0) (.same (.int _ _))) hu3 (fun τ => ?_) (crel_two (ptr_rel B 0) (.same (.int _ _))) hu2 (fun i b hi => by rw [(single_get hi).2]; exact nB) hSb) ?_
  · refine (Seeds.splitL_any s i 0 (tp u τ) hs ⟨by omega, by omega⟩ ?_ ?_ ?_).mono fun e w' ⟨h1, h2⟩ => by subst h1; exact ⟨rfl, h2⟩
    · rw [← c0]; show u.cell? _ = _; simp only [World.cell?, hu4]
    · rw [← c1]; show u.cell? _ = _; simp only [World.cell?, hu4]
    · rw [← c2]; show u.cell? _ = _; simp only [World.cell?, hu4]
  · rintro v' c' w' ⟨rfl, hk, ρ', u', v, hE, H', _, ⟨τ, rfl, d0, d1, d2⟩, hV⟩
    refine ⟨hV.eq_of_closed (sd_closed _), rfl, hk.mono fun b _ ⟨i, hi⟩ => (single_get hi).2, ?_⟩
    obtain ⟨cs, e, f, y1, y2, y3⟩ := H'.row 0 B (hE.get rfl)
    have e0 : ∀ k, (tp u' τ).cell? ⟨0, k, none⟩ = cs[k]? := fun k => by
      show u'.cell? _ = _
      simp only [World.cell?, y1]
      rfl
    rw [e0] at d0 d1 d2
    exact ⟨cs, e, f, y2, y3, d0, d1, d2⟩
theorem cq_wordsL (n : Nat) (hn : n ≤ 256) (hs : s.Ok) (hB : w.heap[B]? = some (SdObj s)) (hSb : ∀ b, c.1 b → b < w.heap.size) (nB : ¬ c.1 B) :
    CQ Fin 90 #[.pointer (some ⟨B, 0, none⟩), .int .i64 n] c w fun v' c' w' => c' = c ∧ KeepQ (fun b => b = B) w w' ∧ RowC w' w.heap.size 2 1 v' n (wordsV s n) ∧ ∀ g, v'.ownBlock = some g → ¬ c.1 g := by
  obtain ⟨u, hu1, hu2, hu3, hu4⟩ := seed_build (.of_obj hB)
  refine CallQ.mono (cq_lone (u := u) (ρ := [B].toArray) (Rf := fun v w' => w'.ownsRow 1 2 1 v n (wordsV s n)) (by rfl) (argsL := #[.pointer (some ⟨0, 0, none⟩), .int .i64 n]) (np_two (by decide) (.int _ _)) (crel_two (ptr_id hu1 0) (.same (.int _ _))) hu3 (fun τ => ?_) (crel_two (ptr_rel B 0) (.same (.int _ _))) hu2 (fun i b hi => by rw [(single_get hi).2]; exact nB) hSb) ?_
  · refine (Seeds.wordsL_any s n 0 (tp u τ) hs hn (hu4.trans hB)).mono fun e w' ⟨v, h1, h2⟩ => by
      subst h1
      have : (tp u τ).heap.size = 1 := hu1
      rw [this] at h2
      exact h2
  · rintro v' c' w' ⟨rfl, hk, ρ', u', v, hE, H', hin, ⟨τ, ho⟩, hV⟩
    have hnew : ∀ (i b : Nat), 1 ≤ i → ρ'[i]? = some b → w.heap.size ≤ b := fun i b h1 hi => by
      rcases (hin i b hi).2 with ⟨j, hj⟩ | h
      · obtain ⟨rfl, rfl⟩ := single_get hj
        have := H'.inj i 0 _ hi (hE.get rfl)
        omega
      · exact h
    obtain ⟨r1, r2⟩ := ownsRow_rel2 (u := tp u' τ) (H'.tape rfl) hV ho (B := w.heap.size) hnew
    refine ⟨rfl, hk.mono fun b _ ⟨i, hi⟩ => (single_get hi).2, r1, fun g hg => ?_⟩
    obtain ⟨i, _, hi⟩ := r2 g hg
    exact (hin i g hi).1

theorem three_closed {a b d : Value} (ha : Closed a) (hb : Closed b) (hd : Closed d) : AllClosed #[a, b, d] := by
  intro j hj
  simp only [List.size_toArray, List.length_cons, List.length_nil] at hj
  obtain rfl | rfl | rfl : j = 0 ∨ j = 1 ∨ j = 2 := by omega
  · exact ha
  · exact hb
  · exact hd
theorem one_closed {a : Value} (ha : Closed a) : AllClosed #[a] := AllClosed.one ha
theorem cq_within (n lo hi : Int) (hSb : ∀ b, c.1 b → b < w.heap.size) : CQ Fin 61 #[.int .i64 n, .int .i64 lo, .int .i64 hi] c w fun v' c' w' => v' = .bool (decide (lo ≤ n) && decide (n ≤ hi)) ∧ c' = c ∧ KeepQ (fun _ => False) w w' :=
  cq_plain (by rfl) (three_closed (.int _ _) (.int _ _) (.int _ _)) (.bool _) (fun u _ => (Seeds.within_any n lo hi u).mono fun _ _ h => h.1) hSb
theorem cq_in (n lo hi : Int) (hSb : ∀ b, c.1 b → b < w.heap.size) : CQ Fin 87 #[.int .i64 n, .int .i64 lo, .int .i64 hi] c w fun v' c' w' => v' = .bool (decide (lo ≤ n) && decide (n ≤ hi)) ∧ c' = c ∧ KeepQ (fun _ => False) w w' :=
  cq_plain (by rfl) (three_closed (.int _ _) (.int _ _) (.int _ _)) (.bool _) (fun u _ => (Seeds.in_any n lo hi u).mono fun _ _ h => h.1) hSb
theorem cq_isCrew (n : Int) (hSb : ∀ b, c.1 b → b < w.heap.size) : CQ Fin 66 #[.int .i64 n] c w fun v' c' w' => v' = .bool (decide (1 ≤ n) && decide (n ≤ 8)) ∧ c' = c ∧ KeepQ (fun _ => False) w w' :=
  cq_plain (by rfl) (one_closed (.int _ _)) (.bool _) (fun u _ => (Seeds.crew_any n u).mono fun _ _ h => h.1) hSb
theorem cq_valid (hs : s.Ok) (hSb : ∀ b, c.1 b → b < w.heap.size) : CQ Fin 17 #[s.val] c w fun v' c' w' => v' = .bool (validB s) ∧ c' = c ∧ KeepQ (fun _ => False) w w' :=
  cq_plain (by rfl) (one_closed (sd_closed s)) (.bool _) (fun u _ => Seeds.valid_any s u hs) hSb
theorem cq_toSeed (s : Sd) (hSb : ∀ b, c.1 b → b < w.heap.size) : CQ Fin 39 #[s.val] c w fun v' c' w' => v' = s.val ∧ c' = c ∧ KeepQ (fun _ => False) w w' :=
  cq_plain (by rfl) (one_closed (sd_closed s)) (sd_closed s) (fun u _ => Seeds.seed_any s u) hSb
end
end Go.Proofs.Ytmhbjmkdekgmlaa.Sim
