/-
  append in a walk between two crews: what it lists is no atomic access; its step.
  Conditions: the slice is owned; the appended cells stand; neither lies in a block that is touched atomically alone.
-/
import Derived.Test.YtmhbjmkdekgmlaaQuietA
import Derived.Conc.AppendWalk
import Derived.Deep.AppendLies
set_option linter.unusedSimpArgs false
set_option linter.unusedVariables false
namespace Go.Proofs.Ytmhbjmkdekgmlaa.Sim
open Go Go.Conc Go.ConcN

theorem Seeds.ownsRow_lt2 {w : World} {base : Nat} {e : TypeId} {size n : Nat} {v : Value} {xs : List Value} (h : w.ownsRow base e size v n xs) {g : Nat} (hg : v.ownBlock = some g) : g < w.heap.size := (h.lt g hg).2
/-- Meanings that touch memory plainly. -/
inductive Tame {α : Type} : Sem α → Prop
  | pure (a : α) : Tame (.pure a)
  | load (a : Addr) (k : Value → Sem α) (h : ∀ v, Tame (k v)) : Tame (.load .plain a k)
  | store (a : Addr) (v : Value) (k : Sem α) (h : Tame k) : Tame (.store .plain a v k)
  | new (o : Obj) (k : Nat → Sem α) (h : ∀ b, Tame (k b)) : Tame (.new o k)
  | shape (r : Nat) (k : Option (TypeId × Nat) → Sem α) (h : ∀ s, Tame (k s)) : Tame (.shape r k)
  | frozen (a : Addr) (k : Bool → Sem α) (h : ∀ s, Tame (k s)) : Tame (.frozen a k)
  | choose (q : Question) (k : Nat → Sem α) (h : ∀ n, Tame (k n)) : Tame (.choose q k)
  | program (k : Program → Sem α) (h : ∀ p, Tame (k p)) : Tame (.program k)
  | mark (m : Mark) (k : Sem α) (h : Tame k) : Tame (.mark m k)
  | halt (h : Halt) : Tame (.halt h)

theorem Tame.events {α : Type} {P : Program} {m : Sem α} (h : Tame m) : ∀ (w : World) (es : Array Event) (ev : Event), ev ∈ (m.runT P w es).2 → ev ∈ es ∨ ev.sync = false ∨ ∃ k, ev.loc = .mark k := by
  induction h with
  | pure a => intro w es ev h; exact .inl (by simpa only [Sem.runT] using h)
  | load a k _ ih =>
    intro w es ev h
    simp only [Sem.runT] at h
    split at h
    · rcases ih _ _ _ _ h with h | h
      · rcases Array.mem_push.1 h with h | rfl
        · exact .inl h
        · exact .inr (.inl rfl)
      · exact .inr h
    · split at h
      · rcases ih _ _ _ _ h with h | h
        · rcases Array.mem_append.1 h with h | h
          · exact .inl h
          · obtain ⟨x, _, rfl⟩ := Array.mem_map.1 h
            exact .inr (.inl rfl)
        · exact .inr h
      · exact .inl h
  | store a v k _ ih =>
    intro w es ev h
    cases v <;> simp only [Sem.runT] at h <;> first
      | exact .inl h
      | (split at h
         · split at h
           · exact .inl h
           · rcases ih _ _ _ h with h | h
             · rcases Array.mem_push.1 h with h | rfl
               · exact .inl h
               · exact .inr (.inl rfl)
             · exact .inr h
         · split at h
           · rcases ih _ _ _ h with h | h
             · rcases Array.mem_append.1 h with h | h
               · exact .inl h
               · obtain ⟨x, _, rfl⟩ := Array.mem_map.1 h
                 exact .inr (.inl rfl)
             · exact .inr h
           · exact .inl h)
  | new o k _ ih => intro w es ev h; exact ih _ _ _ _ (by simpa only [Sem.runT] using h)
  | shape r k _ ih => intro w es ev h; exact ih _ _ _ _ (by simpa only [Sem.runT] using h)
  | frozen a k _ ih => intro w es ev h; exact ih _ _ _ _ (by simpa only [Sem.runT] using h)
  | choose q k _ ih =>
    intro w es ev h
    simp only [Sem.runT] at h
    split at h
    · exact ih _ _ _ _ h
    · exact ih _ _ _ _ h
  | program k _ ih => intro w es ev h; exact ih _ _ _ _ (by simpa only [Sem.runT] using h)
  | mark m k _ ih =>
    intro w es ev h
    rcases ih _ _ _ (by simpa only [Sem.runT] using h) with h | h
    · rcases Array.mem_push.1 h with h | rfl
      · exact .inl h
      · exact .inr (.inr ⟨m, rfl⟩)
    · exact .inr h
  | halt x => intro w es ev h; exact .inl (by simpa only [Sem.runT] using h)

theorem tame_bind' {α β : Type} {m : Sem α} {f : α → Sem β} (h : Tame m) (hf : ∀ a, Tame (f a)) : Tame (m.bind f) := by
  induction h with
  | pure a => exact hf a
  | load a k _ ih => exact .load a _ ih
  | store a v k _ ih => exact .store a v _ ih
  | new o k _ ih => exact .new o _ ih
  | shape r k _ ih => exact .shape r _ ih
  | frozen a k _ ih => exact .frozen a _ ih
  | choose q k _ ih => exact .choose q _ ih
  | program k _ ih => exact .program _ ih
  | mark m k _ ih => exact .mark m _ ih
  | halt x => exact .halt x
theorem tame_bind {α β : Type} {m : Sem α} {f : α → Sem β} (h : Tame m) (hf : ∀ a, Tame (f a)) : Tame (m >>= f) := tame_bind' h hf
theorem tame_map {α β : Type} {m : Sem α} {f : α → β} (h : Tame m) : Tame (f <$> m) := tame_bind' h fun a => .pure _
theorem tame_pure {α : Type} (a : α) : Tame (pure a : Sem α) := .pure a
theorem tame_load (a : Addr) : Tame (load a) := .load a _ fun v => .pure v
theorem tame_store (a : Addr) (v : Value) : Tame (store a v) := .store a v _ (.pure ())
theorem tame_loadCellsFrom (a : Addr) : ∀ (n i : Nat) (acc : Array Value), Tame (loadCellsFrom a i n acc)
  | 0, _, _ => .pure _
  | n + 1, i, acc => tame_bind (tame_load _) fun v => tame_loadCellsFrom a n (i + 1) _
theorem tame_storeCells (a : Addr) : ∀ (vs : List Value) (i : Nat), Tame (storeCells a vs i)
  | [], _ => .pure _
  | v :: rest, i => tame_bind (tame_store _ _) fun _ => tame_storeCells a rest (i + 1)
theorem tame_firstCells (size n : Nat) (v : Value) : Tame (Builtin.firstCells size n v) := by
  unfold Builtin.firstCells
  split
  · exact tame_loadCellsFrom _ _ _ _
  · exact .pure _
  · exact .pure _
  · exact .halt _
theorem tame_lenOf (v : Value) : Tame (Builtin.lenOf v) := by
  unfold Builtin.lenOf
  split <;> first | exact .pure _ | exact .halt _
theorem tame_underlying (t : TypeId) : Tame (underlying t) := by
  unfold underlying
  refine tame_bind (.program _ fun p => .pure p) fun p => ?_
  split <;> first | exact .pure _ | exact .halt _
theorem tame_info (t : TypeId) : Tame (typeInfo t) := by
  unfold typeInfo
  refine tame_bind (.program _ fun p => .pure p) fun p => ?_
  split <;> first | exact .pure _ | exact .halt _
theorem tame_sizeOf (t : TypeId) : Tame (sizeOf t) := by
  unfold sizeOf
  first | exact tame_map (tame_info t) | exact tame_bind (tame_info t) fun _ => .pure _
theorem tame_zeroValue (t : TypeId) : Tame (zeroValue t) := by
  unfold zeroValue
  refine tame_bind (tame_info t) fun i => ?_
  split <;> first | exact .pure _ | exact .halt _
theorem tame_newRow (e : TypeId) (c : Array Value) : Tame (newRow e c) := by
  unfold newRow
  exact tame_bind (.new _ _ fun b => .pure b) fun b => .pure _
theorem tame_askRoom (b : Nat) : Tame (askRoom b) := by
  unfold askRoom
  split
  · exact .mark _ _ (.pure _)
  · exact .pure _
theorem tame_choose (q : Question) : Tame (choose q) := .choose q _ fun n => .pure n
theorem tame_ite {α : Type} {c : Prop} [Decidable c] {x y : Sem α} (hx : Tame x) (hy : Tame y) : Tame (if c then x else y) := by
  split
  · exact hx
  · exact hy
theorem tame_shape (r : Nat) : Tame (shape r) := .shape r _ fun s => .pure s
theorem tame_frozen (a : Addr) : Tame (frozen a) := .frozen a _ fun s => .pure s
theorem tame_program : Tame program := .program _ fun p => .pure p
theorem tame_asInt (v : Value) : Tame (asInt v) := by
  unfold asInt
  refine tame_bind ?_ fun _ => .pure _
  unfold asIntOf
  split <;> first | exact .pure _ | exact .halt _
theorem tame_rtPanic {α : Type} (e : String) : Tame (runtimePanic (.error e) : Sem α) := by
  unfold runtimePanic
  refine tame_bind tame_program fun p => ?_
  dsimp only
  exact .halt _
theorem tame_holdsCells (a : Addr) (n : Nat) : Tame (Builtin.holdsCells a n) := by
  unfold Builtin.holdsCells
  repeat' first | exact .pure _ | exact .halt _ | exact tame_shape _ | refine tame_bind ?_ fun _ => ?_ | refine tame_ite ?_ ?_ | split | dsimp only
theorem tame_mayShare (size sLen n : Nat) (base : Option Addr) (x : Value) : Tame (Builtin.mayShare size sLen n base x) := by
  unfold Builtin.mayShare
  repeat' first | exact .pure _ | exact .halt _ | exact tame_frozen _ | exact tame_holdsCells _ _ | refine tame_bind ?_ fun _ => ?_ | refine tame_ite ?_ ?_ | split | dsimp only
set_option maxHeartbeats 8000000 in
theorem tame_append (ts : Array TypeId) (t : TypeId) (xs : Array Value) : Tame (Builtin.append_ ts t xs) := by
  unfold Builtin.append_
  repeat' first | exact .pure _ | exact .halt _ | exact tame_underlying _ | exact tame_sizeOf _ | exact tame_info _ | exact tame_zeroValue _ | exact tame_asInt _ | exact tame_rtPanic _ | exact tame_choose _ | exact tame_lenOf _ | exact tame_firstCells _ _ _ | exact tame_storeCells _ _ _ | exact tame_askRoom _ | exact tame_newRow _ _ | exact tame_mayShare _ _ _ _ _ | exact .mark _ _ (.pure _) | refine tame_bind ?_ fun _ => ?_ | refine tame_ite ?_ ?_ | split | dsimp only
theorem sync_append {P : Program} (ts : Array TypeId) (t : TypeId) (xs : Array Value) (w : World) : ∀ ev ∈ (Builtin.append_ ts t xs).events P w #[], ev.sync = false ∨ ∃ k, ev.loc = .mark k := by
  intro ev h
  unfold Sem.events at h
  rcases (tame_append ts t xs).events w #[] ev h with h | h
  · simp at h
  · exact h

section
variable {Fin : End} {c : Gh} {w : World} {fn : FuncId} {Q : Exit → Act → Gh → World → Prop} {a : Act} {ops : Array Oper} {i : Nat} {rest : List Nat} {o : Oper}
/-- append onto an owned slice. -/
theorem oq_append (ho : ops[i]? = some o) (hw : Region.wanted o (yielded ops a.tmps) = true) (s x : Operand) (t : TypeId) (hop : o.op = .call { callee := .builtin .append, args := #[s, x], argTypes := #[t, t] })
    (base : Nat) (e : TypeId) (ti : TypeInfo) (z : Value) (size bytes : Nat) (ht : Try.prog.underlying t = some (.slice e)) (hi : Try.prog.info? e = some ti) (hz : ti.zero = some z)
    (hsize : ti.size = size) (hby : ti.bytes = bytes) (hzs : z.cells.size = size) (hsz : 0 < size)
    (v : Value) (n : Nat) (xs : List Value) (hs : a.eval s = v) (hown : w.ownsRow base e size v n xs)
    (ad : Addr) (m cp : Nat) (news : List Value) (hx : a.eval x = .slice (some ad) m cp) (hl : news.length = m * size) (hnews : ∀ j u, news[j]? = some u → w.cell? (ad.add j) = some u) (h1 : ∀ u ∈ news, u.oneCell' = true)
    (hm : 0 < m) (h63 : n + m ≤ maxLen) (hbytes : (n + m) * bytes ≤ 140737488355328) (hbase : base ≤ w.heap.size)
    (hn1 : ∀ g, v.ownBlock = some g → ¬ c.1 g) (hn2 : ¬ c.1 ad.block) (hlt : ad.block < w.heap.size)
    (hn : ∀ g cap w', w'.ownsRow base e size (.slice (some ⟨g, 0, none⟩) (n + m) cap) (n + m) (xs ++ news) → w.grownBy w' v.ownBlock → (v.ownBlock = some g ∨ g = w.heap.size) → g < w'.heap.size → OQ Fin fn ops rest Q (a.put o.dst (.slice (some ⟨g, 0, none⟩) (n + m) cap)) c w') :
    OQ Fin fn ops (i :: rest) Q a c w := by
  refine opsQ_cons ho hw fun w₁ h₁ => ?_
  obtain ⟨d, rfl⟩ := h₁
  obtain ⟨g, cap, w', hr, k2, k3, k4, k5⟩ := run_append_lies (P := Try.prog) (w.at d) t o.type base e ti z size bytes ht hi hz hsize hby hzs hsz v n xs hown ad m cp news hl hnews h1 hm h63 hbytes hbase w.heap.size rfl
  refine uponK_append s x t hop hs hx hr ⟨c, ⟨rfl, k3.size, fun ev hev => ?_⟩, hn g cap w' k2 ⟨k3.os, k3.tape, k3.output, k3.size, k3.block⟩ k4 k5⟩
  have hm1 := mem_listed hev
  rw [events_append_op s x t hop hs hx] at hm1
  have hsy := sync_append #[t, t] o.type #[v, .slice (some ad) m cp] (w.at d) ev hm1
  rcases events_append_where (w.at d) base t o.type e ti z size bytes ht hi hz hsize hby v n xs hown ad m cp news hl hnews h1 h63 hbytes ev hm1 with ⟨a1, e1, e2⟩ | ⟨k, rfl, hk⟩
  · obtain ⟨loc, wr, sy⟩ := ev
    simp only at e1 hsy e2
    subst e1
    have hsy' : sy = false := hsy.resolve_right fun ⟨k, hk⟩ => by cases hk
    subst hsy'
    rcases e2 with ⟨_, e2⟩ | e2
    · exact evq_cell (by rw [e2]; exact hn2) (by rw [e2]; exact Nat.lt_of_lt_of_le hlt k3.size)
    · exact evq_cell (hn1 _ e2.symm) (Nat.lt_of_lt_of_le (Seeds.ownsRow_lt2 hown e2.symm) k3.size)
  · refine .inr ⟨k, rfl, ?_⟩
    unfold Neutral at hk
    subst hk
    rfl
end
end Go.Proofs.Ytmhbjmkdekgmlaa.Sim
