/-
  shared up to its loop, by goroutine 0 between two crews.
  Condition: what is touched atomically alone stands below the heap's end.
-/
import Derived.Test.YtmhbjmkdekgmlaaQuietA
import Derived.Test.YtmhbjmkdekgmlaaMainA
import Derived.Test.YtmhbjmkdekgmlaaWorkE
set_option linter.unusedSimpArgs false
set_option linter.unusedVariables false
namespace Go.Proofs.Ytmhbjmkdekgmlaa.Sim
open Go.Proofs.Ytmhbjmkdekgmlaa.Seeds (link wgLib)
open Go Go.Conc Go.ConcN Go.RowKit Go.Conc.Lib Go.ConcR.Gen Go.ConcN.Gen
open Go.ConcR (KK wgBlock WgAt stA smA rd wr mk Payload Aside2 DC0)

section
variable {Fin : End} {c : Gh} {w : World} {fn : FuncId} {a : Act} {ops : Array Oper} {b : Frame} {k : List Item} {cs : List Frame}
theorem wq_region {id : Nat} (hfn : b.fn = fn) (hk : b.kind ≠ .early) (h : OQ Fin fn ops (List.range ops.size) (AfterQ Try.prog true (γ := Gh) AtR DQ (Fine Fin) b k cs) a c w) : Wq Fin c (G (b.at a (.code (.region id ops false) :: k)) cs) w :=
  wpQ_region termsQ h b k cs hfn hk fun _ _ _ _ x => x
theorem wq_nil (h : Wq Fin c (G (b.at a k) cs) w) : OQ Fin fn ops [] (AfterQ Try.prog true (γ := Gh) AtR DQ (Fine Fin) b k cs) a c w := opsQ_nil termsQ h
theorem wq_seq {x y : Code} (h : Wq Fin c (G (b.at a (.code x :: .code y :: k)) cs) w) : Wq Fin c (G (b.at a (.code (.seq x y) :: k)) cs) w := Wm.ctl termsQ rfl (fun _ => stepG_seq) h

variable {fv : Value} {mny stp : Nat} {Sb : Nat → Prop} {J : Nat}
def pw67 (w : World) (fv : Value) (mny stp : Nat) : World := ((w.alloc (.cells #[.int .i64 mny] 2)).alloc (.cells #[.int .i64 stp] 2)).alloc (.cells #[fv] 89)

set_option maxRecDepth 100000 in
set_option maxHeartbeats 4000000 in
theorem pre67 (fi : FuncId) (caps : Array Value) (hfv : fv = .func (.func fi) #[] caps) (f : Plan) (hWg : f.p.Wg = w.heap.size + 3) (hSb : ∀ b, Sb b → b < w.heap.size) (hn : Wq Fin (fun b => Sb b ∨ b = w.heap.size + 3, J) (G ((base 67).at ⟨tm67 f fv w.heap.size (w.heap.size + 1) (w.heap.size + 2) mny stp 0 undef undef undef undef undef undef, []⟩ [.code loop67, .inLoop loop67, .inBlock 0, .code wait67]) cs) ((pw67 w fv mny stp).alloc (wgBlock 124 0 0))) :
    Wq Fin (Sb, J) (G ((base 67).at ⟨#[.int .i64 mny, .int .i64 stp, fv, undef, undef, undef, undef, undef, undef, undef, undef, undef, undef, undef, undef, undef], []⟩ [.code body67]) cs) w := by
  subst hfv
  simp only [loop67, wait67, body67, Try.f67, Option.getD_some, tm67] at hn ⊢
  refine wq_seq (wq_region rfl (by simp [base]) ?_)
  simp only [List.size_toArray, List.length_cons, List.length_nil, Nat.reduceAdd, Nat.zero_add, List.range, List.range.loop]
  refine oq_al rfl (by rfl) (fun w₁ hw₁ K hK => ?_)
  go_simp

  refine hK _ _ (fun e he => ?_) ?_
  · have hm := mem_listed he
    simp [go_sem] at hm
  clear hK K hw₁ w₁
  try walk_nrm
  refine oq_al rfl (by rfl) (fun w₁ hw₁ K hK => ?_)
  go_simp

  refine hK _ _ (fun e he => ?_) ?_
  · have hm := mem_listed he
    simp [go_sem] at hm
  clear hK K hw₁ w₁
  try walk_nrm
  refine oq_al rfl (by rfl) (fun w₁ hw₁ K hK => ?_)
  go_simp

  refine hK _ _ (fun e he => ?_) ?_
  · have hm := mem_listed he
    simp [go_sem] at hm
  clear hK K hw₁ w₁
  try walk_nrm
  refine wq_nil (wq_seq (wq_region rfl (by simp [base]) ?_))
  simp only [List.size_toArray, List.length_cons, List.length_nil, Nat.reduceAdd, Nat.zero_add, List.range, List.range.loop]
  refine oq_shun (Sb' := fun b => Sb b ∨ b = w.heap.size + 3) ?_ (fun b => .inl) (fun b hb => hb.imp id fun e => by simp [World.size_alloc]; omega)
  refine oq_al rfl (by rfl) (fun w₁ hw₁ K hK => ?_)
  go_simp

  refine hK _ _ (fun e he => ?_) ?_
  · have hm := mem_listed he
    simp [go_sem] at hm
  clear hK K hw₁ w₁
  try walk_nrm
  have hBn : ((((w.alloc (Obj.cells #[Value.int IntKind.i64 mny] 2)).alloc (Obj.cells #[Value.int IntKind.i64 stp] 2)).alloc (Obj.cells #[Value.func (Fn.func fi) #[] caps] 89)).alloc (Obj.cells #[Value.int IntKind.u64 0, Value.int IntKind.u32 0] 124)).cell? ⟨w.heap.size + 1, 0, none⟩ = some (.int .i64 stp) := by
    rw [World.cell?_alloc_past _ _ _ (by simp only [World.size_alloc]; omega), World.cell?_alloc_past _ _ _ (by simp only [World.size_alloc]; omega), World.cell?_alloc_at _ _ _ _ (by simp only [World.size_alloc])]
    rfl
  refine wq_nil (wq_seq (wq_seq (wq_region rfl (by simp [base]) ?_)))
  simp only [List.size_toArray, List.length_cons, List.length_nil, Nat.reduceAdd, Nat.zero_add, List.range, List.range.loop]
  refine oq_rd rfl (by rfl) (fun w₁ hw₁ K hK => ?_)
  have h1 := (cell_same hw₁ ⟨w.heap.size + 1, 0, none⟩).1.trans hBn
  clear hw₁
  go_simp
  refine hK _ (fun e he => ?_) ?_
  · have hm := mem_listed he
    simp [go_sem, h1] at hm
    subst hm
    refine evq_cell (fun x => ?_) ?_
    · rcases x with x | x
      · have := hSb _ x
        simp at this
        omega
      · simp at x
    · simp only [World.size_alloc]
      omega
  clear hK K h1 w₁
  try walk_nrm
  refine oq_rd rfl (by rfl) (fun w₁ hw₁ K hK => ?_)
  clear hw₁
  go_simp
  refine hK _ (fun e he => ?_) ?_
  · have hm := mem_listed he
    simp [go_sem] at hm
  clear hK K w₁
  try walk_nrm
  refine wq_nil (Wm.ctl termsQ rfl (fun _ => stepG_block) (Wm.ctl termsQ rfl (fun _ => stepG_loop) ?_))
  rw [hWg] at hn
  exact hn
end
end Go.Proofs.Ytmhbjmkdekgmlaa.Sim
