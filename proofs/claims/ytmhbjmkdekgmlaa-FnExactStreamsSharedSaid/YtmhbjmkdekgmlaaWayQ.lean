/-
  A walk by pieces of code, to a stop that is given from the outset: the judgements of WayC with their stop held fast (some contracts hold for one stop alone).
  Conditions: the rely is closed; an idle step is allowed ('TermsW').
-/
import Derived.Test.YtmhbjmkdekgmlaaWayC
set_option linter.unusedSimpArgs false
set_option linter.unusedVariables false
namespace Go.Proofs.Ytmhbjmkdekgmlaa.Sim
open Go Go.Conc

section
variable {γ : Type} (P : Program) (main : Bool) (R : γ → World → World → Prop) (D : γ → World → World → Array Event → γ → Prop) (Stop : γ → Goroutine → World → Prop)
/-- Where the walk goes on behind a piece of code that is left by this way out. -/
def AfterQ (b : Frame) (k : List Item) (cs : List Frame) : Exit → Act → γ → World → Prop
  | .normal, a, c, w => Wm P main R D Stop c (G (b.at a k) cs) w
  | .exit id, a, c, w => ∃ k', exitTo id k = some k' ∧ Wm P main R D Stop c (G (b.at a k') cs) w
  | .ret, a, c, w => ∀ todo, Wm P main R D Stop c (G { b.at a todo with mode := .returning } cs) w
  | _, _, _, _ => False

/-- THE JUDGEMENT. -/
def WpQ (fn : FuncId) (x : Code) (Q : Exit → Act → γ → World → Prop) (a : Act) (c : γ) (w : World) : Prop :=
  ∀ (b : Frame) (k : List Item) (cs : List Frame), b.fn = fn → b.kind ≠ .early → (∀ e a' c' w', Q e a' c' w' → AfterQ P main R D Stop b k cs e a' c' w') → Wm P main R D Stop c (G (b.at a (.code x :: k)) cs) w
def OpsQ (fn : FuncId) (ops : Array Oper) (todo : List Nat) (Q : Exit → Act → γ → World → Prop) (a : Act) (c : γ) (w : World) : Prop :=
  ∀ (b : Frame) (k : List Item) (cs : List Frame), b.fn = fn → b.kind ≠ .early → (∀ e a' c' w', Q e a' c' w' → AfterQ P main R D Stop b k cs e a' c' w') → Wm P main R D Stop c (G (b.at a (.inRegion ops todo :: k)) cs) w
/-- A CONTRACT IN COMPANY, said of every caller. -/
def CallQ (f : FuncId) (args : Array Value) (c : γ) (w : World) (Post : Value → γ → World → Prop) : Prop :=
  ∀ (b : Frame) (a : Act) (k : List Item) (cs : List Frame) (ops : Array Oper) (i : Nat) (rest : List Nat) (o : Oper) (xs : Array Operand) (ats : Array TypeId),
    ops[i]? = some o → Region.wanted o (yielded ops a.tmps) = true → b.kind ≠ .early → o.op = .call { callee := .value (.func f), args := xs, argTypes := ats } → xs.map a.eval = args →
    (∀ v c' w', Post v c' w' → Wm P main R D Stop c' (G (b.at (a.put o.dst v) (.inRegion ops rest :: k)) cs) w') → Wm P main R D Stop c (G (b.at a (.inRegion ops (i :: rest) :: k)) cs) w
end

section
variable {γ : Type} {P : Program} {main : Bool} {R : γ → World → World → Prop} {D : γ → World → World → Array Event → γ → Prop}
  {fn : FuncId} {Q : Exit → Act → γ → World → Prop} {a : Act} {c : γ} {w : World} {Stop : γ → Goroutine → World → Prop} {b : Frame} {k : List Item} {cs : List Frame}

theorem AfterQ.push {x : Item} {e : Exit} (hx : x.plain = true) (he : e ≠ .normal) (h : AfterQ P main R D Stop b k cs e a c w) : AfterQ P main R D Stop b (x :: k) cs e a c w := by
  cases e with
  | normal => exact absurd rfl he
  | exit id => obtain ⟨k', hk, hg⟩ := h; exact ⟨k', by cases x <;> simp_all [exitTo, Item.plain], hg⟩
  | ret => exact h
  | goto l => exact h
  | panic ch => exact h
  | outgrown => exact h

theorem wpQ_mono {x : Code} {Q' : Exit → Act → γ → World → Prop} (h : WpQ P main R D Stop fn x Q a c w) (hq : ∀ e a c w, Q e a c w → Q' e a c w) : WpQ P main R D Stop fn x Q' a c w :=
  fun b k cs hb hk hc => h b k cs hb hk fun e a' c' w' q => hc e a' c' w' (hq e a' c' w' q)
theorem wpQ_rely (T : TermsW R D) {x : Code} {w₁ : World} (h : WpQ P main R D Stop fn x Q a c w) (hr : R c w w₁) : WpQ P main R D Stop fn x Q a c w₁ :=
  fun b k cs hb hk hc => (h b k cs hb hk hc).rely T hr
theorem opsQ_rely (T : TermsW R D) {ops : Array Oper} {todo : List Nat} {w₁ : World} (h : OpsQ P main R D Stop fn ops todo Q a c w) (hr : R c w w₁) : OpsQ P main R D Stop fn ops todo Q a c w₁ :=
  fun b k cs hb hk hc => (h b k cs hb hk hc).rely T hr
theorem CallQ.rely (T : TermsW R D) {f : FuncId} {args : Array Value} {Post : Value → γ → World → Prop} {w₁ : World} (h : CallQ P main R D Stop f args c w Post) (hr : R c w w₁) : CallQ P main R D Stop f args c w₁ Post :=
  fun b a k cs ops i rest o xs ats h1 h2 h3 h4 h5 hn => (h b a k cs ops i rest o xs ats h1 h2 h3 h4 h5 hn).rely T hr
theorem CallQ.mono {f : FuncId} {args : Array Value} {Post Post' : Value → γ → World → Prop} (h : CallQ P main R D Stop f args c w Post) (hp : ∀ v c w, Post v c w → Post' v c w) : CallQ P main R D Stop f args c w Post' :=
  fun b a k cs ops i rest o xs ats h1 h2 h3 h4 h5 hn => h b a k cs ops i rest o xs ats h1 h2 h3 h4 h5 fun v c w q => hn v c w (hp v c w q)

theorem wpQ_skip (T : TermsW R D) (h : Q .normal a c w) : WpQ P main R D Stop fn .skip Q a c w := fun _ _ _ _ _ hc => Wm.ctl T rfl (fun _ => stepG_skip) (hc _ _ _ _ h)
theorem wpQ_ret (T : TermsW R D) (h : Q .ret a c w) : WpQ P main R D Stop fn .ret Q a c w := fun _ _ _ _ _ hc => Wm.ctl T rfl (fun _ => stepG_ret') (hc _ _ _ _ h _)
theorem wpQ_exit (T : TermsW R D) {id : Nat} (h : Q (.exit id) a c w) : WpQ P main R D Stop fn (.exit id) Q a c w := fun _ _ _ _ _ hc => by
  obtain ⟨k', hk', hg⟩ := hc _ _ _ _ h
  exact Wm.ctl T rfl (fun _ => stepG_exit hk') hg

/-- What must hold behind the first of two pieces. -/
def ThenQ (M : Act → γ → World → Prop) (Q : Exit → Act → γ → World → Prop) : Exit → Act → γ → World → Prop
  | .normal, a, c, w => M a c w
  | e, a, c, w => Q e a c w

theorem wpQ_seq (T : TermsW R D) {x y : Code} (h : WpQ P main R D Stop fn x (ThenQ (fun a' c' w' => WpQ P main R D Stop fn y Q a' c' w') Q) a c w) : WpQ P main R D Stop fn (.seq x y) Q a c w := by
  intro b k cs hb hk hc
  refine Wm.ctl T rfl (fun _ => stepG_seq) (h b (.code y :: k) cs hb hk fun e a' c' w' q => ?_)
  cases e with
  | normal => exact q b k cs hb hk hc
  | exit id => exact (hc _ _ _ _ q).push rfl (by simp)
  | ret => exact (hc _ _ _ _ q).push (x := .code y) rfl (by simp)
  | goto l => exact hc _ _ _ _ q
  | panic ch => exact hc _ _ _ _ q
  | outgrown => exact hc _ _ _ _ q
theorem wpQ_cond (T : TermsW R D) {x : Operand} {y z : Code} {t : Bool} (hc : a.eval x = .bool t) (h : WpQ P main R D Stop fn (if t then y else z) Q a c w) : WpQ P main R D Stop fn (.cond x y z) Q a c w :=
  fun b k cs hb hk hq => Wm.ctl T rfl (fun _ => stepG_cond hc) (h b k cs hb hk hq)

def BlockQ (id : Nat) (Q : Exit → Act → γ → World → Prop) : Exit → Act → γ → World → Prop
  | .exit id', a, c, w => if id' = id then Q .normal a c w else Q (.exit id') a c w
  | e, a, c, w => Q e a c w
theorem wpQ_block (T : TermsW R D) {id : Nat} {x : Code} (h : WpQ P main R D Stop fn x (BlockQ id Q) a c w) : WpQ P main R D Stop fn (.block id x) Q a c w := by
  intro b k cs hb hk hc
  refine Wm.ctl T rfl (fun _ => stepG_block) (h b (.inBlock id :: k) cs hb hk fun e a' c' w' q => ?_)
  cases e with
  | normal => exact Wm.ctl T rfl (fun _ => stepG_inBlock) (hc _ _ _ _ q)
  | exit id' =>
    by_cases hid : id' = id
    · simp only [BlockQ, hid, if_true] at q
      exact ⟨k, by simp [exitTo, hid], hc _ _ _ _ q⟩
    · simp only [BlockQ, hid, if_false] at q
      obtain ⟨k', hk', hg⟩ := hc _ _ _ _ q
      have : (id == id') = false := by simp; exact fun h => hid h.symm
      exact ⟨k', by simp [exitTo, this, hk'], hg⟩
  | ret => exact hc _ _ _ _ q
  | goto l => exact hc _ _ _ _ q
  | panic ch => exact hc _ _ _ _ q
  | outgrown => exact hc _ _ _ _ q

/-- A LOOP: an invariant with a measure that every round lowers. -/
theorem wpQ_loop (T : TermsW R D) {x : Code} (I : Nat → Act → γ → World → Prop) {N : Nat} (h₀ : I N a c w)
    (round : ∀ n a c w, I n a c w → WpQ P main R D Stop fn x (ThenQ (fun a' c' w' => ∃ n', n' < n ∧ I n' a' c' w') Q) a c w) : WpQ P main R D Stop fn (.loop x) Q a c w := by
  intro b k cs hb hk hc
  refine Wm.ctl T rfl (fun _ => stepG_loop) ?_
  have key : ∀ N a c w, I N a c w → Wm P main R D Stop c (G (b.at a (.code x :: .inLoop x :: k)) cs) w := by
    intro N
    induction N using Nat.strongRecOn with
    | ind N ih =>
      intro a c w hI
      refine round N a c w hI b (.inLoop x :: k) cs hb hk fun e a' c' w' q => ?_
      cases e with
      | normal =>
        obtain ⟨n', hn, hI'⟩ := q
        exact Wm.ctl T rfl (fun _ => stepG_inLoop) (ih n' hn a' c' w' hI')
      | exit id => exact (hc _ _ _ _ q).push rfl (by simp)
      | ret => exact (hc _ _ _ _ q).push (x := .inLoop x) rfl (by simp)
      | goto l => exact hc _ _ _ _ q
      | panic ch => exact hc _ _ _ _ q
      | outgrown => exact hc _ _ _ _ q
  exact key N a c w h₀

/-! ### regions -/
theorem wpQ_region (T : TermsW R D) {id : Nat} {ops : Array Oper} (h : OpsQ P main R D Stop fn ops (List.range ops.size) Q a c w) : WpQ P main R D Stop fn (.region id ops false) Q a c w :=
  fun b k cs hb hk hc => Wm.ctl T rfl (fun _ => stepG_region) (h b k cs hb hk hc)
theorem opsQ_nil (T : TermsW R D) {ops : Array Oper} (h : Q .normal a c w) : OpsQ P main R D Stop fn ops [] Q a c w := fun _ _ _ _ _ hc => Wm.ctl T rfl (fun _ => stepG_region_end) (hc _ _ _ _ h)

theorem opsQ_cons {ops : Array Oper} {i : Nat} {rest : List Nat} {o : Oper} (ho : ops[i]? = some o) (hw : Region.wanted o (yielded ops a.tmps) = true)
    (h : ∀ w₁, R c w w₁ → uponK o a (fun a' w' => ∃ c', D c w₁ w' (listed P fn a o w₁) c' ∧ OpsQ P main R D Stop fn ops rest Q a' c' w') ((execOp a.eval o).run P w₁)) : OpsQ P main R D Stop fn ops (i :: rest) Q a c w := by
  intro b k cs hb hk hc
  refine Way.goes rfl fun w₁ h₁ => goes_oper ho hw hk ?_
  have := h w₁ h₁
  revert this
  cases (execOp a.eval o).run P w₁ with
  | ok x w' => cases x <;> first | exact fun ⟨c', d, g⟩ => ⟨c', hb ▸ d, g b k cs hb hk hc⟩ | exact id
  | halt _ _ => exact id
/-- .. what follows behind a variable. -/
theorem opsQ_cons_k {ops : Array Oper} {i : Nat} {rest : List Nat} {o : Oper} (ho : ops[i]? = some o) (hw : Region.wanted o (yielded ops a.tmps) = true)
    (h : ∀ w₁, R c w w₁ → ∀ K : Act → World → Prop, (∀ a' w', (∃ c', D c w₁ w' (listed P fn a o w₁) c' ∧ OpsQ P main R D Stop fn ops rest Q a' c' w') → K a' w') → uponK o a K ((execOp a.eval o).run P w₁)) : OpsQ P main R D Stop fn ops (i :: rest) Q a c w :=
  opsQ_cons ho hw fun w₁ h₁ => h w₁ h₁ _ fun _ _ x => x
theorem opsQ_unwanted (T : TermsW R D) {ops : Array Oper} {i : Nat} {rest : List Nat} {o : Oper} (ho : ops[i]? = some o) (hw : Region.wanted o (yielded ops a.tmps) = false)
    (h : OpsQ P main R D Stop fn ops rest Q (a.put o.dst undef) c w) : OpsQ P main R D Stop fn ops (i :: rest) Q a c w :=
  fun b k cs hb hk hc => Wm.ctl T rfl (fun _ => stepG_unwanted ho hw) (h b k cs hb hk hc)
theorem opsQ_call {ops : Array Oper} {i : Nat} {rest : List Nat} {o : Oper} {f : FuncId} {xs : Array Operand} {ats : Array TypeId} {Post : Value → γ → World → Prop} (ho : ops[i]? = some o) (hw : Region.wanted o (yielded ops a.tmps) = true)
    (hop : o.op = .call { callee := .value (.func f), args := xs, argTypes := ats }) (h : CallQ P main R D Stop f (xs.map a.eval) c w Post) (hn : ∀ v c' w', Post v c' w' → OpsQ P main R D Stop fn ops rest Q (a.put o.dst v) c' w') : OpsQ P main R D Stop fn ops (i :: rest) Q a c w :=
  fun b k cs hb hk hc => h b a k cs ops i rest o xs ats ho hw hk hop rfl fun v c' w' q => hn v c' w' q b k cs hb hk hc

/-- What a callee's body must achieve. -/
def BodyQ (P : Program) (f : Func) (Post : Value → γ → World → Prop) : Exit → Act → γ → World → Prop
  | .normal, a, c, w | .ret, a, c, w => a.defers = [] ∧ ∃ v, ResultsC P f a.tmps v ∧ Post v c w
  | _, _, _, _ => False

/-- A contract from the callee's body. -/
theorem callQ_of (T : TermsW R D) {f : FuncId} {fn : Func} {x : Code} {args : Array Value} {Post : Value → γ → World → Prop} (hf : P.funcs[f]? = some fn) (hname : (fn.name == "runtime.NumGoroutine") = false) (hb : fn.body = some x)
    (h : WpQ P main R D Stop f x (BodyQ P fn Post) { tmps := args ++ Array.replicate (fn.ntmps - args.size) undef, defers := [] } c w) : CallQ P main R D Stop f args c w Post := by
  intro b a k cs ops i rest o xs ats ho hw hk hop hargs hn
  subst hargs
  have hfin : ∀ v, (b.at a (.inRegion ops (i :: rest) :: k)).finish v = b.at (a.put o.dst v) (.inRegion ops rest :: k) := fun v => by rw [Frame.finish_at, ho]; rfl
  have hleave : ∀ (a' : Act) (c' : γ) (w' : World) (todo : List Item), (a'.defers = [] ∧ ∃ v, ResultsC P fn a'.tmps v ∧ Post v c' w') →
      Wm P main R D Stop c' (G { (base f).at a' todo with mode := .returning } (b.at a (.inRegion ops (i :: rest) :: k) :: cs)) w' := by
    rintro a' c' w' todo ⟨hd, v, hr, hp⟩
    refine Way.go rfl fun w₁ h₁ => ⟨_, w₁, #[], c', stepG_leave (b := base f) rfl hd hf (hr w₁).1 (hr w₁).2, T.idle _ _, ?_⟩
    rw [hfin]
    exact (hn v c' w' hp).rely T h₁
  refine Way.goes rfl fun w₁ h₁ => goes_call ho hw hk hop hf hname hb ⟨c, T.idle _ _, ?_⟩
  refine (h (base f) [] _ rfl (by simp [base]) fun e a' c' w' q => ?_).rely T h₁
  cases e with
  | normal => exact Wm.ctl T rfl (fun _ => stepG_end) (hleave a' c' w' [] q)
  | ret => exact fun todo => hleave a' c' w' todo q
  | exit id => exact q.elim
  | goto l => exact q.elim
  | panic ch => exact q.elim
  | outgrown => exact q.elim

/-! ### a region that draws its order -/
section
variable {ops : Array Oper} {md : Region.Mode} {S : γ → World → Prop}

/-- Operation number i comes up. -/
def OpQ (P : Program) (main : Bool) (R : γ → World → World → Prop) (D : γ → World → World → Array Event → γ → Prop) (Stop : γ → Goroutine → World → Prop) (fn : FuncId) (ops : Array Oper) (i : Nat) (K : Act → γ → World → Prop) (a : Act) (c : γ) (w : World) : Prop :=
  match ops[i]? with
  | none => False
  | some o => if Region.wanted o (yielded ops a.tmps) then
      (∀ w₁, R c w w₁ → uponK o a (fun a' w' => ∃ c', D c w₁ w' (listed P fn a o w₁) c' ∧ K a' c' w') ((execOp a.eval o).run P w₁)) ∨
      (∃ f xs ats Post, o.op = .call { callee := .value (.func f), args := xs, argTypes := ats } ∧ CallQ P main R D Stop f (xs.map a.eval) c w Post ∧ ∀ v c' w', Post v c' w' → K (a.put o.dst v) c' w')
    else K (a.put o.dst undef) c w

theorem OpQ_mono {i : Nat} {K K' : Act → γ → World → Prop} (h : ∀ a c w, K a c w → K' a c w) (hh : OpQ P main R D Stop fn ops i K a c w) : OpQ P main R D Stop fn ops i K' a c w := by
  unfold OpQ at *
  split
  · simp_all
  · rename_i o ho
    simp only [ho] at hh
    split
    · rename_i hw
      simp only [hw, if_true] at hh
      rcases hh with hh | ⟨f, xs, ats, Post, h1, h2, h3⟩
      · exact .inl fun w₁ h₁ => uponK_mono (fun a' w' ⟨c', x, y⟩ => ⟨c', x, h _ _ _ y⟩) (hh w₁ h₁)
      · exact .inr ⟨f, xs, ats, Post, h1, h2, fun v c' w' q => h _ _ _ (h3 v c' w' q)⟩
    · rename_i hw; simp only [hw] at hh; exact h _ _ _ hh

theorem opsQ_of_opQ (T : TermsW R D) {i : Nat} {rest : List Nat} (h : OpQ P main R D Stop fn ops i (fun a' c' w' => OpsQ P main R D Stop fn ops rest Q a' c' w') a c w) : OpsQ P main R D Stop fn ops (i :: rest) Q a c w := by
  unfold OpQ at h
  split at h
  · exact h.elim
  · rename_i o ho
    split at h
    · rename_i hw
      rcases h with h | ⟨f, xs, ats, Post, h1, h2, h3⟩
      · exact opsQ_cons ho hw h
      · exact opsQ_call ho hw h1 h2 h3
    · rename_i hw; exact opsQ_unwanted T ho (by simpa using hw) h

/-- Whatever order is picked from here on; S holds behind every operation that is carried out. -/
def AnyQ (P : Program) (main : Bool) (R : γ → World → World → Prop) (D : γ → World → World → Array Event → γ → Prop) (Stop : γ → Goroutine → World → Prop) (fn : FuncId) (md : Region.Mode) (ops : Array Oper) (Q : Exit → Act → γ → World → Prop) (S : γ → World → Prop) : Nat → Array Bool → Act → γ → World → Prop
  | 0, lst, a, c, w => Region.ready md ops lst = [] ∧ Q .normal a c w
  | fuel + 1, lst, a, c, w => (Region.ready md ops lst = [] → Q .normal a c w) ∧ ∀ i ∈ Region.ready md ops lst, OpQ P main R D Stop fn ops i (fun a' c' w' => S c' w' ∧ AnyQ P main R D Stop fn md ops Q S fuel (lst.setIfInBounds i true) a' c' w') a c w

theorem AnyQ.rely (T : TermsW R D) (hSR : ∀ c x y, S c x → R c x y → S c y) (hQR : ∀ a c x y, Q .normal a c x → R c x y → Q .normal a c y) :
    ∀ (fuel : Nat) (lst : Array Bool) (a : Act) (c : γ) (w w₁ : World), AnyQ P main R D Stop fn md ops Q S fuel lst a c w → R c w w₁ → AnyQ P main R D Stop fn md ops Q S fuel lst a c w₁
  | 0, _, _, _, _, _, h, r => ⟨h.1, hQR _ _ _ _ h.2 r⟩
  | fuel + 1, lst, a, c, w, w₁, h, r => ⟨fun e => hQR _ _ _ _ (h.1 e) r, fun i hi => by
      have := h.2 i hi
      unfold OpQ at *
      split
      · simp_all
      · rename_i o ho
        simp only [ho] at this
        split
        · rename_i hw
          simp only [hw, if_true] at this
          rcases this with this | ⟨f, xs, ats, Post, h1, h2, h3⟩
          · exact .inl fun w₂ h₂ => this w₂ (T.trans _ _ _ _ r h₂)
          · exact .inr ⟨f, xs, ats, Post, h1, h2.rely T r, h3⟩
        · rename_i hw; simp only [hw] at this; exact ⟨hSR _ _ _ this.1 r, AnyQ.rely T hSR hQR fuel _ _ _ _ _ this.2 r⟩⟩

theorem anyQ_sound (T : TermsW R D) : ∀ (fuel t : Nat) (lst : Array Bool) (a : Act) (c : γ) (w : World), AnyQ P main R D Stop fn md ops Q S fuel lst a c w →
    OpsQ P main R D Stop fn ops (Region.linearise.go md ops fuel t lst []) Q a c w := by
  intro fuel
  induction fuel with
  | zero => intro t lst a c w h; simpa [Region.linearise.go] using opsQ_nil T h.2
  | succ fuel ih =>
    intro t lst a c w h
    obtain ⟨h₀, h₁⟩ := h
    simp only [Region.linearise.go]
    change OpsQ P main R D Stop fn ops (match (Region.ready md ops lst)[t % (Region.ready md ops lst).length]? with
      | some i => Region.linearise.go md ops fuel (t / (Region.ready md ops lst).length) (lst.setIfInBounds i true) [i]
      | none => [].reverse) Q a c w
    cases hi : (Region.ready md ops lst)[t % (Region.ready md ops lst).length]? with
    | none =>
      have hnil : Region.ready md ops lst = [] := by
        cases hr : Region.ready md ops lst with
        | nil => rfl
        | cons x xs =>
          rw [hr] at hi
          have hlt : t % (x :: xs).length < (x :: xs).length := Nat.mod_lt _ (by simp)
          simp at hi
          simp at hlt
          omega
      simpa using opsQ_nil T (h₀ hnil)
    | some i =>
      simp only []
      rw [linearise_go_acc, List.reverse_singleton, List.singleton_append]
      exact opsQ_of_opQ T (OpQ_mono (fun a' c' w' x => ih _ _ a' c' w' x.2) (h₁ i (List.mem_of_getElem? hi)))

theorem YieldsW.opQ (hSR : ∀ c x y, S c x → R c x y → S c y) {i : Nat} {o : Oper} {v : Value} {a : Act} (hi : ops[i]? = some o) (hy : YieldsW P D fn ops S o v a)
    {K : Act → γ → World → Prop} (hK : ∀ a c x y, K a c x → R c x y → K a c y) {c : γ} {w : World} (hS : S c w) (h : K (a.put o.dst v) c w) : OpQ P main R D Stop fn ops i K a c w := by
  unfold OpQ
  simp only [hi]
  rcases hy with ⟨hw, hv⟩ | ⟨hw, rfl⟩
  · simp only [hw, if_true]
    refine .inl fun w₁ h₁ => ?_
    rw [(hv c w₁ (hSR _ _ _ hS h₁)).1]
    exact ⟨c, (hv c w₁ (hSR _ _ _ hS h₁)).2, hK _ _ _ _ h h₁⟩
  · simp only [hw, Bool.false_eq_true, if_false]; exact h

theorem OpQ_putIf {j : Nat} {oi oj : Oper} {v : Value} (hj : ops[j]? = some oj) (hap : oi.apart ops oj = true)
    (hsi : ∀ cs b, oi.op ≠ .select cs b) (hsj : ∀ cs b, oj.op ≠ .select cs b) {K : Act → γ → World → Prop} {a : Act} {c : γ} {w : World}
    (hy : YieldsW P D fn ops S oi v a) (h : OpQ P main R D Stop fn ops j K (a.put oi.dst v) c w) :
    OpQ P main R D Stop fn ops j (fun a' c' w' => YieldsW P D fn ops S oi v a' ∧ K (a'.put oi.dst v) c' w') a c w := by
  obtain ⟨h1, h2, h3⟩ := Oper.apart_spec hap
  have keep : ∀ (a : Act), YieldsW P D fn ops S oi v a → ∀ u, YieldsW P D fn ops S oi v (a.put oj.dst u) := fun a hy u =>
    hy.of_same (execOp_put oi hsi a oj.dst u h3) (wanted_put oi a oj.dst u h3)
  unfold OpQ at *
  simp only [hj] at *
  rw [wanted_put oj a oi.dst v h1] at h
  split
  · rename_i hw
    simp only [hw, if_true] at h
    rcases h with h | ⟨f, xs, ats, Post, e1, e2, e3⟩
    · refine .inl fun w₁ h₁ => ?_
      have h := h w₁ h₁
      unfold listed at *
      rw [execOp_put oj hsj a oi.dst v h1] at h
      generalize (execOp a.eval oj).run P w₁ = r at *
      cases r with
      | ok n w' =>
        cases n <;> simp only [uponK] at h ⊢
        case value u =>
          obtain ⟨c', d, kk⟩ := h
          exact ⟨c', d, keep a hy u, by rw [← Act.put_comm a v u h2]; exact kk⟩
        case skip =>
          obtain ⟨c', d, kk⟩ := h
          exact ⟨c', d, keep a hy _, by rw [← Act.put_comm a v undef h2]; exact kk⟩
      | halt x w' => simp only [uponK] at h
    · refine .inr ⟨f, xs, ats, Post, e1, ?_, fun u c' w' q => ⟨keep a hy u, by rw [← Act.put_comm a v u h2]; exact e3 u c' w' q⟩⟩
      have : xs.map (a.put oi.dst v).eval = xs.map a.eval := by
        apply Array.map_congr_left
        intro x hx
        refine Act.eval_put fun d hd hxd => h1 d hd ?_
        subst hxd
        refine List.mem_append_left _ (List.mem_filterMap.2 ⟨.tmp d, ?_, rfl⟩)
        rw [e1]
        simp [Op.operands, Call.operands, hx]
      rwa [this] at e2
  · rename_i hw
    simp only [hw] at h
    exact ⟨keep a hy _, by rw [← Act.put_comm a v undef h2]; exact h⟩

theorem anyQ_first (T : TermsW R D) (hSR : ∀ c x y, S c x → R c x y → S c y) (hQR : ∀ a c x y, Q .normal a c x → R c x y → Q .normal a c y) {i : Nat} {oi : Oper} {v : Value} (hi : ops[i]? = some oi)
    (hsel : ∀ (j : Nat) (o : Oper) cs b, ops[j]? = some o → o.op ≠ .select cs b) :
    ∀ (fuel : Nat) (lst : Array Bool) (a : Act) (c : γ) (w : World),
      (∀ j oj, ops[j]? = some oj → j ≠ i → lst.getD j true = false → (∀ e ∈ oj.after, Region.binds md e = true → e.on ≠ i) → oi.apart ops oj = true) →
      i ∈ Region.ready md ops lst → YieldsW P D fn ops S oi v a → S c w →
      AnyQ P main R D Stop fn md ops Q S fuel (lst.setIfInBounds i true) (a.put oi.dst v) c w → AnyQ P main R D Stop fn md ops Q S (fuel + 1) lst a c w := by
  have hK : ∀ fuel lst, ∀ a c x y, (S c x ∧ AnyQ P main R D Stop fn md ops Q S fuel lst a c x) → R c x y → (S c y ∧ AnyQ P main R D Stop fn md ops Q S fuel lst a c y) :=
    fun fuel lst a c x y h r => ⟨hSR _ _ _ h.1 r, AnyQ.rely T hSR hQR fuel lst a c x y h.2 r⟩
  intro fuel
  induction fuel with
  | zero =>
    intro lst a c w _ hr hy hS H
    refine ⟨fun h => (by rw [h] at hr; cases hr), fun j hj => ?_⟩
    by_cases hji : j = i
    · subst hji; exact hy.opQ hSR hi (hK _ _) hS ⟨hS, H⟩
    · have := ready_mono hj hji
      rw [H.1] at this
      cases this
  | succ fuel ih =>
    intro lst a c w hfree hr hy hS H
    refine ⟨fun h => (by rw [h] at hr; cases hr), fun j hj => ?_⟩
    by_cases hji : j = i
    · subst hji; exact hy.opQ hSR hi (hK _ _) hS ⟨hS, H⟩
    · have h1 := H.2 j (ready_mono hj hji)
      obtain ⟨hjun, oj, hoj, hall⟩ := mem_ready.1 hj
      have hnot : ∀ e ∈ oj.after, Region.binds md e = true → e.on ≠ i := fun e he hb heq => by
        have h1 := hall e he hb
        have h0 := (mem_ready.1 hr).1
        rw [heq] at h1
        rcases Nat.lt_or_ge i lst.size with h' | h'
        · simp [h'] at h0 h1; rw [h0] at h1; cases h1
        · simp [Array.getElem?_eq_none h'] at h1
      have h2 := OpQ_putIf hoj (hfree j oj hoj hji hjun hnot) (fun cs b => hsel i oi cs b hi) (fun cs b => hsel j oj cs b hoj) hy h1
      have hfree' : ∀ k ok, ops[k]? = some ok → k ≠ i → (lst.setIfInBounds j true).getD k true = false →
          (∀ e ∈ ok.after, Region.binds md e = true → e.on ≠ i) → oi.apart ops ok = true := fun k ok hk hki hun hno => by
        refine hfree k ok hk hki ?_ hno
        by_cases hjk : j = k
        · subst hjk; exact hjun
        · rw [getD_set_ne true hjk] at hun; exact hun
      refine OpQ_mono (fun a' c' w' h3 => ⟨h3.2.1, ih (lst.setIfInBounds j true) a' c' w' hfree' (ready_mono hr (Ne.symm hji)) h3.1 h3.2.1 ?_⟩) h2
      rw [Array.setIfInBounds_comm _ _ hji]
      exact h3.2.2

/-- Take number i first. -/
theorem anyQ_take (T : TermsW R D) (hSR : ∀ c x y, S c x → R c x y → S c y) (hQR : ∀ a c x y, Q .normal a c x → R c x y → Q .normal a c y) {i : Nat} {oi : Oper} {v : Value} {fuel : Nat} {lst : Array Bool} {a : Act} {c : γ} {w : World} (hi : ops[i]? = some oi)
    (hs : Region.noSelect ops = true) (hf : Region.free md ops lst i = true) (hr : (Region.ready md ops lst).contains i = true)
    (hy : YieldsW P D fn ops S oi v a) (hS : S c w) (h : AnyQ P main R D Stop fn md ops Q S fuel (lst.setIfInBounds i true) (a.put oi.dst v) c w) : AnyQ P main R D Stop fn md ops Q S (fuel + 1) lst a c w :=
  anyQ_first T hSR hQR hi (Region.noSelect_spec hs) fuel lst a c w (Region.free_spec hi hf) (by simpa using hr) hy hS h

/-- Only number i may come up. -/
theorem anyQ_one {i fuel : Nat} {lst : Array Bool} (hr : Region.ready md ops lst = [i]) (h : OpQ P main R D Stop fn ops i (fun a' c' w' => S c' w' ∧ AnyQ P main R D Stop fn md ops Q S fuel (lst.setIfInBounds i true) a' c' w') a c w) : AnyQ P main R D Stop fn md ops Q S (fuel + 1) lst a c w :=
  ⟨fun h0 => (by rw [hr] at h0; cases h0), fun j hj => (by rw [hr, List.mem_singleton] at hj; subst hj; exact h)⟩
theorem anyQ_done {lst : Array Bool} (hr : Region.ready md ops lst = []) (h : Q .normal a c w) : ∀ fuel, AnyQ P main R D Stop fn md ops Q S fuel lst a c w
  | 0 => ⟨hr, h⟩
  | _ + 1 => ⟨fun _ => h, fun i hi => by rw [hr] at hi; cases hi⟩

/-- THE BEGINNING. -/
theorem wpQ_region_held (T : TermsW R D) {id : Nat} (hm : P.follows .mixedOrders = true) (hd : ∀ w₁, R c w w₁ → D c w₁ { w₁ with drawn := w₁.drawn + 1 } #[] c)
    (h : ∀ w₁, R c w w₁ → AnyQ P main R D Stop fn .any ops Q S ops.size (Array.replicate ops.size false) a c { w₁ with drawn := w₁.drawn + 1 }) : WpQ P main R D Stop fn (.region id ops true) Q a c w := by
  intro b k cs hb hk hc
  refine Way.go rfl fun w₁ h₁ => ⟨_, _, #[], c, stepG_region_draw, hd w₁ h₁, ?_⟩
  simp only [Region.schedule, hm, Bool.true_or, if_true]
  exact anyQ_sound T ops.size _ _ a c _ (h w₁ h₁) b k cs hb hk hc
end
theorem CallW.quiet {f : FuncId} {args : Array Value} {Post : Value → γ → World → Prop} (h : CallW P main R D f args c w Post) : CallQ P main R D Stop f args c w Post :=
  fun b a k cs ops i rest o xs ats h1 h2 h3 h4 h5 hn => h b a k cs ops i rest o xs ats Stop h1 h2 h3 h4 h5 hn
theorem opQ_call {i : Nat} {o : Oper} {f : FuncId} {xs : Array Operand} {ats : Array TypeId} {ops : Array Oper} {K : Act → γ → World → Prop} {Post : Value → γ → World → Prop}
    (ho : ops[i]? = some o) (hw : Region.wanted o (yielded ops a.tmps) = true) (hop : o.op = .call { callee := .value (.func f), args := xs, argTypes := ats }) {args : Array Value} (hx : xs.map a.eval = args) (h : CallQ P main R D Stop f args c w Post) (hn : ∀ v c' w', Post v c' w' → K (a.put o.dst v) c' w') : OpQ P main R D Stop fn ops i K a c w := by
  unfold OpQ
  simp only [ho, hw, if_true]
  subst hx
  exact .inr ⟨f, xs, ats, Post, hop, h, hn⟩
end
end Go.Proofs.Ytmhbjmkdekgmlaa.Sim
