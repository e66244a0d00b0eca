/-
  No cell of these rows narrows 'for every input' (looked for: loops, veiled, ifaces, maps, wideKeys, modest, calm, conditions, laid).
  DERIVED. THE GIVEN ROWS OF THIS SEAT. 8 by the template 'for every input the law returns true; each argument reads behind the call as it read before'; 0 by the template 'total and deterministic' (their statements: YtmhbjmkdekgmlaaTotals.lean).
  GIVEN WITH THE SEED: the statements are not yours to turn. If you find one false, say at which input.
  Laid BY PROGRAM, IN A SANDBOX (cutbox-rows.mjs): the forced cells as the released guide's own fill.sh prints them over the translation e4e8fe32d447ddca… (all of the seat's roots in one cut). By AI agents, Wed Nov 11 2026. No macro, syntax, notation, axiom, sorry.
-/
import Derived.Test.YtmhbjmkdekgmlaaChecked
import GoSem.Claim
import GoSem.ClaimJoined
import GoSem.ClaimMapViews
import Derived.JoinedTies
import Derived.KernelRfl
namespace Go.Proofs.Ytmhbjmkdekgmlaa
/- THE CELL 'sum', in the pinned program and in every row, IS THE sha256 OF THE DUMP (.gsa) THAT YtmhbjmkdekgmlaaProg.lean LOADS. Nothing in Lean hashes anything: it is a label: what it is worth is what the hold of that sum in a sandbox is worth. -/
noncomputable def Try.pinned : Pinned := { name := "ytmhbjmkdekgmlaa", sum := "e4e8fe32d447ddcafa5c978b3ea27f4d1deb7069b90716d8569817dfd64de61f", checked := Try.checked }
namespace Rows
def none {H : Type} : Left H := { results := [], args := [] }

/-- 'laws.FnSeeds': WHATEVER THE INPUT: true; the input reads as it did. -/
def fnSeedsSpec : ChangeSpec := { name := "fnSeeds", fn := fun _ => fun
  | [d1, d2] => { results := [.lit (.bool true)], args := [d1, d2] }
  | _ => none }
def fnSeedsRow : OpenClaim := { program := "ytmhbjmkdekgmlaa", sum := "e4e8fe32d447ddcafa5c978b3ea27f4d1deb7069b90716d8569817dfd64de61f", func := "loop.example/g01339/laws.FnSeeds", spec := "fnSeeds", inPlace := ["(*sync.WaitGroup).Add", "internal/race.ReleaseMerge", "internal/race.Disable", "internal/race.Enable", "internal/synctest.IsInBubble", "internal/synctest.Associate[sync.WaitGroup]", "sync.fatal", "sync/atomic.OrUint64", "sync/atomic.AddUint64", "internal/race.Read", "sync/atomic.LoadUint64", "sync/atomic.StoreUint64", "internal/synctest.Disassociate[sync.WaitGroup]", "sync.runtime_Semrelease", "(*sync.WaitGroup).Done", "(*sync.WaitGroup).Wait", "internal/race.Acquire", "internal/synctest.IsAssociated[sync.WaitGroup]", "sync/atomic.CompareAndSwapUint64", "internal/race.Write", "sync.runtime_SemacquireWaitGroup"], unfollowed := true, recurses := true, leaving := true, apart := false }
def FnSeedsSaid : Prop := fnSeedsRow.holds Try.pinned (OpenSpec.ofChange fnSeedsSpec)

/-- ITS FALSE NEIGHBOUR: 'it returns false'. Refute it at one input. -/
def fnSeedsWrong : ChangeSpec := { name := "fnSeeds", fn := fun _ => fun
  | [d1, d2] => { results := [.lit (.bool false)], args := [d1, d2] }
  | _ => none }
def FnSeedsWrongFalsely : Prop := fnSeedsRow.holds Try.pinned (OpenSpec.ofChange fnSeedsWrong)

/-- 'laws.FnDots': WHATEVER THE INPUT: true; the input reads as it did. -/
def fnDotsSpec : ChangeSpec := { name := "fnDots", fn := fun _ => fun
  | [d1, d2] => { results := [.lit (.bool true)], args := [d1, d2] }
  | _ => none }
def fnDotsRow : OpenClaim := { program := "ytmhbjmkdekgmlaa", sum := "e4e8fe32d447ddcafa5c978b3ea27f4d1deb7069b90716d8569817dfd64de61f", func := "loop.example/g01339/laws.FnDots", spec := "fnDots", inPlace := ["math.Float32frombits", "math.Float32bits"], apart := false }
def FnDotsSaid : Prop := fnDotsRow.holds Try.pinned (OpenSpec.ofChange fnDotsSpec)

/-- ITS FALSE NEIGHBOUR: 'it returns false'. Refute it at one input. -/
def fnDotsWrong : ChangeSpec := { name := "fnDots", fn := fun _ => fun
  | [d1, d2] => { results := [.lit (.bool false)], args := [d1, d2] }
  | _ => none }
def FnDotsWrongFalsely : Prop := fnDotsRow.holds Try.pinned (OpenSpec.ofChange fnDotsWrong)

/-- 'laws.FnExactDrawnOrder': WHATEVER THE INPUT: true; the input reads as it did. -/
def fnExactDrawnOrderSpec : ChangeSpec := { name := "fnExactDrawnOrder", fn := fun _ => fun
  | [d1, d2] => { results := [.lit (.bool true)], args := [d1, d2] }
  | _ => none }
def fnExactDrawnOrderRow : OpenClaim := { program := "ytmhbjmkdekgmlaa", sum := "e4e8fe32d447ddcafa5c978b3ea27f4d1deb7069b90716d8569817dfd64de61f", func := "loop.example/g01339/laws.FnExactDrawnOrder", spec := "fnExactDrawnOrder", apart := false }
def FnExactDrawnOrderSaid : Prop := fnExactDrawnOrderRow.holds Try.pinned (OpenSpec.ofChange fnExactDrawnOrderSpec)

/-- ITS FALSE NEIGHBOUR: 'it returns false'. Refute it at one input. -/
def fnExactDrawnOrderWrong : ChangeSpec := { name := "fnExactDrawnOrder", fn := fun _ => fun
  | [d1, d2] => { results := [.lit (.bool false)], args := [d1, d2] }
  | _ => none }
def FnExactDrawnOrderWrongFalsely : Prop := fnExactDrawnOrderRow.holds Try.pinned (OpenSpec.ofChange fnExactDrawnOrderWrong)

/-- 'laws.FnExactRingOrder': WHATEVER THE INPUT: true; the input reads as it did. -/
def fnExactRingOrderSpec : ChangeSpec := { name := "fnExactRingOrder", fn := fun _ => fun
  | [d1, d2] => { results := [.lit (.bool true)], args := [d1, d2] }
  | _ => none }
def fnExactRingOrderRow : OpenClaim := { program := "ytmhbjmkdekgmlaa", sum := "e4e8fe32d447ddcafa5c978b3ea27f4d1deb7069b90716d8569817dfd64de61f", func := "loop.example/g01339/laws.FnExactRingOrder", spec := "fnExactRingOrder", apart := false }
def FnExactRingOrderSaid : Prop := fnExactRingOrderRow.holds Try.pinned (OpenSpec.ofChange fnExactRingOrderSpec)

/-- ITS FALSE NEIGHBOUR: 'it returns false'. Refute it at one input. -/
def fnExactRingOrderWrong : ChangeSpec := { name := "fnExactRingOrder", fn := fun _ => fun
  | [d1, d2] => { results := [.lit (.bool false)], args := [d1, d2] }
  | _ => none }
def FnExactRingOrderWrongFalsely : Prop := fnExactRingOrderRow.holds Try.pinned (OpenSpec.ofChange fnExactRingOrderWrong)

/-- 'laws.FnExactMovedOrder': WHATEVER THE INPUT: true; the input reads as it did. -/
def fnExactMovedOrderSpec : ChangeSpec := { name := "fnExactMovedOrder", fn := fun _ => fun
  | [d1, d2] => { results := [.lit (.bool true)], args := [d1, d2] }
  | _ => none }
def fnExactMovedOrderRow : OpenClaim := { program := "ytmhbjmkdekgmlaa", sum := "e4e8fe32d447ddcafa5c978b3ea27f4d1deb7069b90716d8569817dfd64de61f", func := "loop.example/g01339/laws.FnExactMovedOrder", spec := "fnExactMovedOrder", apart := false }
def FnExactMovedOrderSaid : Prop := fnExactMovedOrderRow.holds Try.pinned (OpenSpec.ofChange fnExactMovedOrderSpec)

/-- ITS FALSE NEIGHBOUR: 'it returns false'. Refute it at one input. -/
def fnExactMovedOrderWrong : ChangeSpec := { name := "fnExactMovedOrder", fn := fun _ => fun
  | [d1, d2] => { results := [.lit (.bool false)], args := [d1, d2] }
  | _ => none }
def FnExactMovedOrderWrongFalsely : Prop := fnExactMovedOrderRow.holds Try.pinned (OpenSpec.ofChange fnExactMovedOrderWrong)

/-- 'laws.FnExactStreamWords': WHATEVER THE INPUT: true; the input reads as it did. -/
def fnExactStreamWordsSpec : ChangeSpec := { name := "fnExactStreamWords", fn := fun _ => fun
  | [d1, d2, d3] => { results := [.lit (.bool true)], args := [d1, d2, d3] }
  | _ => none }
def fnExactStreamWordsRow : OpenClaim := { program := "ytmhbjmkdekgmlaa", sum := "e4e8fe32d447ddcafa5c978b3ea27f4d1deb7069b90716d8569817dfd64de61f", func := "loop.example/g01339/laws.FnExactStreamWords", spec := "fnExactStreamWords", inPlace := ["(*sync.WaitGroup).Add", "internal/race.ReleaseMerge", "internal/race.Disable", "internal/race.Enable", "internal/synctest.IsInBubble", "internal/synctest.Associate[sync.WaitGroup]", "sync.fatal", "sync/atomic.OrUint64", "sync/atomic.AddUint64", "internal/race.Read", "sync/atomic.LoadUint64", "sync/atomic.StoreUint64", "internal/synctest.Disassociate[sync.WaitGroup]", "sync.runtime_Semrelease", "(*sync.WaitGroup).Done", "(*sync.WaitGroup).Wait", "internal/race.Acquire", "internal/synctest.IsAssociated[sync.WaitGroup]", "sync/atomic.CompareAndSwapUint64", "internal/race.Write", "sync.runtime_SemacquireWaitGroup"], unfollowed := true, recurses := true, leaving := true, apart := false }
def FnExactStreamWordsSaid : Prop := fnExactStreamWordsRow.holds Try.pinned (OpenSpec.ofChange fnExactStreamWordsSpec)

/-- ITS FALSE NEIGHBOUR: 'it returns false'. Refute it at one input. -/
def fnExactStreamWordsWrong : ChangeSpec := { name := "fnExactStreamWords", fn := fun _ => fun
  | [d1, d2, d3] => { results := [.lit (.bool false)], args := [d1, d2, d3] }
  | _ => none }
def FnExactStreamWordsWrongFalsely : Prop := fnExactStreamWordsRow.holds Try.pinned (OpenSpec.ofChange fnExactStreamWordsWrong)

/-- 'laws.FnExactStreamsShared': WHATEVER THE INPUT: true; the input reads as it did. -/
def fnExactStreamsSharedSpec : ChangeSpec := { name := "fnExactStreamsShared", fn := fun _ => fun
  | [d1, d2, d3, d4] => { results := [.lit (.bool true)], args := [d1, d2, d3, d4] }
  | _ => none }
def fnExactStreamsSharedRow : OpenClaim := { program := "ytmhbjmkdekgmlaa", sum := "e4e8fe32d447ddcafa5c978b3ea27f4d1deb7069b90716d8569817dfd64de61f", func := "loop.example/g01339/laws.FnExactStreamsShared", spec := "fnExactStreamsShared", inPlace := ["(*sync.WaitGroup).Add", "internal/race.ReleaseMerge", "internal/race.Disable", "internal/race.Enable", "internal/synctest.IsInBubble", "internal/synctest.Associate[sync.WaitGroup]", "sync.fatal", "sync/atomic.OrUint64", "sync/atomic.AddUint64", "internal/race.Read", "sync/atomic.LoadUint64", "sync/atomic.StoreUint64", "internal/synctest.Disassociate[sync.WaitGroup]", "sync.runtime_Semrelease", "(*sync.WaitGroup).Done", "(*sync.WaitGroup).Wait", "internal/race.Acquire", "internal/synctest.IsAssociated[sync.WaitGroup]", "sync/atomic.CompareAndSwapUint64", "internal/race.Write", "sync.runtime_SemacquireWaitGroup"], unfollowed := true, recurses := true, leaving := true, apart := false }
def FnExactStreamsSharedSaid : Prop := fnExactStreamsSharedRow.holds Try.pinned (OpenSpec.ofChange fnExactStreamsSharedSpec)

/-- ITS FALSE NEIGHBOUR: 'it returns false'. Refute it at one input. -/
def fnExactStreamsSharedWrong : ChangeSpec := { name := "fnExactStreamsShared", fn := fun _ => fun
  | [d1, d2, d3, d4] => { results := [.lit (.bool false)], args := [d1, d2, d3, d4] }
  | _ => none }
def FnExactStreamsSharedWrongFalsely : Prop := fnExactStreamsSharedRow.holds Try.pinned (OpenSpec.ofChange fnExactStreamsSharedWrong)

/-- 'laws.FnExactBellsShared': WHATEVER THE INPUT: true; the input reads as it did. -/
def fnExactBellsSharedSpec : ChangeSpec := { name := "fnExactBellsShared", fn := fun _ => fun
  | [d1, d2, d3, d4] => { results := [.lit (.bool true)], args := [d1, d2, d3, d4] }
  | _ => none }
def fnExactBellsSharedRow : OpenClaim := { program := "ytmhbjmkdekgmlaa", sum := "e4e8fe32d447ddcafa5c978b3ea27f4d1deb7069b90716d8569817dfd64de61f", func := "loop.example/g01339/laws.FnExactBellsShared", spec := "fnExactBellsShared", inPlace := ["math.Float32frombits", "math.Float64frombits", "math.Float64bits", "math.sqrt", "math.archTrunc", "(*sync.WaitGroup).Add", "internal/race.ReleaseMerge", "internal/race.Disable", "internal/race.Enable", "internal/synctest.IsInBubble", "internal/synctest.Associate[sync.WaitGroup]", "sync.fatal", "sync/atomic.OrUint64", "sync/atomic.AddUint64", "internal/race.Read", "sync/atomic.LoadUint64", "sync/atomic.StoreUint64", "internal/synctest.Disassociate[sync.WaitGroup]", "sync.runtime_Semrelease", "(*sync.WaitGroup).Done", "(*sync.WaitGroup).Wait", "internal/race.Acquire", "internal/synctest.IsAssociated[sync.WaitGroup]", "sync/atomic.CompareAndSwapUint64", "internal/race.Write", "sync.runtime_SemacquireWaitGroup"], unfollowed := true, recurses := true, leaving := true, apart := false }
def FnExactBellsSharedSaid : Prop := fnExactBellsSharedRow.holds Try.pinned (OpenSpec.ofChange fnExactBellsSharedSpec)

/-- ITS FALSE NEIGHBOUR: 'it returns false'. Refute it at one input. -/
def fnExactBellsSharedWrong : ChangeSpec := { name := "fnExactBellsShared", fn := fun _ => fun
  | [d1, d2, d3, d4] => { results := [.lit (.bool false)], args := [d1, d2, d3, d4] }
  | _ => none }
def FnExactBellsSharedWrongFalsely : Prop := fnExactBellsSharedRow.holds Try.pinned (OpenSpec.ofChange fnExactBellsSharedWrong)

/- THE SECOND FORM. 'bulk': how many values and letters a reading holds, each counted each time it is reached (what is shared counts as often as it is met; a slice's spare places count too). A statement '..UptoSaid' is the law's where the arguments, and the package variables that the reading takes, are together of bulk at most 1048576: NARROWER than '..Said'. Prove '..Said' where nothing that the law and all that it calls make is longer than what came in: it says more and counts as full. Else prove '..UptoSaid'. A law counts once. -/
mutual
def uptoBulk {H : Type} : DataW H → Nat
  | .lit (.string bytes) => bytes.length + 1
  | .lit _ => 1
  | .nil => 1
  | .ptr d => uptoBulk d + 1
  | .slice elems spare => uptoBulkAll elems + uptoBulkAll spare + 1
  | .agg parts => uptoBulkAll parts + 1
  | .iface _ d => uptoBulk d + 1
  | .map entries => uptoBulkEntries entries + 1
  | .held _ => 1
def uptoBulkAll {H : Type} : List (DataW H) → Nat
  | [] => 0
  | d :: r => uptoBulk d + uptoBulkAll r
def uptoBulkEntries {H : Type} : List (Lit × DataW H) → Nat
  | [] => 0
  | x :: r => uptoBulkEntry x + uptoBulkEntries r
def uptoBulkEntry {H : Type} : Lit × DataW H → Nat
  | (.string bytes, d) => bytes.length + uptoBulk d + 1
  | (_, d) => uptoBulk d + 1
 end
def uptoSmall : (H : Type) → List (DataW H) → Bool := fun _ ds => decide (uptoBulkAll ds ≤ 1048576)
def OpenSpec.upto (s : _root_.Go.ChangeSpec) : _root_.Go.OpenSpec := { _root_.Go.OpenSpec.ofChange s with cond := some uptoSmall }

/-- 'laws.FnSeeds', WHERE WHAT IT READS IS OF BULK AT MOST 1048576: true; the input reads as it did. -/
def fnSeedsUptoRow : OpenClaim := { program := "ytmhbjmkdekgmlaa", sum := "e4e8fe32d447ddcafa5c978b3ea27f4d1deb7069b90716d8569817dfd64de61f", func := "loop.example/g01339/laws.FnSeeds", spec := "fnSeeds", inPlace := ["(*sync.WaitGroup).Add", "internal/race.ReleaseMerge", "internal/race.Disable", "internal/race.Enable", "internal/synctest.IsInBubble", "internal/synctest.Associate[sync.WaitGroup]", "sync.fatal", "sync/atomic.OrUint64", "sync/atomic.AddUint64", "internal/race.Read", "sync/atomic.LoadUint64", "sync/atomic.StoreUint64", "internal/synctest.Disassociate[sync.WaitGroup]", "sync.runtime_Semrelease", "(*sync.WaitGroup).Done", "(*sync.WaitGroup).Wait", "internal/race.Acquire", "internal/synctest.IsAssociated[sync.WaitGroup]", "sync/atomic.CompareAndSwapUint64", "internal/race.Write", "sync.runtime_SemacquireWaitGroup"], unfollowed := true, recurses := true, leaving := true, apart := false, narrowed := true }
def FnSeedsUptoSaid : Prop := fnSeedsUptoRow.holds Try.pinned (OpenSpec.upto fnSeedsSpec)

/-- 'laws.FnDots', WHERE WHAT IT READS IS OF BULK AT MOST 1048576: true; the input reads as it did. -/
def fnDotsUptoRow : OpenClaim := { program := "ytmhbjmkdekgmlaa", sum := "e4e8fe32d447ddcafa5c978b3ea27f4d1deb7069b90716d8569817dfd64de61f", func := "loop.example/g01339/laws.FnDots", spec := "fnDots", inPlace := ["math.Float32frombits", "math.Float32bits"], apart := false, narrowed := true }
def FnDotsUptoSaid : Prop := fnDotsUptoRow.holds Try.pinned (OpenSpec.upto fnDotsSpec)

/-- 'laws.FnExactDrawnOrder', WHERE WHAT IT READS IS OF BULK AT MOST 1048576: true; the input reads as it did. -/
def fnExactDrawnOrderUptoRow : OpenClaim := { program := "ytmhbjmkdekgmlaa", sum := "e4e8fe32d447ddcafa5c978b3ea27f4d1deb7069b90716d8569817dfd64de61f", func := "loop.example/g01339/laws.FnExactDrawnOrder", spec := "fnExactDrawnOrder", apart := false, narrowed := true }
def FnExactDrawnOrderUptoSaid : Prop := fnExactDrawnOrderUptoRow.holds Try.pinned (OpenSpec.upto fnExactDrawnOrderSpec)

/-- 'laws.FnExactRingOrder', WHERE WHAT IT READS IS OF BULK AT MOST 1048576: true; the input reads as it did. -/
def fnExactRingOrderUptoRow : OpenClaim := { program := "ytmhbjmkdekgmlaa", sum := "e4e8fe32d447ddcafa5c978b3ea27f4d1deb7069b90716d8569817dfd64de61f", func := "loop.example/g01339/laws.FnExactRingOrder", spec := "fnExactRingOrder", apart := false, narrowed := true }
def FnExactRingOrderUptoSaid : Prop := fnExactRingOrderUptoRow.holds Try.pinned (OpenSpec.upto fnExactRingOrderSpec)

/-- 'laws.FnExactMovedOrder', WHERE WHAT IT READS IS OF BULK AT MOST 1048576: true; the input reads as it did. -/
def fnExactMovedOrderUptoRow : OpenClaim := { program := "ytmhbjmkdekgmlaa", sum := "e4e8fe32d447ddcafa5c978b3ea27f4d1deb7069b90716d8569817dfd64de61f", func := "loop.example/g01339/laws.FnExactMovedOrder", spec := "fnExactMovedOrder", apart := false, narrowed := true }
def FnExactMovedOrderUptoSaid : Prop := fnExactMovedOrderUptoRow.holds Try.pinned (OpenSpec.upto fnExactMovedOrderSpec)

/-- 'laws.FnExactStreamWords', WHERE WHAT IT READS IS OF BULK AT MOST 1048576: true; the input reads as it did. -/
def fnExactStreamWordsUptoRow : OpenClaim := { program := "ytmhbjmkdekgmlaa", sum := "e4e8fe32d447ddcafa5c978b3ea27f4d1deb7069b90716d8569817dfd64de61f", func := "loop.example/g01339/laws.FnExactStreamWords", spec := "fnExactStreamWords", inPlace := ["(*sync.WaitGroup).Add", "internal/race.ReleaseMerge", "internal/race.Disable", "internal/race.Enable", "internal/synctest.IsInBubble", "internal/synctest.Associate[sync.WaitGroup]", "sync.fatal", "sync/atomic.OrUint64", "sync/atomic.AddUint64", "internal/race.Read", "sync/atomic.LoadUint64", "sync/atomic.StoreUint64", "internal/synctest.Disassociate[sync.WaitGroup]", "sync.runtime_Semrelease", "(*sync.WaitGroup).Done", "(*sync.WaitGroup).Wait", "internal/race.Acquire", "internal/synctest.IsAssociated[sync.WaitGroup]", "sync/atomic.CompareAndSwapUint64", "internal/race.Write", "sync.runtime_SemacquireWaitGroup"], unfollowed := true, recurses := true, leaving := true, apart := false, narrowed := true }
def FnExactStreamWordsUptoSaid : Prop := fnExactStreamWordsUptoRow.holds Try.pinned (OpenSpec.upto fnExactStreamWordsSpec)

/-- 'laws.FnExactStreamsShared', WHERE WHAT IT READS IS OF BULK AT MOST 1048576: true; the input reads as it did. -/
def fnExactStreamsSharedUptoRow : OpenClaim := { program := "ytmhbjmkdekgmlaa", sum := "e4e8fe32d447ddcafa5c978b3ea27f4d1deb7069b90716d8569817dfd64de61f", func := "loop.example/g01339/laws.FnExactStreamsShared", spec := "fnExactStreamsShared", inPlace := ["(*sync.WaitGroup).Add", "internal/race.ReleaseMerge", "internal/race.Disable", "internal/race.Enable", "internal/synctest.IsInBubble", "internal/synctest.Associate[sync.WaitGroup]", "sync.fatal", "sync/atomic.OrUint64", "sync/atomic.AddUint64", "internal/race.Read", "sync/atomic.LoadUint64", "sync/atomic.StoreUint64", "internal/synctest.Disassociate[sync.WaitGroup]", "sync.runtime_Semrelease", "(*sync.WaitGroup).Done", "(*sync.WaitGroup).Wait", "internal/race.Acquire", "internal/synctest.IsAssociated[sync.WaitGroup]", "sync/atomic.CompareAndSwapUint64", "internal/race.Write", "sync.runtime_SemacquireWaitGroup"], unfollowed := true, recurses := true, leaving := true, apart := false, narrowed := true }
def FnExactStreamsSharedUptoSaid : Prop := fnExactStreamsSharedUptoRow.holds Try.pinned (OpenSpec.upto fnExactStreamsSharedSpec)

/-- 'laws.FnExactBellsShared', WHERE WHAT IT READS IS OF BULK AT MOST 1048576: true; the input reads as it did. -/
def fnExactBellsSharedUptoRow : OpenClaim := { program := "ytmhbjmkdekgmlaa", sum := "e4e8fe32d447ddcafa5c978b3ea27f4d1deb7069b90716d8569817dfd64de61f", func := "loop.example/g01339/laws.FnExactBellsShared", spec := "fnExactBellsShared", inPlace := ["math.Float32frombits", "math.Float64frombits", "math.Float64bits", "math.sqrt", "math.archTrunc", "(*sync.WaitGroup).Add", "internal/race.ReleaseMerge", "internal/race.Disable", "internal/race.Enable", "internal/synctest.IsInBubble", "internal/synctest.Associate[sync.WaitGroup]", "sync.fatal", "sync/atomic.OrUint64", "sync/atomic.AddUint64", "internal/race.Read", "sync/atomic.LoadUint64", "sync/atomic.StoreUint64", "internal/synctest.Disassociate[sync.WaitGroup]", "sync.runtime_Semrelease", "(*sync.WaitGroup).Done", "(*sync.WaitGroup).Wait", "internal/race.Acquire", "internal/synctest.IsAssociated[sync.WaitGroup]", "sync/atomic.CompareAndSwapUint64", "internal/race.Write", "sync.runtime_SemacquireWaitGroup"], unfollowed := true, recurses := true, leaving := true, apart := false, narrowed := true }
def FnExactBellsSharedUptoSaid : Prop := fnExactBellsSharedUptoRow.holds Try.pinned (OpenSpec.upto fnExactBellsSharedSpec)

end Rows
end Go.Proofs.Ytmhbjmkdekgmlaa
