/-
  Lone contracts of the laws' helpers on rows of int64: equal rows are told equal; a row is marked; a marked row is held.
  Conditions: the rows are int64s, and not long.
-/
import Derived.Test.YtmhbjmkdekgmlaaLoneK
set_option linter.unusedSimpArgs false
set_option linter.unusedVariables false
namespace Go.Proofs.Ytmhbjmkdekgmlaa.Seeds
open Go Go.RowKit

/-- The slice's row can be read. -/
def RdRow (w : World) (p : Option Addr) (L : List Int) : Prop := ∀ j x, L[j]? = some x → ∃ g, p = some ⟨g, 0, none⟩ ∧ w.cell? ⟨g, j, none⟩ = some (.int .i64 x)
theorem RdRow.of {w w' : World} {p : Option Addr} {L : List Int} (h : RdRow w p L) (hh : w'.heap = w.heap) : RdRow w' p L := fun j x hx => by
  obtain ⟨g, h1, h2⟩ := h j x hx
  exact ⟨g, h1, by simpa only [World.cell?, hh] using h2⟩

set_option maxRecDepth 100000 in
set_option maxHeartbeats 4000000 in
theorem eqRow_any (L : List Int) (pa pb : Option Addr) (ca cb : Nat) (w : World) (ha : RdRow w pa L) (hb : RdRow w pb L) (hn : L.length ≤ 1000) :
    Calls Try.prog 42 #[.slice pa L.length ca, .slice pb L.length cb] w fun e w' => e = .returned (.bool true) ∧ w'.heap = w.heap := by
  obtain ⟨n, hLn⟩ : ∃ n, n = L.length := ⟨_, rfl⟩
  rw [← hLn] at hn ⊢
  have HA := Lib.hid ha
  have HB := Lib.hid hb
  clear ha hb
  go_enter Try.func42, Try.ntmps42
  go_wp2
  go_loopw [5] (fun i wr => ∃ j : Nat, j ≤ n ∧ i = .int .i64 j ∧ wr.heap = w.heap) (fun i _ => n - (intOf i).toNat)
  case atStart => exact ⟨0, Nat.zero_le _, rfl, rfl⟩
  case round =>
    obtain ⟨j, hj, rfl, hw⟩ := hrel
    by_cases hjn : j < n
    · have hd : decide (j < n) = true := by simpa using hjn
      have hx : L[j]? = some (L[j]'(by omega)) := List.getElem?_eq_getElem (by omega)
      generalize L[j]'(by omega) = x at hx
      obtain ⟨ga, rfl, ca1⟩ := HA.out j x hx
      obtain ⟨gb, rfl, cb1⟩ := HB.out j x hx
      have ca2 : wr.cell? ⟨ga, j, none⟩ = some (.int .i64 x) := by simpa only [World.cell?, hw] using ca1
      have cb2 : wr.cell? ⟨gb, j, none⟩ = some (.int .i64 x) := by simpa only [World.cell?, hw] using cb1
      clear ca1 cb1 hx
      go_wp2
      go_quiet (fail)
      go_wp2
      go_roundw
      case rel => exact ⟨j + 1, by omega, by go_num, hw⟩
      case measure => simp [intOf]; omega
    · have hd : decide (j < n) = false := by simpa using hjn
      go_wp2
      go_ret
      exact ⟨rfl, hw⟩
def marksL (k n : Nat) : List Int := (List.range n).map fun i => ((k + i : Nat) : Int)
theorem marksL_get {k n j : Nat} (h : j < n) : (marksL k n)[j]? = some ((k + j : Nat) : Int) := by simp [marksL, h]
theorem marksL_len (k n : Nat) : (marksL k n).length = n := by simp [marksL]

set_option maxRecDepth 100000 in
set_option maxHeartbeats 4000000 in
theorem heldRow_any (k n : Nat) (pa : Option Addr) (ca : Nat) (w : World) (ha : RdRow w pa (marksL k n)) (hn : n ≤ 1000) (hk : k ≤ 1000000) :
    Calls Try.prog 44 #[.slice pa n ca, .int .i64 k] w fun e w' => e = .returned (.int .i64 ((k + n : Nat) : Int)) ∧ w'.heap = w.heap := by
  have HA := Lib.hid ha
  clear ha
  go_enter Try.func44, Try.ntmps44
  go_wp2
  go_loopw [1, 5] (fun c i wr => ∃ j : Nat, j ≤ n ∧ i = .int .i64 j ∧ c = .int .i64 ((k + j : Nat) : Int) ∧ wr.heap = w.heap) (fun _ i _ => n - (intOf i).toNat)
  case atStart => exact ⟨0, Nat.zero_le _, rfl, rfl, rfl⟩
  case round =>
    obtain ⟨j, hj, rfl, rfl, hw⟩ := hrel
    by_cases hjn : j < n
    · have hd : decide (j < n) = true := by simpa using hjn
      obtain ⟨ga, rfl, ca1⟩ := HA.out j _ (marksL_get hjn)
      have ca2 : wr.cell? ⟨ga, j, none⟩ = some (.int .i64 ((k + j : Nat) : Int)) := by simpa only [World.cell?, hw] using ca1
      clear ca1
      generalize hq : k + j = q at *
      have hq1 : q ≤ 1001000 := by omega
      go_wp2
      go_roundw
      case rel => exact ⟨j + 1, by omega, by go_num, by subst hq; go_num, hw⟩
      case measure => simp [intOf]; omega
    · have hd : decide (j < n) = false := by simpa using hjn
      obtain rfl : j = n := by omega
      go_wp2
      go_ret
      exact ⟨rfl, hw⟩

set_option maxRecDepth 100000 in
set_option maxHeartbeats 4000000 in
theorem markRow_any (k n base : Nat) (v : Value) (xs : List Value) (w : World) (ho : w.ownsRow base 2 1 v n xs) (hn : n ≤ 1000) (hk : k ≤ 1000000) :
    Calls Try.prog 43 #[v, .int .i64 k] w fun e w' => e = .returned (.int .i64 ((k + n : Nat) : Int)) ∧ w'.ownsRow base 2 1 v n ((marksL k n).map (Value.int .i64)) := by
  obtain ⟨pa, ca, rfl⟩ : ∃ pa ca, v = .slice pa n ca := by
    rcases ho.2 with ⟨rfl, rfl⟩ | ⟨g, cap, cur, rfl, _⟩
    · exact ⟨_, _, rfl⟩
    · exact ⟨_, _, rfl⟩
  have HO := Lib.hid ho
  clear ho
  go_enter Try.func43, Try.ntmps43
  go_wp2
  go_loopw [1, 5] (fun c i wr => ∃ j : Nat, j ≤ n ∧ i = .int .i64 j ∧ c = .int .i64 ((k + j : Nat) : Int) ∧ ∃ ys, wr.ownsRow base 2 1 (.slice pa n ca) n ys ∧ ∀ i : Nat, i < j → ys[i]? = some (.int .i64 ((k + i : Nat) : Int))) (fun _ i _ => n - (intOf i).toNat)
  case atStart => exact ⟨0, Nat.zero_le _, rfl, rfl, xs, HO.out, fun i hi => absurd hi (Nat.not_lt_zero _)⟩
  case round =>
    obtain ⟨j, hj, rfl, rfl, ys, hown, hys⟩ := hrel
    by_cases hjn : j < n
    · have hd : decide (j < n) = true := by simpa using hjn
      obtain ⟨ga, rfl⟩ : ∃ g, pa = some ⟨g, 0, none⟩ := by
        rcases hown.2 with ⟨e, rfl⟩ | ⟨g, cap, cur, e, _⟩
        · omega
        · cases e; exact ⟨_, rfl⟩
      have hc := hown.cellAt j (by omega)
      have hf := hown.frozenAt j
      obtain ⟨x0, hx⟩ : ∃ x, ys[j]? = some x := ⟨_, List.getElem?_eq_getElem (by rw [hown.1]; omega)⟩
      rw [hx] at hc
      generalize hq : k + j = q at *
      have hq1 : q ≤ 1001000 := by omega
      have hst := (hown.stored j (.int .i64 ((q : Nat) : Int))).1
      have hlen := hown.1
      have HS := Lib.hid hst
      have HY := Lib.hid hys
      clear hst hys hown
      go_wp2
      go_roundw
      case rel =>
        refine ⟨j + 1, by omega, by go_num, by subst hq; go_num, _, HS.out, fun i hi => ?_⟩
        rw [List.getElem?_set]
        by_cases he : j = i
        · subst he
          subst hq
          rw [if_pos rfl, if_pos (by omega)]
        · rw [if_neg he]
          exact HY.out i (by omega)
      case measure => simp [intOf]; omega
    · have hd : decide (j < n) = false := by simpa using hjn
      obtain rfl : j = n := by omega
      have HS := Lib.hid hown
      have HY := Lib.hid hys
      clear hown hys
      go_wp2
      go_ret
      refine ⟨rfl, ?_⟩
      have e : ys = (marksL k j).map (Value.int .i64) := by
        refine List.ext_getElem? fun i => ?_
        by_cases hi : i < j
        · rw [HY.out i hi, List.getElem?_map, marksL_get hi]; rfl
        · rw [List.getElem?_eq_none (by rw [HS.out.1]; omega), List.getElem?_eq_none (by rw [List.length_map, marksL_len]; omega)]
      rw [← e]
      exact HS.out
end Go.Proofs.Ytmhbjmkdekgmlaa.Seeds
