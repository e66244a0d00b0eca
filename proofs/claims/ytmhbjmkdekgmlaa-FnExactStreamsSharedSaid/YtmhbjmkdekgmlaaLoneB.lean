/-
  Lone contracts of the seeds' functions: the next seed, on the program's side.
  Condition: the seed's words are uint64s.
-/
import Derived.Test.YtmhbjmkdekgmlaaLoneA
set_option linter.unusedSimpArgs false
set_option linter.unusedVariables false
namespace Go.Proofs.Ytmhbjmkdekgmlaa.Seeds
open Go Go.RowKit

/-- A seed: its kind and its two words. -/
structure Sd where
  k : Int
  a : Int
  b : Int
def Sd.Ok (s : Sd) : Prop := U64 s.a ∧ U64 s.b
def Sd.val (s : Sd) : Value := .agg #[.int .i64 s.k, .int .u64 s.a, .int .u64 s.b]
def lineA (a b : Int) : Int := wrapU (wrapU (6364136223846793005 * a) + b)
def sh1 (a : Int) : Int := bits .xor .u64 a (wrapU (a * 8192))
def sh2 (a : Int) : Int := bits .xor .u64 (sh1 a) (sh1 a / 128)
def sh3 (a : Int) : Int := bits .xor .u64 (sh2 a) (wrapU (sh2 a * 131072))
def cntA (a : Int) : Int := wrapU (a + 11400714819323198485)
def parX (a b : Int) : Int := bits .xor .u64 b a
def parA (a b : Int) : Int := bits .xor .u64 (bits .xor .u64 (rotI a 16777216 1099511627776) (parX a b)) (wrapU (parX a b * 65536))
def parB (a b : Int) : Int := rotI (parX a b) 137438953472 134217728
def nextS (s : Sd) : Sd := if s.k = 0 then ⟨s.k, lineA s.a s.b, s.b⟩ else if s.k = 1 then ⟨s.k, sh3 s.a, s.b⟩ else if s.k = 2 then ⟨s.k, cntA s.a, s.b⟩ else ⟨s.k, parA s.a s.b, parB s.a s.b⟩
def rawW (s : Sd) : Int := if s.k = 0 then lineA s.a s.b else if s.k = 1 then wrapU (sh3 s.a * 2685821657736338717) else if s.k = 2 then mixI (wrapU (cntA s.a + s.b)) else wrapU (s.a + s.b)
def nextW (s : Sd) : Int := rawW s / 4294967296

theorem u64_xor (a b : Int) : U64 (bits .xor .u64 a b) := wrapU_u64 _
theorem u64_or (a b : Int) : U64 (bits .or .u64 a b) := wrapU_u64 _
theorem mixI_u64 (x : Int) : U64 (mixI x) := u64_xor _ _
theorem rotI_u64 (x m d : Int) : U64 (rotI x m d) := u64_or _ _

theorem w64_div (x : Int) : wrap64 (IntKind.u64.wrap x / 4294967296) = IntKind.u64.wrap x / 4294967296 := by
  have := wrapU_u64 x
  unfold U64 wrapU at this
  simp only [wrap64]
  omega
theorem w64_div' (x : Int) (h : U64 x) : wrap64 (x / 4294967296) = x / 4294967296 := by
  unfold U64 at h
  simp only [wrap64]
  omega
theorem w64_mix (x : Int) : wrap64 (mixI x / 4294967296) = mixI x / 4294967296 := w64_div' _ (mixI_u64 x)

set_option maxHeartbeats 4000000 in
theorem next_line (s : Sd) (w : World) (h : s.Ok) (hk : s.k = 0) : Calls Try.prog 65 #[s.val] w fun e w' => e = .returned (.tuple #[(nextS s).val, .int .i64 (nextW s)]) ∧ Below w.heap.size w w' := by
  obtain ⟨k, a, b⟩ := s
  obtain ⟨⟨a0, a1⟩, b0, b1⟩ := h
  simp only at hk a0 a1 b0 b1
  subst hk
  unfold Sd.val
  go_enter Try.func65, Try.ntmps65
  go_wp2
  exact bodyPost_ret (v := .tuple #[(nextS ⟨0, a, b⟩).val, .int .i64 (nextW ⟨0, a, b⟩)]) (by simp [results, Try.results65, go_sem, nextS, nextW, rawW, Sd.val, wrapU, w64_div, w64_mix, lineA]) rfl ⟨rfl, ((Below.refl _ _).alloc (Nat.le_refl _) _).alloc (by simp) _⟩
set_option maxHeartbeats 4000000 in
theorem next_shift (s : Sd) (w : World) (h : s.Ok) (hk : s.k = 1) : Calls Try.prog 65 #[s.val] w fun e w' => e = .returned (.tuple #[(nextS s).val, .int .i64 (nextW s)]) ∧ Below w.heap.size w w' := by
  obtain ⟨k, a, b⟩ := s
  obtain ⟨⟨a0, a1⟩, b0, b1⟩ := h
  simp only at hk a0 a1 b0 b1
  subst hk
  unfold Sd.val
  go_enter Try.func65, Try.ntmps65
  go_wp2
  exact bodyPost_ret (v := .tuple #[(nextS ⟨1, a, b⟩).val, .int .i64 (nextW ⟨1, a, b⟩)]) (by simp [results, Try.results65, go_sem, nextS, nextW, rawW, Sd.val, wrapU, w64_div, w64_mix, sh1, sh2, sh3]) rfl ⟨rfl, ((Below.refl _ _).alloc (Nat.le_refl _) _).alloc (by simp) _⟩
set_option maxRecDepth 100000 in
set_option maxHeartbeats 4000000 in
theorem next_count (s : Sd) (w : World) (h : s.Ok) (hk : s.k = 2) : Calls Try.prog 65 #[s.val] w fun e w' => e = .returned (.tuple #[(nextS s).val, .int .i64 (nextW s)]) ∧ Below w.heap.size w w' := by
  obtain ⟨k, a, b⟩ := s
  obtain ⟨⟨a0, a1⟩, b0, b1⟩ := h
  simp only at hk a0 a1 b0 b1
  subst hk
  unfold Sd.val
  go_enter Try.func65, Try.ntmps65
  have hm : U64 (IntKind.u64.wrap (IntKind.u64.wrap (a + 11400714819323198485) + b)) := wrapU_u64 _
  go_wp2_with (go_at_call 26; ((with_reducible refine (mix_any _ _ hm).mono ?_); rintro e w' ⟨rfl, rfl⟩))
  exact bodyPost_ret (v := .tuple #[(nextS ⟨2, a, b⟩).val, .int .i64 (nextW ⟨2, a, b⟩)]) (by simp [results, Try.results65, go_sem, nextS, nextW, rawW, Sd.val, wrapU, w64_div, w64_mix, cntA]) rfl ⟨rfl, ((Below.refl _ _).alloc (Nat.le_refl _) _).alloc (by simp) _⟩
set_option maxRecDepth 100000 in
set_option maxHeartbeats 4000000 in
theorem next_pair (s : Sd) (w : World) (h : s.Ok) (h0 : s.k ≠ 0) (h1 : s.k ≠ 1) (h2 : s.k ≠ 2) : Calls Try.prog 65 #[s.val] w fun e w' => e = .returned (.tuple #[(nextS s).val, .int .i64 (nextW s)]) ∧ Below w.heap.size w w' := by
  obtain ⟨k, a, b⟩ := s
  obtain ⟨⟨a0, a1⟩, b0, b1⟩ := h
  simp only at h0 h1 h2 a0 a1 b0 b1
  have e0 : ((k : Int) == 0) = false := by simpa using h0
  have e1 : ((k : Int) == 1) = false := by simpa using h1
  have e2 : ((k : Int) == 2) = false := by simpa using h2
  unfold Sd.val
  go_enter Try.func65, Try.ntmps65
  have hx : U64 (bits .xor .u64 b a) := wrapU_u64 _
  have ha : U64 a := ⟨a0, a1⟩
  go_wp2_with (first | (go_at_call 102; ((with_reducible refine (rot24_any a _ ha).mono ?_); rintro e w' ⟨rfl, rfl⟩)) | (go_at_call 102; ((with_reducible refine (rot37_any (bits .xor .u64 b a) _ hx).mono ?_); rintro e w' ⟨rfl, rfl⟩)))
  exact bodyPost_ret (v := .tuple #[(nextS ⟨k, a, b⟩).val, .int .i64 (nextW ⟨k, a, b⟩)]) (by simp [results, Try.results65, go_sem, nextS, nextW, rawW, Sd.val, wrapU, w64_div, w64_mix, parA, parB, parX, h0, h1, h2]) rfl ⟨rfl, ((Below.refl _ _).alloc (Nat.le_refl _) _).alloc (by simp) _⟩
theorem next_any (s : Sd) (w : World) (h : s.Ok) : Calls Try.prog 65 #[s.val] w fun e w' => e = .returned (.tuple #[(nextS s).val, .int .i64 (nextW s)]) ∧ Below w.heap.size w w' := by
  by_cases h0 : s.k = 0
  · exact next_line s w h h0
  by_cases h1 : s.k = 1
  · exact next_shift s w h h1
  by_cases h2 : s.k = 2
  · exact next_count s w h h2
  · exact next_pair s w h h0 h1 h2
theorem next_ok (s : Sd) (h : s.Ok) : (nextS s).Ok := by
  unfold nextS
  split
  · exact ⟨wrapU_u64 _, h.2⟩
  · split
    · exact ⟨u64_xor _ _, h.2⟩
    · split
      · exact ⟨wrapU_u64 _, h.2⟩
      · exact ⟨u64_xor _ _, rotI_u64 _ _ _⟩
theorem rawW_u64 (s : Sd) : U64 (rawW s) := by
  unfold rawW
  split
  · exact wrapU_u64 _
  · split
    · exact wrapU_u64 _
    · split
      · exact mixI_u64 _
      · exact wrapU_u64 _
theorem nextW_bd (s : Sd) : 0 ≤ nextW s ∧ nextW s < 4294967296 := by
  have := rawW_u64 s
  unfold U64 at this
  unfold nextW
  omega
end Go.Proofs.Ytmhbjmkdekgmlaa.Seeds
