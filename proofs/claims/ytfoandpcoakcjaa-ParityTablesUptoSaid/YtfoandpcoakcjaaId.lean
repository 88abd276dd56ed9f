/- Words for names of 32 bytes in memory. No conditions. -/
import Derived.Test.YtfoandpcoakcjaaRow32
namespace Go.Proofs.Ytfoandpcoakcjaa
open Go.RowKit
set_option linter.unusedVariables false
attribute [local go_sem ↓] execOp_ld32 execOp_st32
attribute [local go_sem] run_ld32 run_st32
def zeroId : Obj := .cells #[.int .u8 0, .int .u8 0, .int .u8 0, .int .u8 0, .int .u8 0, .int .u8 0, .int .u8 0, .int .u8 0, .int .u8 0, .int .u8 0, .int .u8 0, .int .u8 0, .int .u8 0, .int .u8 0, .int .u8 0, .int .u8 0,
  .int .u8 0, .int .u8 0, .int .u8 0, .int .u8 0, .int .u8 0, .int .u8 0, .int .u8 0, .int .u8 0, .int .u8 0, .int .u8 0, .int .u8 0, .int .u8 0, .int .u8 0, .int .u8 0, .int .u8 0, .int .u8 0] 27
theorem zero_rows (w : World) : ((w.alloc zeroId).alloc zeroId).rowIs w.heap.size 27 32 (fun _ => .int .u8 0) ∧ ((w.alloc zeroId).alloc zeroId).rowIs (w.heap.size + 1) 27 32 (fun _ => .int .u8 0) ∧ Below w.heap.size w ((w.alloc zeroId).alloc zeroId) := by
  refine ⟨(zeros_row w (T := 27) (c := _) (n := 32) (z := .int .u8 0) (by rfl)).alloc _, ?_, ((Below.refl _ _).alloc (Nat.le_refl _) _).alloc (by simp) _⟩
  have := zeros_row (w.alloc zeroId) (T := 27) (c := _) (n := 32) (z := .int .u8 0) (by rfl)
  rw [show (w.alloc zeroId).heap.size = w.heap.size + 1 from by simp] at this
  exact this
def idS (s : ByteArray) (k : Nat) : Nat → UInt8 := fun i => if i < k then byteAt s i else 0
theorem byteAt_end (s : ByteArray) (k : Nat) (h : s.size ≤ k) : byteAt s k = 0 := by
  unfold byteAt
  rw [List.getD_eq_getElem?_getD, List.getElem?_eq_none (by rw [Array.length_toList]; exact h)]; rfl
theorem id_end {w : World} {g k : Nat} {s : ByteArray} (h : w.rowIs g 27 32 (u8V (idS s k))) (hk : 32 ≤ k ∨ s.size ≤ k) : row32 w g 0 = idA (byteAt s) := by
  refine row32_id (h.congr fun i hi => ?_)
  simp only [u8V, idS]
  by_cases e : i < k
  · rw [if_pos e]
  · rw [if_neg e, byteAt_end s i (by omega)]
theorem row_block {w : World} {g : Nat} {T : TypeId} {I : Nat → UInt8} (h : w.rowIs g T 32 (u8V I)) : w.heap[g]? = some (.cells (idA I) T (0, 0)) := by
  obtain ⟨c, hb, hn, hc⟩ := h
  have : c = idA I := by
    apply Array.ext
    · rw [idA_size]; exact hn
    · intro i h1 h2
      have a1 := hc i (by omega)
      have a2 := idA_get I i (by omega)
      rw [Array.getElem?_eq_getElem h1] at a1
      rw [Array.getElem?_eq_getElem h2] at a2
      injection a1 with a1
      injection a2 with a2
      rw [a1, a2]; rfl
  rw [hb, this]
theorem id_put {w wr : World} {g : Nat} {T : TypeId} {f : Nat → Value} (I : Nat → UInt8) (h : wr.rowIs g T 32 f) (hb : Below w.heap.size w wr) (hg : w.heap.size ≤ g) : (put32 wr g 0 (idA I)).heap[g]? = some (.cells (idA I) T (0, 0)) ∧ Below w.heap.size w (put32 wr g 0 (idA I)) := by
  obtain ⟨h1, h2⟩ := put32_row h 0 (idA I) (by omega) (idA_full I)
  refine ⟨row_block (h1.congr fun x hx => ?_), below_grown hb h2 (by intro g' e; injection e with e; omega)⟩
  rw [if_pos (by omega), Nat.sub_zero, List.getD_eq_getElem?_getD, Array.getElem?_toList, idA_get I x hx]; rfl
end Go.Proofs.Ytfoandpcoakcjaa
