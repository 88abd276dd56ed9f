/- Walk: id, of the filters' laws: a text's first 32 bytes as a name. -/
import Derived.Test.YtbfmdingbgdflaaRow32
namespace Go.Proofs.Ytbfmdingbgdflaa
open Go.RowKit
set_option linter.unusedVariables false
attribute [local go_sem ↓] execOp_ld32 execOp_st32
attribute [local go_sem] run_ld32 run_st32
def zeroId : Obj := .cells #[.int .u8 0, .int .u8 0, .int .u8 0, .int .u8 0, .int .u8 0, .int .u8 0, .int .u8 0, .int .u8 0, .int .u8 0, .int .u8 0, .int .u8 0, .int .u8 0, .int .u8 0, .int .u8 0, .int .u8 0, .int .u8 0,
  .int .u8 0, .int .u8 0, .int .u8 0, .int .u8 0, .int .u8 0, .int .u8 0, .int .u8 0, .int .u8 0, .int .u8 0, .int .u8 0, .int .u8 0, .int .u8 0, .int .u8 0, .int .u8 0, .int .u8 0, .int .u8 0] 28
theorem zero_rows (w : World) : ((w.alloc zeroId).alloc zeroId).rowIs w.heap.size 28 32 (fun _ => .int .u8 0) ∧ ((w.alloc zeroId).alloc zeroId).rowIs (w.heap.size + 1) 28 32 (fun _ => .int .u8 0) ∧ Below w.heap.size w ((w.alloc zeroId).alloc zeroId) := by
  refine ⟨(zeros_row w (T := 28) (c := _) (n := 32) (z := .int .u8 0) (by rfl)).alloc _, ?_, ((Below.refl _ _).alloc (Nat.le_refl _) _).alloc (by simp) _⟩
  have := zeros_row (w.alloc zeroId) (T := 28) (c := _) (n := 32) (z := .int .u8 0) (by rfl)
  rw [show (w.alloc zeroId).heap.size = w.heap.size + 1 from by simp] at this
  exact this
def idS (s : ByteArray) (k : Nat) : Nat → UInt8 := fun i => if i < k then byteAt s i else 0
theorem byteAt_end (s : ByteArray) (k : Nat) (h : s.size ≤ k) : byteAt s k = 0 := by
  unfold byteAt
  rw [List.getD_eq_getElem?_getD, List.getElem?_eq_none (by rw [Array.length_toList]; exact h)]; rfl
theorem id_end {w : World} {g k : Nat} {s : ByteArray} (h : w.rowIs g 28 32 (u8V (idS s k))) (hk : 32 ≤ k ∨ s.size ≤ k) : row32 w g 0 = idA (byteAt s) := by
  refine row32_id (h.congr fun i hi => ?_)
  simp only [u8V, idS]
  by_cases e : i < k
  · rw [if_pos e]
  · rw [if_neg e, byteAt_end s i (by omega)]
theorem row_block {w : World} {g : Nat} {T : TypeId} {I : Nat → UInt8} (h : w.rowIs g T 32 (u8V I)) : w.heap[g]? = some (.cells (idA I) T (0, 0)) := by
  obtain ⟨c, hb, hn, hc⟩ := h
  have : c = idA I := by
    apply Array.ext
    · rw [idA_size]; exact hn
    · intro i h1 h2
      have a1 := hc i (by omega)
      have a2 := idA_get I i (by omega)
      rw [Array.getElem?_eq_getElem h1] at a1
      rw [Array.getElem?_eq_getElem h2] at a2
      injection a1 with a1
      injection a2 with a2
      rw [a1, a2]; rfl
  rw [hb, this]
theorem id_put {w wr : World} {g : Nat} {T : TypeId} {f : Nat → Value} (I : Nat → UInt8) (h : wr.rowIs g T 32 f) (hb : Below w.heap.size w wr) (hg : w.heap.size ≤ g) : (put32 wr g 0 (idA I)).heap[g]? = some (.cells (idA I) T (0, 0)) ∧ Below w.heap.size w (put32 wr g 0 (idA I)) := by
  obtain ⟨h1, h2⟩ := put32_row h 0 (idA I) (by omega) (idA_full I)
  refine ⟨row_block (h1.congr fun x hx => ?_), below_grown hb h2 (by intro g' e; injection e with e; omega)⟩
  rw [if_pos (by omega), Nat.sub_zero, List.getD_eq_getElem?_getD, Array.getElem?_toList, idA_get I x hx]; rfl
set_option maxRecDepth 100000 in
theorem id_any (s : ByteArray) (w : World) (hs : s.size ≤ 9223372036854775807) :
    Calls Try.prog 16 #[.string s] w fun e w' => e = .returned (.agg (idA (byteAt s))) ∧ Below w.heap.size w w' := by
  have ZR := Lib.hid (zero_rows w)
  go_enter Try.func16, Try.ntmps16
  go_wp2
  change Code.wp _ _ _ _ ((w.alloc zeroId).alloc zeroId)
  obtain ⟨w1, hw1⟩ : ∃ w1, w1 = (w.alloc zeroId).alloc zeroId := ⟨_, rfl⟩
  rw [← hw1] at ZR ⊢
  clear hw1
  go_loopw [4] (fun i wr => ∃ k : Nat, k ≤ 32 ∧ k ≤ s.size ∧ i = .int .i64 k ∧ Hid (wr.rowIs w.heap.size 28 32 (fun _ => .int .u8 0) ∧ wr.rowIs (w.heap.size + 1) 28 32 (u8V (idS s k)) ∧ Below w.heap.size w wr)) (fun i _ => 32 - (intOf i).toNat)
  case atStart => exact ⟨0, by omega, by omega, rfl, Lib.hid ⟨ZR.out.1, ZR.out.2.1.congr fun i _ => by unfold idS; simp only [u8V]; rw [if_neg (by omega)]; rfl, ZR.out.2.2⟩⟩
  case round =>
    obtain ⟨k, hk, hks, rfl, HR⟩ := hrel
    by_cases h1 : k < s.size
    · by_cases h2 : k < 32
      · obtain ⟨v1, hc1⟩ : ∃ v, wr.cell? ⟨w.heap.size + 1, k, none⟩ = some v := ⟨_, HR.out.2.1.cell h2⟩
        have hf1 : wr.frozen? ⟨w.heap.size + 1, k, none⟩ = false := HR.out.2.1.frozen _
        have hk32 : (k : Int) < 32 := by omega
        have E := Lib.hid (byteAt_get s k h1)
        go_wp2
        go_roundw
        case rel =>
          refine ⟨k + 1, by omega, by omega, by go_num, Lib.hid ⟨HR.out.1.of_block (Below.heap_setCell _ _ _ _ (by show w.heap.size ≠ w.heap.size + 1; omega)), (HR.out.2.1.set k _).congr fun i hi => ?_, HR.out.2.2.setCell (by show _ ≤ w.heap.size + 1; omega) _⟩⟩
          simp only [u8V, idS]
          by_cases e : i = k
          · rw [if_pos e, if_pos (by omega), e, E.out]
          · rw [if_neg e]
            by_cases h3 : i < k
            · rw [if_pos h3, if_pos (by omega)]
            · rw [if_neg h3, if_neg (by omega)]
        case measure => simp [intOf]; omega
      · have E : Hid (row32 wr (w.heap.size + 1) 0 = idA (byteAt s)) := Lib.hid (id_end HR.out.2.1 (.inl (by omega)))
        have e1 := E.out
        have o1 := ok32_of HR.out.2.1 (off := 0) (by omega)
        have o2 := ok32_of HR.out.1 (off := 0) (by omega)
        have f1 := idA_full (byteAt s)
        have HP := Lib.hid (id_put (byteAt s) HR.out.1 HR.out.2.2 (Nat.le_refl _))
        clear HR
        go_wp2
        exact bodyPost_ret (v := .agg (idA (byteAt s))) (results_cell_row rfl _ _ w.heap.size 28 _ (0, 0) _ rfl HP.out.1 Try.underlying28 rfl (by rw [idA_size]; kernel_rfl)) rfl ⟨rfl, HP.out.2⟩
    · obtain rfl : k = s.size := by omega
      have E : Hid (row32 wr (w.heap.size + 1) 0 = idA (byteAt s)) := Lib.hid (id_end HR.out.2.1 (.inr (by omega)))
      have e1 := E.out
      have o1 := ok32_of HR.out.2.1 (off := 0) (by omega)
      have o2 := ok32_of HR.out.1 (off := 0) (by omega)
      have f1 := idA_full (byteAt s)
      have HP := Lib.hid (id_put (byteAt s) HR.out.1 HR.out.2.2 (Nat.le_refl _))
      clear HR
      go_wp2
      exact bodyPost_ret (v := .agg (idA (byteAt s))) (results_cell_row rfl _ _ w.heap.size 28 _ (0, 0) _ rfl HP.out.1 Try.underlying28 rfl (by rw [idA_size]; kernel_rfl)) rfl ⟨rfl, HP.out.2⟩
end Go.Proofs.Ytbfmdingbgdflaa
