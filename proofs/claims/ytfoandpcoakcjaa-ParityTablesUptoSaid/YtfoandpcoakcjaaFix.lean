/- Walk: wire.PutFixed of eight bytes. No conditions. -/
import Derived.Test.YtfoandpcoakcjaaTxt
namespace Go.Proofs.Ytfoandpcoakcjaa
open Go.RowKit
set_option linter.unusedVariables false
def be8 (n : Nat) : List UInt8 := (List.range 8).map fun j => UInt8.ofNat (n / 2 ^ (8 * (7 - j)))
def beF (n k : Nat) : Nat → UInt8 := fun j => if 8 ≤ k + j then UInt8.ofNat (n / 2 ^ (8 * (7 - j))) else 0
theorem beF_end (n j : Nat) (h : j < 8) : beF n 8 j = (be8 n).getD j 0 := by
  unfold beF be8; rw [if_pos (by omega)]; simp [List.getD, h]
theorem be8_length (n : Nat) : (be8 n).length = 8 := by simp [be8]
theorem cut_eight (W : World) (N : Nat) : (Instr.sliceAt 130 (.pointer (some ⟨N, 0, none⟩)) (some (.int .i64 0)) none none).run Try.prog W = .ok (.slice (some ⟨N, 0, none⟩) 8 8) W := by
  have hi : (Try.prog.info? 5).isSome = true := by kernel_rfl
  obtain ⟨i, hi⟩ := Option.isSome_iff_exists.1 hi
  have ht : Try.prog.underlying 130 = some (.array 8 5) := by kernel_rfl
  simp [Instr.sliceAt, Instr.sureAddr, run_underlying ht, Instr.sliceBounds, Instr.sliceBound, asIntOf, sizeOf, typeInfo, hi, Addr.add, go_sem]
theorem byte_shift (n k : Nat) : (n : Int) / 2 ^ k % 256 = ((UInt8.ofNat (n / 2 ^ k)).toNat : Int) := by
  rw [UInt8.toNat_ofNat']
  simp
set_option maxRecDepth 100000 in
set_option maxHeartbeats 0 in
theorem putFixed8_any (s : ByteArray) (n : Nat) (w : World) (hn : n < 18446744073709551616) (hs : s.size ≤ 4611686018427387904) :
    Calls Try.prog 50 #[.string s, .int .u64 (n : Int), .int .i64 8] w fun e w' => e = .returned (.tuple #[.string (s ++ bs (be8 n)), .int .i64 0]) ∧ Below w.heap.size w w' := by
  have Z := Lib.hid (zeros_row w (T := 130) (n := 8) (z := .int .u8 0) (c := #[.int .u8 0, .int .u8 0, .int .u8 0, .int .u8 0, .int .u8 0, .int .u8 0, .int .u8 0, .int .u8 0]) rfl)
  go_enter Try.func50, Try.ntmps50
  go_wp2
  all_goals
    have BA : Hid (Below w.heap.size w (w.alloc (.cells #[.int .u8 0, .int .u8 0, .int .u8 0, .int .u8 0, .int .u8 0, .int .u8 0, .int .u8 0, .int .u8 0] 130))) := Lib.hid ((Below.refl _ _).alloc (Nat.le_refl _) _)
    generalize w.alloc (.cells #[.int .u8 0, .int .u8 0, .int .u8 0, .int .u8 0, .int .u8 0, .int .u8 0, .int .u8 0, .int .u8 0] 130) = w1 at Z BA ⊢
    go_loopw [28] (fun i wr => ∃ k : Nat, k ≤ 8 ∧ i = .int .i64 (k : Int) ∧ Hid (wr.rowIs w.heap.size 130 8 (u8V (beF n k)) ∧ Below w.heap.size w wr)) (fun i _ => 8 - (intOf i).toNat)
    case atStart => exact ⟨0, by omega, rfl, Lib.hid ⟨Z.out.congr fun i hi => by unfold u8V beF; rw [if_neg (by omega)]; rfl, BA.out⟩⟩
    case round =>
      obtain ⟨k, hk, rfl, HR⟩ := hrel
      by_cases hlt : k < 8
      · obtain ⟨j, hj⟩ : ∃ j, 7 - k = j := ⟨_, rfl⟩
        obtain ⟨m, hm⟩ : ∃ m, 8 * k = m := ⟨_, rfl⟩
        have hji : (7 : Int) - (k : Int) = (j : Int) := by omega
        have hmi : (8 : Int) * (k : Int) = (m : Int) := by omega
        have hj8 : j < 8 := by omega
        have HJ : Hid (7 - k = j ∧ 8 * k = m ∧ k < 8) := Lib.hid ⟨hj, hm, hlt⟩
        have hm64 : m < 64 := by omega
        obtain ⟨v, cj⟩ : ∃ v, w.heap.size = w.heap.size ∧ wr.cell? ⟨w.heap.size, j, none⟩ = some v := ⟨_, rfl, HR.out.1.cell hj8⟩
        have cj := cj.2
        have fj := HR.out.1.frozen j
        clear hj hm
        go_wp2
        go_roundw
        case rel =>
          refine ⟨k + 1, by omega, by go_num, Lib.hid ⟨(HR.out.1.set j _).congr fun i hi => ?_, HR.out.2.setCell (Nat.le_refl _) _⟩⟩
          obtain ⟨q1, q2, q3⟩ := HJ.out
          unfold u8V beF
          by_cases e : i = j
          · rw [if_pos e, if_pos (by omega), byte_shift, ← q2, show 8 * k = 8 * (7 - i) by omega]
          · rw [if_neg e]
            by_cases h8 : 8 ≤ k + i
            · rw [if_pos h8, if_pos (by omega)]
            · rw [if_neg h8, if_neg (by omega)]
        case measure => simp [intOf]; omega
      · obtain rfl : k = 8 := by omega
        have RC : Hid (∀ j, j < 8 → wr.cell? (({ block := w.heap.size, off := 0 } : Addr).add j) = some (.int .u8 (((be8 n).getD j 0).toNat : Int))) := Lib.hid (fun j hj => by
          rw [add0, HR.out.1.cell hj]; unfold u8V; rw [beF_end n j hj])
        have CT := cut_eight wr w.heap.size
        have hbz : (bs (be8 n)).size ≤ 10 := by rw [bs_size, be8_length]; omega
        rw [show ((8 : Nat) : Int) = 8 from rfl]
        go_wp2_with (with_reducible refine conv_str_wp (e := 5) (by kernel_rfl) (by kernel_rfl) (by kernel_rfl) rfl _ rfl ⟨w.heap.size, 0, none⟩ 8 8 rfl (be8 n) (be8_length n) RC.out ?_)
        go_ret2
        exact ⟨rfl, HR.out.2⟩
end Go.Proofs.Ytfoandpcoakcjaa
