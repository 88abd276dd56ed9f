/- Walks: the reference's Fixed of eight bytes, and turn; the constants. No conditions. -/
import Derived.Test.YtpfccicahfncbaaFix
import Derived.Test.YtpfccicahfncbaaBuf2
import Derived.Test.YtpfccicahfncbaaDig1
namespace Go.Proofs.Ytpfccicahfncbaa
open Go.RowKit Dig
set_option linter.unusedVariables false
attribute [local go_sem ↓] execOp_ld8 execOp_st8 execOp_ld64 execOp_st64
attribute [local go_sem] run_ld8 run_st8 run_ld64 run_st64
theorem fits8_any (n : Nat) (w : World) : Calls Try.prog 112 #[.int .u64 (n : Int), .int .i64 8] w fun e w' => e = .returned (.bool true) ∧ w = w' := by
  go_enter Try.func112, Try.ntmps112
  go_wp2
  go_ret
  exact ⟨rfl, rfl⟩
def beL (n k : Nat) : List UInt8 := (be8 n).take k
theorem beL_succ (n k : Nat) (h : k < 8) : beL n (k + 1) = beL n k ++ [UInt8.ofNat (n / 2 ^ (8 * (7 - k)))] := by
  unfold beL
  rw [List.take_add_one]
  congr 1
  unfold be8
  rw [List.getElem?_map, List.getElem?_range h]; rfl
theorem beL_len (n k : Nat) (h : k ≤ 8) : (beL n k).length = k := by unfold beL; rw [List.length_take, be8_length]; omega
set_option maxRecDepth 100000 in
set_option maxHeartbeats 0 in
theorem rputFixed8_any (n : Nat) (w : World) (hn : n < 18446744073709551616) :
    Calls Try.prog 104 #[.string { data := #[] }, .int .u64 (n : Int), .int .i64 8] w fun e w' => e = .returned (.tuple #[.string (bs (be8 n)), .int .i64 0]) ∧ Below w.heap.size w w' := by
  go_enter Try.func104, Try.ntmps104
  go_wp2_with fail
  refine (fits8_any n _).mono ?_; rintro e w' ⟨rfl, rfl⟩
  go_wp2
  go_loopw [0, 8] (fun s i wr => ∃ k : Nat, k ≤ 8 ∧ i = .int .i64 (7 - (k : Int)) ∧ s = .string (bs (beL n k)) ∧ Hid (Below w.heap.size w wr)) (fun _ i _ => (intOf i + 1).toNat)
  case atStart => exact ⟨0, by omega, rfl, rfl, Lib.hid (Below.refl _ _)⟩
  case round =>
    obtain ⟨k, hk, rfl, rfl, HB⟩ := hrel
    by_cases hlt : k < 8
    · obtain ⟨j, hj⟩ : ∃ j, 7 - k = j := ⟨_, rfl⟩
      obtain ⟨m, hm⟩ : ∃ m, 8 * j = m := ⟨_, rfl⟩
      have hji : (7 : Int) - (k : Int) = (j : Int) := by omega
      have hmi : (8 : Int) * (j : Int) = (m : Int) := by omega
      have hm64 : m < 64 := by omega
      have hj8 : j < 8 := by omega
      have HS : Hid (bs (beL n (k + 1)) = bs (beL n k) ++ bs [UInt8.ofNat (n / 2 ^ m)]) := Lib.hid (by
        rw [beL_succ n k hlt, hj, hm]
        exact ByteArray.ext (by simp [bs]))
      have hz : (bs (beL n k)).size ≤ 8 := by rw [bs_size, beL_len n k hk]; exact hk
      have hz1 : (bs [UInt8.ofNat (n / 2 ^ m)]).size = 1 := rfl
      generalize beL n k = l at *
      have HJ := Lib.hid hj
      rw [hji]
      clear hj hm hji
      have BS := Lib.hid (byte_shift n m)
      go_wp2_with (with_reducible refine conv_str_wp (e := 5) (by kernel_rfl) (by kernel_rfl) (by kernel_rfl) rfl _ rfl ⟨wr.heap.size, 0, none⟩ 1 1 rfl [UInt8.ofNat (n / 2 ^ m)] rfl (fun j hj => ?_) ?_)
      · obtain rfl : j = 0 := by omega
        rw [add0]
        have := (World.rowIs_alloc wr #[.int .u8 ((n : Int) / 2 ^ m % 256)] 5 (fun _ => .int .u8 ((n : Int) / 2 ^ m % 256)) (fun i hi => by
          have : i = 0 := by simpa using hi
          subst this; rfl)).cell (i := 0) (by simp)
        rw [BS.out] at this
        rw [BS.out]
        exact this
      · go_roundw
        case rel =>
          refine ⟨k + 1, by omega, by have := HJ.out; first | (congr 1; omega) | congr 1, ?_, Lib.hid (HB.out.alloc HB.out.size _)⟩
          rw [HS.out]
        case measure => simp [intOf] <;> omega
    · obtain rfl : k = 8 := by omega
      have E : Hid (beL n 8 = be8 n) := Lib.hid (List.take_of_length_le (by rw [be8_length]; exact Nat.le_refl _))
      rw [show (7 : Int) - ((8 : Nat) : Int) = -1 from rfl]
      go_wp2
      go_ret2
      exact ⟨by rw [E.out]; rfl, HB.out⟩
set_option maxRecDepth 100000 in
theorem rfixed8_any (n : Nat) (w : World) (hn : n < 18446744073709551616) :
    Calls Try.prog 93 #[.int .u64 (n : Int), .int .i64 8] w fun e w' => e = .returned (.string (bs (be8 n))) ∧ Below w.heap.size w w' := by
  go_enter Try.func93, Try.ntmps93
  go_wp2_with fail
  refine (rputFixed8_any n _ hn).mono ?_; rintro e w' ⟨rfl, hb⟩
  go_wp2
  go_ret
  exact ⟨rfl, hb⟩
end Go.Proofs.Ytpfccicahfncbaa
