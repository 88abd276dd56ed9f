/- Walks: frame.Crc; the reference's step, On, Crc. -/
import Derived.Test.YtpfccicahfncbaaCrcW
namespace Go.Proofs.Ytpfccicahfncbaa
open Go.RowKit
set_option linter.unusedVariables false
theorem crc_any (s : ByteArray) (w : World) (hs : s.size ≤ 140737488355328) :
    Calls Try.prog 70 #[.string s] w fun e w' => e = .returned (.int .u32 ((onC 0 s).toNat : Int)) ∧ Below w.heap.size w w' := by
  have O := Lib.hid (fun W => on_any 0 s W hs)
  go_enter Try.func70, Try.ntmps70
  go_wp2_with fail
  refine (O.out _).mono ?_
  rintro e w' ⟨rfl, hb⟩
  go_wp2
  go_ret
  exact ⟨rfl, hb⟩
theorem half32 (n : UInt32) : (n.toNat : Int) / (2 : Int) = ((n >>> 1).toNat : Int) := by
  have s := u32_shrW n 1 (by omega)
  rw [show ((2 : Int) ^ 1) = 2 from rfl] at s
  exact s
set_option maxRecDepth 100000 in
theorem rstep_any (n : UInt32) (b : UInt8) (w : World) :
    Calls Try.prog 113 #[.int .u32 (n.toNat : Int), .int .u8 (b.toNat : Int)] w fun e w' => e = .returned (.int .u32 ((stepC n b).toNat : Int)) ∧ w = w' := by
  obtain ⟨x, hx, X0⟩ := byte_xor n b
  have HX : Hid (stepC n b = bitsC 8 x) := Lib.hid (by unfold stepC; rw [hx])
  have hb : b.toNat < 256 := b.toNat_lt
  clear hx
  go_enter Try.func113, Try.ntmps113
  go_wp2
  clear X0
  go_loop [0, 5] (fun v i => ∃ k : Nat, k ≤ 8 ∧ i = .int .i64 k ∧ v = .int .u32 ((bitsC k x).toNat : Int)) (fun _ i => 8 - (intOf i).toNat)
  case atStart => exact ⟨0, by omega, rfl, rfl⟩
  case round =>
    obtain ⟨k, hk, rfl, rfl⟩ := hrel
    by_cases hlt : k < 8
    · have SB : Hid (bitsC (k + 1) x = bitC (bitsC k x)) := Lib.hid rfl
      generalize bitsC k x = m at *
      have hm : m.toNat < 4294967296 := m.toNat_lt
      have HH := Lib.hid (half32 m)
      by_cases ho : m.toNat % 2 = 1
      · have HO : Hid (bitC m = m >>> 1 ^^^ 3988292384) := Lib.hid (bitC_odd m ho)
        have hoi : ((m.toNat : Int) % 2 == 1) = true := by rw [beq_iff_eq]; omega
        have XX := Lib.hid (u32_xorW (m >>> 1) 3988292384)
        clear ho
        go_wp2
        go_round
        case rel => exact ⟨k + 1, by omega, by go_num, by
          rw [SB.out, HO.out, HH.out]
          have := XX.out
          rw [show (((3988292384 : UInt32).toNat : Nat) : Int) = 3988292384 from rfl] at this
          rw [this]⟩
        case measure => simp [intOf]; omega
      · have HO : Hid (bitC m = m >>> 1) := Lib.hid (bitC_even m (by omega))
        have hoi : ((m.toNat : Int) % 2 == 1) = false := by rw [beq_eq_false_iff_ne]; omega
        clear ho
        go_wp2
        go_round
        case rel => exact ⟨k + 1, by omega, by go_num, by rw [SB.out, HO.out, HH.out]⟩
        case measure => simp [intOf]; omega
    · obtain rfl : k = 8 := by omega
      go_wp2
      go_ret
      exact ⟨by rw [HX.out]; rfl, rfl⟩
set_option maxRecDepth 100000 in
theorem ron_any (c : UInt32) (s : ByteArray) (w : World) (hs : s.size ≤ 9223372036854775807) :
    Calls Try.prog 105 #[.int .u32 (c.toNat : Int), .string s] w fun e w' => e = .returned (.int .u32 ((onC c s).toNat : Int)) ∧ w = w' := by
  have N0 := Lib.hid (not_word32 c)
  have N1 := Lib.hid (not_word32 (foldC (~~~c) (byteAt s) s.size))
  go_enter Try.func105, Try.ntmps105
  go_wp2
  go_loop [5, 6] (fun v i => ∃ k : Nat, k ≤ s.size ∧ i = .int .i64 k ∧ v = .int .u32 ((foldC (~~~c) (byteAt s) k).toNat : Int)) (fun _ i => s.size - (intOf i).toNat)
  case atStart => exact ⟨0, by omega, rfl, by rw [N0.out]; rfl⟩
  case round =>
    obtain ⟨k, hk, rfl, rfl⟩ := hrel
    by_cases hlt : k < s.size
    · have FB : Hid (foldC (~~~c) (byteAt s) (k + 1) = stepC (foldC (~~~c) (byteAt s) k) (byteAt s k)) := Lib.hid rfl
      have EB := Lib.hid (byteAt_get s k hlt)
      generalize foldC (~~~c) (byteAt s) k = m at *
      go_wp2_with fail
      refine (rstep_any m s[k] _).mono ?_
      rintro e w' ⟨rfl, rfl⟩
      go_wp2
      go_round
      case rel => exact ⟨k + 1, by omega, by go_num, by rw [FB.out, EB.out]⟩
      case measure => simp [intOf]; omega
    · obtain rfl : k = s.size := by omega
      go_wp2
      go_ret
      exact ⟨by show Ending.returned (.int .u32 (bits .xor .u32 IntKind.u32.max _)) = _; rw [N1.out]; rfl, rfl⟩
theorem rcrc_any (s : ByteArray) (w : World) (hs : s.size ≤ 9223372036854775807) :
    Calls Try.prog 94 #[.string s] w fun e w' => e = .returned (.int .u32 ((onC 0 s).toNat : Int)) ∧ w = w' := by
  have O := Lib.hid (fun W => ron_any 0 s W hs)
  go_enter Try.func94, Try.ntmps94
  go_wp2_with fail
  refine (O.out _).mono ?_
  rintro e w' ⟨rfl, rfl⟩
  go_wp2
  go_ret
  exact ⟨rfl, rfl⟩
end Go.Proofs.Ytpfccicahfncbaa
