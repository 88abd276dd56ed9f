/- Walk: the law DigestNone (closed). No conditions. -/
import Derived.Test.YtbfmdingbgdflaaDigPiecesW
import Derived.Test.YtbfmdingbgdflaaDigNil
import Derived.Test.YtbfmdingbgdflaaLess
namespace Go.Proofs.Ytbfmdingbgdflaa
open Go.RowKit Dig
set_option linter.unusedVariables false
attribute [local go_sem ↓] execOp_ld32 execOp_st32
attribute [local go_sem] run_ld32 run_st32
def aB : Nat → ByteArray
  | 0 => { data := #[] }
  | k + 1 => aB k ++ { data := #[97] }
theorem aB_size : ∀ k, (aB k).size = k
  | 0 => rfl
  | k + 1 => by rw [aB, ByteArray.size_append, aB_size k]; rfl
theorem cmp_zero : cmpR zI zI 32 0 = 0 := by kernel_rfl
set_option maxRecDepth 100000 in
set_option maxHeartbeats 0 in
theorem digestNone_walk (w : World) : Calls Try.prog 8 #[] w fun e w' => e = .returned (.bool true) ∧ Below w.heap.size w w' := by
  go_enter Try.func8, Try.ntmps8
  go_wp2_with fail
  refine (nilWrite_any _ _).mono ?_; rintro e w' ⟨rfl, rfl⟩
  go_wp2_with fail
  refine (nilSum_any _).mono ?_; rintro e w1 ⟨rfl, hb1⟩
  obtain ⟨o1, -, b1⟩ := id_new w1 zI
  have f1 := idA_full zI
  have B1 := Lib.hid (hb1.trans (b1.mono hb1.size))
  clear hb1 b1
  unfold zeroId at o1
  go_upto_region 4 with fail
  change Code.wp _ _ _ _ (put32 (w1.alloc zeroId) w1.heap.size 0 (idA zI))
  generalize put32 (w1.alloc zeroId) w1.heap.size 0 (idA zI) = w2 at B1 ⊢
  clear o1
  go_wp2_with fail
  refine (parseNone_any _).mono ?_; rintro e w3 ⟨rfl, hb3⟩
  obtain ⟨o1, -, b1⟩ := id_new w3 zI
  have B3 := Lib.hid (B1.out.trans ((hb3.trans (b1.mono hb3.size)).mono B1.out.size))
  clear hb3 b1
  unfold zeroId at o1
  go_upto_region 5 with fail
  change Code.wp _ _ _ _ (put32 (w3.alloc zeroId) w3.heap.size 0 (idA zI))
  generalize put32 (w3.alloc zeroId) w3.heap.size 0 (idA zI) = w4 at B3 ⊢
  clear o1 f1
  go_wp2
  go_loopw [7, 8] (fun a i wr => ∃ k : Nat, k ≤ 130 ∧ i = .int .i64 (k : Int) ∧ a = .string (aB k) ∧ Hid (Below w.heap.size w wr)) (fun _ i _ => 130 - (intOf i).toNat)
  case atStart => exact ⟨0, by omega, rfl, rfl, B3⟩
  case round =>
    obtain ⟨k, hk, rfl, rfl, HB⟩ := hrel
    by_cases hlt : k < 130
    · have hs := aB_size k
      obtain ⟨U, hU⟩ : ∃ U, aB k = U := ⟨_, rfl⟩
      obtain ⟨I, hI⟩ : ∃ I, shaF (byteAt U) U.size = I := ⟨_, rfl⟩
      have HI := Lib.hid hI
      rw [hU] at hs ⊢
      have hU16 : U.size ≤ 16777216 := by omega
      have hcat : ¬ 9223372036854775807 < U.size + 1 := by omega
      have HU : Hid (aB (k + 1) = U ++ { data := #[97] }) := Lib.hid (by rw [aB, hU])
      have hq : ∀ W, (Op.equalIn 10000 28 (.agg (idA I)) (.agg (idA I))).run Try.prog W = .ok true W := eq_id I
      clear hI hU hs
      go_wp2_with fail
      refine (digSum_v U HI.out _ hU16).mono ?_; rintro e w5 ⟨rfl, hb5⟩
      have B5 := Lib.hid (HB.out.trans (hb5.mono HB.out.size))
      clear hb5
      go_wp2_with fail
      refine (quick_v U HI.out _ hU16).mono ?_; rintro e w6 ⟨rfl, hb6⟩
      have B6 := Lib.hid (B5.out.trans (hb6.mono B5.out.size))
      clear hb6
      go_wp2
      go_roundw
      case rel => exact ⟨k + 1, by omega, by go_num, by rw [HU.out], B6⟩
      case measure => simp [intOf]; omega
    · obtain rfl : k = 130 := by omega
      rw [show ((130 : Nat) : Int) = 130 from rfl]
      go_wp2_with fail
      refine (nilWrote_any _).mono ?_; rintro e w' ⟨rfl, rfl⟩
      go_wp2_with fail
      refine (digSum_any _ _ (by decide)).mono ?_; rintro e w5 ⟨rfl, hb5⟩
      have B5 := Lib.hid (HB.out.trans (hb5.mono HB.out.size))
      clear hb5
      go_wp2_with fail
      refine (text_any _ _).mono ?_; rintro e w6 ⟨rfl, hb6⟩
      have B6 := Lib.hid (B5.out.trans (hb6.mono B5.out.size))
      clear hb6
      have E := none_text
      rw [E]
      go_wp2_with fail
      rw [zero_lit]
      refine (less_any zI zI _).mono ?_; rintro e w7 ⟨rfl, hb7⟩
      have B7 := Lib.hid (B6.out.trans (hb7.mono B6.out.size))
      clear hb7
      rw [cmp_zero]
      go_wp2_with fail
      refine (dawake_any _).mono ?_; rintro e w8 ⟨rfl, hb8⟩
      have B8 := Lib.hid (B7.out.trans (hb8.mono B7.out.size))
      clear hb8
      go_wp2
      go_ret
      exact ⟨rfl, B8.out⟩
end Go.Proofs.Ytbfmdingbgdflaa
