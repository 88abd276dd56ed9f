/- Walk: digest.Of. No conditions. -/
import Derived.Test.YtbfmdingbgdflaaDig4
namespace Go.Proofs.Ytbfmdingbgdflaa
open Go.RowKit Dig
set_option linter.unusedVariables false
attribute [local go_sem ↓] execOp_ld32 execOp_st32
attribute [local go_sem] run_ld32 run_st32
def headB (k : UInt8) (n : Nat) : ByteArray := bs [k] ++ bs (be8 n)
theorem headB_size (k : UInt8) (n : Nat) : (headB k n).size = 9 := by unfold headB; rw [ByteArray.size_append, bs_size, bs_size, be8_length]; rfl
set_option maxRecDepth 100000 in
set_option maxHeartbeats 0 in
theorem of_any (k : UInt8) (s : ByteArray) (w : World) (hs : s.size ≤ 16777216) :
    Calls Try.prog 42 #[.int .u8 (k.toNat : Int), .string s] w fun e w' => e = .returned (.agg (idA (shaF (byteAt (headB k s.size ++ s)) (headB k s.size ++ s).size))) ∧ Below w.heap.size w w' := by
  have Z0 : Hid ((w.alloc zeroId).rowIs w.heap.size 28 32 (fun _ => .int .u8 0) ∧ Below w.heap.size w (w.alloc zeroId) ∧ (w.alloc zeroId).heap.size = w.heap.size + 1) := Lib.hid ⟨zeros_row w (T := 28) (c := _) (n := 32) (z := .int .u8 0) (by rfl), (Below.refl _ _).alloc (Nat.le_refl _) _, by simp⟩
  have hnw : IntKind.u64.wrap (s.size : Int) = (s.size : Int) := by rw [IntKind.wrap_u64]; omega
  have RC : Hid (∀ j, j < 1 → ((w.alloc zeroId).alloc (.cells #[.int .u8 (k.toNat : Int)] 5)).cell? (({ block := w.heap.size + 1, off := 0 } : Addr).add j) = some (.int .u8 (([k].getD j 0).toNat : Int))) := Lib.hid (fun j hj => by
    obtain rfl : j = 0 := by omega
    have := (World.rowIs_alloc (w.alloc zeroId) #[.int .u8 (k.toNat : Int)] 5 (fun _ => .int .u8 (k.toNat : Int)) (fun i hi => by
      have : i = 0 := by simpa using hi
      subst this; rfl)).cell (i := 0) (by simp)
    rw [add0, size1 w zeroId]
    exact this)
  have HS := Lib.hid hs
  have hb1 : (bs [k]).size ≤ 4611686018427387904 := by rw [bs_size]; show 1 ≤ _; omega
  have hn64 : s.size < 18446744073709551616 := by omega
  clear hs
  have B0 : Hid (Below w.heap.size w ((w.alloc zeroId).alloc (.cells #[.int .u8 (k.toNat : Int)] 5)) ∧ ((w.alloc zeroId).alloc (.cells #[.int .u8 (k.toNat : Int)] 5)).rowIs w.heap.size 28 32 (fun _ => .int .u8 0)) := Lib.hid ⟨Z0.out.2.1.alloc Z0.out.2.1.size _, Z0.out.1.alloc _⟩
  have RC' := RC.out
  unfold zeroId at RC'
  have RCH := Lib.hid RC'
  clear RC RC'
  go_enter Try.func42, Try.ntmps42
  go_wp2_with (with_reducible refine conv_str_wp (e := 5) (by kernel_rfl) (by kernel_rfl) (by kernel_rfl) rfl _ rfl ⟨w.heap.size + 1, 0, none⟩ 1 1 rfl [k] rfl RCH.out ?_)
  change Calls _ _ _ ((w.alloc zeroId).alloc (.cells #[.int .u8 (k.toNat : Int)] 5)) _
  generalize (w.alloc zeroId).alloc (.cells #[.int .u8 (k.toNat : Int)] 5) = w0 at B0 ⊢
  refine (putFixed8_any (bs [k]) s.size w0 hn64 hb1).mono ?_
  rintro e w1 ⟨rfl, hb⟩
  have Z1 : Hid (w1.rowIs w.heap.size 28 32 (fun _ => .int .u8 0) ∧ Below w.heap.size w w1) := Lib.hid ⟨B0.out.2.of_block (hb.block _ B0.out.2.lt), B0.out.1.trans (hb.mono B0.out.1.size)⟩
  clear hb
  rw [show bs [k] ++ bs (be8 s.size) = headB k s.size from rfl]
  have hH := headB_size k s.size
  obtain ⟨Hd, hHd⟩ : ∃ Hd, headB k s.size = Hd := ⟨_, rfl⟩
  have HHD := Lib.hid hHd
  rw [hHd] at hH ⊢
  clear hHd hn64 hb1 hnw
  go_wp2_with fail
  refine (newState_any w1).mono ?_
  rintro e w2 ⟨p, hp, rfl, hst, hb⟩
  have Z2 : Hid (w2.rowIs w.heap.size 28 32 (fun _ => .int .u8 0) ∧ Below w.heap.size w w2 ∧ w.heap.size + 1 ≤ p ∧ St w2 p ByteArray.empty) := Lib.hid ⟨Z1.out.1.of_block (hb.block _ Z1.out.1.lt), Z1.out.2.trans (hb.mono Z1.out.2.size), by have := Z1.out.1.lt; omega, hst⟩
  clear hp hst hb
  go_wp2_with fail
  refine (write_any p ByteArray.empty Hd w2 Z2.out.2.2.2 (by show 0 + Hd.size ≤ _; omega)).mono ?_
  rintro e w3 ⟨rfl, hst, hg⟩
  rw [show ByteArray.empty ++ Hd = Hd from ext_byteAt (by rw [ByteArray.size_append]; show 0 + _ = _; omega) (fun i hi => by rw [byteAt_app]; show (if i < 0 then _ else byteAt Hd (i - 0)) = _; rw [if_neg (by omega), Nat.sub_zero])] at hst
  have Z3 : Hid (w3.rowIs w.heap.size 28 32 (fun _ => .int .u8 0) ∧ Below w.heap.size w w3 ∧ w.heap.size + 1 ≤ p ∧ St w3 p Hd) := Lib.hid ⟨Z2.out.1.of_block (hg.block _ Z2.out.1.lt (by have := Z2.out.2.2.1; simp; omega)), below_grown Z2.out.2.1 hg (fun g hg => by cases hg; have := Z2.out.2.2.1; omega), Z2.out.2.2.1, hst⟩
  clear hst hg
  go_wp2_with fail
  refine (write_any p Hd s w3 Z3.out.2.2.2 (by have := HS.out; omega)).mono ?_
  rintro e w4 ⟨rfl, hst, hg⟩
  have Z4 : Hid (w4.rowIs w.heap.size 28 32 (fun _ => .int .u8 0) ∧ Below w.heap.size w w4 ∧ St w4 p (Hd ++ s)) := Lib.hid ⟨Z3.out.1.of_block (hg.block _ Z3.out.1.lt (by have := Z3.out.2.2.1; simp; omega)), below_grown Z3.out.2.1 hg (fun g hg => by cases hg; have := Z3.out.2.2.1; omega), hst⟩
  clear hst hg
  obtain ⟨U, hU⟩ : ∃ U, Hd ++ s = U := ⟨_, rfl⟩
  have HU := Lib.hid hU
  have hUs : U.size ≤ 1152921504606846976 := by rw [← hU, ByteArray.size_append]; have := HS.out; omega
  rw [hU] at Z4
  clear hU
  go_wp2_with fail
  refine (stateSum_any p U w4 Z4.out.2.2 hUs).mono ?_
  rintro e w5 ⟨rfl, hb⟩
  obtain ⟨⟨o1, o2, o3, o4⟩, HV⟩ := id_var (w := w) (w3 := w5) (shaF (byteAt U) U.size) (Z4.out.1.of_block (hb.block _ Z4.out.1.lt)) (Z4.out.2.1.trans (hb.mono Z4.out.2.1.size))
  have f1 := idA_full (shaF (byteAt U) U.size)
  have HVH := Lib.hid HV
  clear hb HV
  unfold zeroId at o1 o2 o3 o4
  go_wp2
  exact bodyPost_ret (v := .agg (idA (shaF (byteAt U) U.size))) (results_cell_row rfl _ _ w.heap.size 28 _ (0, 0) _ rfl HVH.out.1 Try.underlying28 rfl (by rw [idA_size]; kernel_rfl)) rfl ⟨by rw [HHD.out, HU.out], HVH.out.2⟩
end Go.Proofs.Ytbfmdingbgdflaa
