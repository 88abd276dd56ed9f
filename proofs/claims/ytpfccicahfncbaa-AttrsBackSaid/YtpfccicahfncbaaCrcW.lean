/- Walks: frame.On, frame.Crc, and the reference's. -/
import Derived.Test.YtpfccicahfncbaaCrc
import Derived.Test.YtpfccicahfncbaaBuf
namespace Go.Proofs.Ytpfccicahfncbaa
open Go.RowKit
set_option linter.unusedVariables false
theorem not_word32 (a : UInt32) : bits .xor .u32 IntKind.u32.max (a.toNat : Int) = ((~~~ a).toNat : Int) := by
  have := u32_xorW (-1) a
  rw [UInt32.neg_one_xor] at this
  exact this
theorem bit_val (n : UInt32) : bits .xor .u32 ((n.toNat : Int) / 2) (bits .and .u32 3988292384 (IntKind.u32.wrap (-(bits .and .u32 (n.toNat : Int) 1)))) = ((bitC n).toNat : Int) := by
  have a := u32_andW n 1
  rw [show (((1 : UInt32).toNat : Nat) : Int) = 1 from rfl] at a
  have s := u32_shrW n 1 (by omega)
  rw [show ((2 : Int) ^ 1) = 2 from rfl] at s
  have ng : IntKind.u32.wrap (-((n &&& 1).toNat : Int)) = ((0 - (n &&& 1)).toNat : Int) := by
    rw [IntKind.wrap_u32', UInt32.toNat_sub]
    have : (n &&& 1).toNat < 4294967296 := UInt32.toNat_lt _
    show _ = (((4294967296 - (n &&& 1).toNat + 0) % 4294967296 : Nat) : Int)
    omega
  have b := u32_andW 3988292384 (0 - (n &&& 1))
  rw [show (((3988292384 : UInt32).toNat : Nat) : Int) = 3988292384 from rfl] at b
  rw [a, ng, b, s, u32_xorW]; rfl
theorem bit_val' (n : UInt32) : bits .xor .u32 ((n.toNat : Int) / 2) (bits .and .u32 3988292384 (-(bits .and .u32 (n.toNat : Int) 1) % 4294967296)) = ((bitC n).toNat : Int) := by
  have := bit_val n
  rw [IntKind.wrap_u32'] at this
  exact this
theorem byte_xor (n : UInt32) (b : UInt8) : ∃ x, n ^^^ UInt32.ofNat b.toNat = x ∧ bits .xor .u32 (n.toNat : Int) (b.toNat : Int) = (x.toNat : Int) := by
  refine ⟨_, rfl, ?_⟩
  have := u32_xorW n (UInt32.ofNat b.toNat)
  rw [show (UInt32.ofNat b.toNat).toNat = b.toNat from by rw [UInt32.toNat_ofNat']; have := b.toNat_lt; omega] at this
  exact this
set_option maxRecDepth 100000 in
theorem onF_any (b : UInt8) (P : Nat) (n : UInt32) (w : World) (h : Blk w P 50 #[.int .u32 (n.toNat : Int)]) :
    Calls Try.prog 92 #[.int .u8 (b.toNat : Int), .pointer (some ⟨P, 0, none⟩)] w fun e w' => e = .returned (.tuple #[]) ∧ Blk w' P 50 #[.int .u32 ((stepC n b).toNat : Int)] ∧ w.grownBy w' (some P) := by
  have c0 : w.cell? ⟨P, 0, none⟩ = some (.int .u32 (n.toNat : Int)) := h.cell 0
  have f0 : w.frozen? ⟨P, 0, none⟩ = false := h.frozen 0
  have H := Lib.hid h
  obtain ⟨x, hx, X0⟩ := byte_xor n b
  have HX : Hid (stepC n b = bitsC 8 x) := Lib.hid (by unfold stepC; rw [hx])
  have hb : b.toNat < 256 := b.toNat_lt
  clear h hx
  go_enter Try.func92, Try.ntmps92
  go_wp2
  clear c0 f0 X0
  go_loopw [7] (fun i wr => ∃ k : Nat, k ≤ 8 ∧ i = .int .i64 k ∧ Hid (Blk wr P 50 #[.int .u32 ((bitsC k x).toNat : Int)] ∧ w.grownBy wr (some P))) (fun i _ => 8 - (intOf i).toNat)
  case atStart => exact ⟨0, by omega, rfl, Lib.hid ⟨H.out.set_ 0 _, only_setCell (World.grownBy.refl _ _) (.inl rfl) _⟩⟩
  case round =>
    obtain ⟨k, hk, rfl, HR⟩ := hrel
    by_cases hlt : k < 8
    · have c1 : wr.cell? ⟨P, 0, none⟩ = some (.int .u32 ((bitsC k x).toNat : Int)) := HR.out.1.cell 0
      have f1 : wr.frozen? ⟨P, 0, none⟩ = false := HR.out.1.frozen 0
      have BV := Lib.hid (bit_val' (bitsC k x))
      have SB : Hid (bitsC (k + 1) x = bitC (bitsC k x)) := Lib.hid rfl
      generalize bitsC k x = m at *
      go_wp2
      go_roundw
      case rel =>
        refine ⟨k + 1, by omega, by go_num, Lib.hid ⟨?_, only_setCell HR.out.2 (.inl rfl) _⟩⟩
        rw [BV.out, SB.out]
        exact HR.out.1.set_ 0 _
      case measure => simp [intOf]; omega
    · obtain rfl : k = 8 := by omega
      go_wp2
      go_end0
      exact ⟨rfl, by rw [HX.out]; exact HR.out.1, HR.out.2⟩
set_option maxRecDepth 100000 in
theorem on_any (c : UInt32) (s : ByteArray) (w : World) (hs : s.size ≤ 140737488355328) :
    Calls Try.prog 69 #[.int .u32 (c.toNat : Int), .string s] w fun e w' => e = .returned (.int .u32 ((onC c s).toNat : Int)) ∧ Below w.heap.size w w' := by
  have hmf : ∀ (fn : Fn) (first cap : Array Value) (w : World), (Instr.makeFunc fn first cap).run Try.prog w = .ok (.func fn first cap) w := fun _ _ _ _ => rfl
  go_enter Try.func69, Try.ntmps69
  go_wp2_with ((with_reducible refine conv_bytes_wp (e := 5) (by kernel_rfl) (by kernel_rfl) (by kernel_rfl) rfl _ rfl s rfl ?_); intro cap w1 hc1 hg1)
  have HC : Hid (bufIs w1 5 (w.heap.size + 1) s.size cap (fun j => .int .u8 ((byteAt s j).toNat : Int))) := Lib.hid (by have := hc1; simp only [World.size_alloc] at this; exact this)
  have HB1 : Hid (Below w.heap.size w w1 ∧ Blk w1 w.heap.size 50 #[.int .u32 ((~~~c).toNat : Int)]) := Lib.hid (by
    refine ⟨below_grown ((Below.refl _ _).alloc (Nat.le_refl _) _) hg1 (by intro g h; cases h), ?_⟩
    have := (Blk.new w 50 _).grown hg1 (by intro h; cases h)
    rw [← not_word32]
    exact this)
  have NW := Lib.hid (not_word32 (foldC (~~~c) (byteAt s) s.size))
  clear hc1 hg1
  go_loopw [14] (fun i wr => ∃ k : Nat, k ≤ s.size ∧ i = .int .i64 k ∧ Hid (Blk wr w.heap.size 50 #[.int .u32 ((foldC (~~~c) (byteAt s) k).toNat : Int)] ∧ w1.grownBy wr (some w.heap.size))) (fun i _ => s.size - (intOf i).toNat)
  case atStart => exact ⟨0, by omega, rfl, Lib.hid ⟨HB1.out.2, World.grownBy.refl _ _⟩⟩
  case round =>
    obtain ⟨k, hk, rfl, HR⟩ := hrel
    by_cases hlt : k < s.size
    · have hcell : wr.cell? ⟨w.heap.size + 1, k, none⟩ = some (.int .u8 ((byteAt s k).toNat : Int)) := by
        have := (HC.out.grown HR.out.2 (by simp)).cell hlt
        exact this
      have hki : (k : Int) < (s.size : Int) := by omega
      go_wp2_with fail
      refine (onF_any (byteAt s k) w.heap.size _ _ HR.out.1).mono ?_
      rintro e w2 ⟨rfl, hb2, hg2⟩
      go_wp2
      go_roundw
      case rel => exact ⟨k + 1, by omega, by go_num, Lib.hid ⟨hb2, grown_both HR.out.2 hg2⟩⟩
      case measure => simp [intOf]; omega
    · obtain rfl : k = s.size := by omega
      have c1 : wr.cell? ⟨w.heap.size, 0, none⟩ = some (.int .u32 ((foldC (~~~c) (byteAt s) s.size).toNat : Int)) := HR.out.1.cell 0
      go_wp2
      go_ret
      exact ⟨by show Ending.returned (.int .u32 (bits .xor .u32 IntKind.u32.max _)) = _; rw [NW.out]; rfl, below_grown HB1.out.1 HR.out.2 (by intro g h; injection h with h; omega)⟩
end Go.Proofs.Ytpfccicahfncbaa
