/- Walk: wire.Put: a short number behind a text. -/
import Derived.Test.YtpfccicahfncbaaDoorGen
import Derived.Test.YtpfccicahfncbaaDoorWir
namespace Go.Proofs.YtpfccicahfncbaaDoor
open Go.RowKit Wir
set_option linter.unusedVariables false
theorem toByte (n : Nat) : (n : Int) % 256 = ((UInt8.ofNat n).toNat : Int) := by rw [UInt8.toNat_ofNat']; omega
theorem or128 (n : Nat) : bits .or .u8 ((n : Int) % 256) 128 = ((UInt8.ofNat (n % 128 + 128)).toNat : Int) := by
  rw [toByte]
  have h := u8_or_nat (UInt8.ofNat n).toNat 128 (UInt8.ofNat n).toNat_lt (by omega)
  rw [show ((128 : Nat) : Int) = 128 from rfl] at h
  rw [h]
  congr 1
  rw [UInt8.toNat_ofNat', UInt8.toNat_ofNat']
  have e : (n % 2 ^ 8 ||| 128) = (n % 128) + 128 := by
    have h1 : n % 2 ^ 8 = n % 128 + 128 * (n / 128 % 2) := by omega
    have h2 : n / 128 % 2 = 0 ∨ n / 128 % 2 = 1 := by omega
    have h3 : ∀ m, m < 128 → m ||| 128 = m + 128 := fun m hm => by
      rw [Nat.or_comm, show 128 = 2 ^ 7 * 1 from rfl, ← Nat.two_pow_add_eq_or_of_lt (by omega)]; omega
    rcases h2 with h2 | h2
    · rw [h1, h2, Nat.mul_zero, Nat.add_zero, h3 _ (by omega)]
    · rw [h1, h2, Nat.mul_one, ← h3 (n % 128) (by omega), Nat.or_assoc, Nat.or_self]
  rw [e]; omega
def tenF (p : List UInt8) : Nat → Value := fun i => .int .u8 ((p.getD i 0).toNat : Int)
theorem tenF_set (p : List UInt8) (b : UInt8) (i : Nat) : (if i = p.length then (.int .u8 (b.toNat : Int)) else tenF p i) = tenF (p ++ [b]) i := by
  unfold tenF
  by_cases e : i = p.length
  · rw [if_pos e, e]; simp
  · rw [if_neg e]
    by_cases h : i < p.length
    · rw [List.getD_eq_getElem?_getD, List.getD_eq_getElem?_getD, List.getElem?_append_left h]
    · rw [List.getD_eq_getElem?_getD, List.getD_eq_getElem?_getD, List.getElem?_eq_none (by omega), List.getElem?_eq_none (by simp; omega)]
theorem cut_ten (W : World) (N h : Nat) (hh : h ≤ 10) : (Instr.sliceAt 86 (.pointer (some ⟨N, 0, none⟩)) none (some (.int .i64 (h : Int))) none).run Tryd.prog W = .ok (.slice (some ⟨N, 0, none⟩) h 10) W := by
  have hi : (Tryd.prog.info? 5).isSome = true := by kernel_rfl
  obtain ⟨i, hi⟩ := Option.isSome_iff_exists.1 hi
  have hz : (Tryd.prog.info? 5).map (·.size) = some 1 := by kernel_rfl
  rw [hi] at hz
  have hz1 : i.size = 1 := by simpa using hz
  have ht : Tryd.prog.underlying 86 = some (.array 10 5) := by kernel_rfl
  simp [Instr.sliceAt, Instr.sureAddr, run_underlying ht, Instr.sliceBounds, Instr.sliceBound, asIntOf, sizeOf, typeInfo, hi, hh, Addr.add, go_sem]
set_option maxRecDepth 100000 in
theorem put_any (s : ByteArray) (n : Nat) (w : World) (hn : n < 18446744073709551616) (hs : s.size ≤ 4611686018427387904) :
    Calls Tryd.prog 25 #[.string s, .int .u64 (n : Int)] w fun e w' => e = .returned (.string (s ++ bs (putL n))) ∧ Below w.heap.size w w' := by
  go_enter Tryd.func25, Tryd.ntmps25
  go_wp2
  have Z : Hid ((w.alloc (.cells #[.int .u8 0, .int .u8 0, .int .u8 0, .int .u8 0, .int .u8 0, .int .u8 0, .int .u8 0, .int .u8 0, .int .u8 0, .int .u8 0] 86)).rowIs w.heap.size 86 10 (tenF [])) := Lib.hid ((zeros_row w (T := 86) (c := _) (n := 10) (z := .int .u8 0) (by rfl)).congr fun i _ => by simp [tenF])
  go_loopw [1, 6] (fun x i wr => ∃ (p : List UInt8) (m : Nat), p.length ≤ 9 ∧ m * 2 ^ (7 * p.length) < 2 ^ 64 ∧ m < 18446744073709551616 ∧ i = .int .i64 (p.length : Int) ∧ x = .int .u64 (m : Int) ∧ Hid (putL n = p ++ putN (9 - p.length) m ∧ wr.rowIs w.heap.size 86 10 (tenF p) ∧ Below w.heap.size w wr)) (fun _ i _ => 10 - (intOf i).toNat)
  case atStart => exact ⟨[], n, by simp, by simpa using hn, hn, rfl, rfl, Lib.hid ⟨rfl, Z.out, (Below.refl _ _).alloc (Nat.le_refl _) _⟩⟩
  case round =>
    obtain ⟨p, m, hp, hm, hm64, rfl, rfl, HR⟩ := hrel
    obtain ⟨k, hk⟩ : ∃ k, p.length = k := ⟨_, rfl⟩
    have HK := Lib.hid hk
    rw [hk] at hp hm
    have hkm : k = 9 → m < 128 := by
      intro e
      subst e
      have e1 : 2 ^ (7 * 9) = 9223372036854775808 := by decide
      have e2 : 2 ^ 64 = 18446744073709551616 := by decide
      omega
    have HM := Lib.hid hm
    obtain ⟨v1, hc1⟩ : ∃ v, wr.cell? ⟨w.heap.size, k, none⟩ = some v := ⟨_, HR.out.2.1.cell (by omega)⟩
    have hf1 : wr.frozen? ⟨w.heap.size, k, none⟩ = false := HR.out.2.1.frozen _
    have hk10 : (k : Int) < 10 := by omega
    rw [hk]
    clear hk hm
    by_cases hge : m < 128
    · clear hkm
      have CT : ∀ W, (Instr.sliceAt 86 (.pointer (some ⟨w.heap.size, 0, none⟩)) none (some (.int .i64 ((k : Int) + 1))) none).run Tryd.prog W = .ok (.slice (some ⟨w.heap.size, 0, none⟩) (k + 1) 10) W := fun W => cut_ten W w.heap.size (k + 1) (by omega)
      have RW : Hid ((wr.setCell ⟨w.heap.size, k, none⟩ (.int .u8 (m : Int))).rowIs w.heap.size 86 10 (tenF (p ++ [UInt8.ofNat m]))) := Lib.hid ((HR.out.2.1.set k _).congr fun i _ => by
        rw [← HK.out, ← tenF_set, show (m : Int) = ((UInt8.ofNat m).toNat : Int) from by rw [UInt8.toNat_ofNat']; omega])
      have RC : Hid (∀ j, j < k + 1 → (wr.setCell ⟨w.heap.size, k, none⟩ (.int .u8 (m : Int))).cell? (({ block := w.heap.size, off := 0 } : Addr).add j) = some (.int .u8 (((p ++ [UInt8.ofNat m]).getD j 0).toNat : Int))) := Lib.hid (fun j hj => by
        rw [add0]; exact RW.out.cell (by omega))
      have LEN : Hid ((p ++ [UInt8.ofNat m]).length = k + 1) := Lib.hid (by rw [List.length_append, HK.out]; rfl)
      have hbz : (bs (p ++ [UInt8.ofNat m])).size ≤ 10 := by rw [bs_size, LEN.out]; omega
      have PL : Hid (putL n = p ++ [UInt8.ofNat m]) := Lib.hid (by rw [HR.out.1, putN_small _ _ hge])
      go_wp2_with (with_reducible refine conv_str_wp (e := 5) (by kernel_rfl) (by kernel_rfl) (by kernel_rfl) rfl _ rfl ⟨w.heap.size, 0, none⟩ (k + 1) 10 rfl (p ++ [UInt8.ofNat m]) LEN.out RC.out ?_)
      go_ret
      exact ⟨by rw [PL.out]; rfl, HR.out.2.2.setCell (Nat.le_refl _) _⟩
    · have hk9 : k < 9 := by omega
      have O := Lib.hid (or128 m)
      clear hkm
      go_wp2
      go_roundw
      case rel =>
        refine ⟨p ++ [UInt8.ofNat (m % 128 + 128)], m / 128, by rw [List.length_append, HK.out]; show k + 1 ≤ 9; omega, ?_, by omega, ?_, by first | rfl | go_num, Lib.hid ⟨?_, (HR.out.2.1.set k _).congr fun i _ => ?_, HR.out.2.2.setCell (Nat.le_refl _) _⟩⟩
        · rw [List.length_append, HK.out]
          show m / 128 * 2 ^ (7 * (k + 1)) < _
          refine Nat.lt_of_le_of_lt ?_ HM.out
          rw [Nat.mul_add, Nat.pow_add, Nat.mul_comm (2 ^ (7 * k)), ← Nat.mul_assoc]
          exact Nat.mul_le_mul_right _ (by show m / 128 * 128 ≤ m; omega)
        · rw [List.length_append, HK.out]; go_num
        · rw [HR.out.1, HK.out, show 9 - k = (9 - (k + 1)) + 1 from by omega, putN_big _ _ hge, List.append_assoc, List.length_append, HK.out]; rfl
        · rw [← HK.out, ← tenF_set, O.out]
      case measure => simp [intOf]; omega
end Go.Proofs.YtpfccicahfncbaaDoor
