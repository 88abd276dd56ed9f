/- Checksums of 32 bits and frames, plainly: as the program reckons them and as the reference does. No conditions. -/
import Derived.Test.YtpfccicahfncbaaU32
import Derived.Test.YtpfccicahfncbaaFix
namespace Go.Proofs.Ytpfccicahfncbaa
open Go.RowKit
/-- A bit more. -/
def bitC (n : UInt32) : UInt32 := n >>> 1 ^^^ (3988292384 &&& (0 - (n &&& 1)))
def bitsC : Nat → UInt32 → UInt32
  | 0, n => n
  | k + 1, n => bitC (bitsC k n)
/-- A byte more. -/
def stepC (n : UInt32) (b : UInt8) : UInt32 := bitsC 8 (n ^^^ UInt32.ofNat b.toNat)
def foldC (n : UInt32) (F : Nat → UInt8) : Nat → UInt32
  | 0 => n
  | k + 1 => stepC (foldC n F k) (F k)
/-- A checksum gone on with a text. -/
def onC (c : UInt32) (s : ByteArray) : UInt32 := ~~~ foldC (~~~ c) (byteAt s) s.size
theorem foldC_congr {n : UInt32} {F G : Nat → UInt8} {k : Nat} (h : ∀ i, i < k → F i = G i) : foldC n F k = foldC n G k := by
  induction k with
  | zero => rfl
  | succ k ih => rw [foldC, foldC, ih (fun i hi => h i (by omega)), h k (by omega)]
theorem foldC_add (n : UInt32) (F : Nat → UInt8) (a b : Nat) : foldC n F (a + b) = foldC (foldC n F a) (fun i => F (a + i)) b := by
  induction b with
  | zero => rfl
  | succ b ih => rw [← Nat.add_assoc, foldC, ih]; rfl
/-- Of two texts one behind the other. -/
theorem onC_on (c : UInt32) (a b : ByteArray) : onC (onC c a) b = onC c (a ++ b) := by
  unfold onC
  rw [UInt32.not_not, ByteArray.size_append, foldC_add]
  congr 1
  rw [show foldC (~~~ c) (byteAt (a ++ b)) a.size = foldC (~~~ c) (byteAt a) a.size from foldC_congr fun i hi => by rw [byteAt_app, if_pos hi]]
  exact foldC_congr fun i _ => by rw [byteAt_app, if_neg (by omega), Nat.add_sub_cancel_left]
theorem and_one32 (n : UInt32) : (n &&& 1).toNat = n.toNat % 2 := by
  rw [UInt32.toNat_and]; exact Nat.and_one_is_mod _
theorem bitC_odd (n : UInt32) (h : n.toNat % 2 = 1) : bitC n = n >>> 1 ^^^ 3988292384 := by
  unfold bitC
  have : n &&& 1 = 1 := UInt32.toNat_inj.1 (by rw [and_one32, h]; rfl)
  rw [this]; congr 1
theorem bitC_even (n : UInt32) (h : n.toNat % 2 = 0) : bitC n = n >>> 1 := by
  unfold bitC
  have : n &&& 1 = 0 := UInt32.toNat_inj.1 (by rw [and_one32, h]; rfl)
  rw [this]
  show n >>> 1 ^^^ (3988292384 &&& 0) = _
  rw [UInt32.and_zero, UInt32.xor_zero]
/-- The lowest k bytes of a number, the highest first. -/
def beK (k n : Nat) : List UInt8 := (be8 n).drop (8 - k)
theorem beK_length (k n : Nat) (h : k ≤ 8) : (beK k n).length = k := by unfold beK; rw [List.length_drop, be8_length]; omega
theorem beK_at (k n j : Nat) (h : k ≤ 8) (hj : j < k) : (beK k n).getD j 0 = UInt8.ofNat (n / 2 ^ (8 * (k - 1 - j))) := by
  unfold beK
  rw [List.getD_eq_getElem?_getD, List.getElem?_drop]
  have := beF_end n (8 - k + j) (by omega)
  rw [List.getD_eq_getElem?_getD] at this
  rw [← this]
  unfold beF
  rw [if_pos (by omega), show 7 - (8 - k + j) = k - 1 - j by omega]
/-- The number that bytes are, the highest first. -/
def beV (F : Nat → UInt8) : Nat → Nat
  | 0 => 0
  | k + 1 => beV F k * 256 + (F k).toNat
theorem beV_lt (F : Nat → UInt8) (k : Nat) : beV F k < 256 ^ k := by
  induction k with
  | zero => exact Nat.one_pos
  | succ k ih => rw [beV, Nat.pow_succ]; have := (F k).toNat_lt; omega
theorem beV_congr {F G : Nat → UInt8} {k : Nat} (h : ∀ i, i < k → F i = G i) : beV F k = beV G k := by
  induction k with
  | zero => rfl
  | succ k ih => rw [beV, beV, ih (fun i hi => h i (by omega)), h k (by omega)]
/-- A payload in a frame. -/
def hdB (p : ByteArray) : ByteArray := bs (beK 4 p.size)
def crcF (p : ByteArray) : UInt32 := onC 0 (hdB p ++ p)
def frmB (p : ByteArray) : ByteArray := hdB p ++ bs (beK 4 (crcF p).toNat) ++ p
theorem hdB_size (p : ByteArray) : (hdB p).size = 4 := by unfold hdB; rw [bs_size, beK_length _ _ (by omega)]
theorem frmB_size (p : ByteArray) : (frmB p).size = 8 + p.size := by
  unfold frmB; rw [ByteArray.size_append, ByteArray.size_append, hdB_size, bs_size, beK_length _ _ (by omega)]
end Go.Proofs.Ytpfccicahfncbaa
