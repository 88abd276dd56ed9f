/- Plain: a mode as letters. No conditions. -/
import Derived.Test.YtpfccicahfncbaaDoorMem3
namespace Go.Proofs.YtpfccicahfncbaaDoor
open Go.RowKit
set_option linter.unusedVariables false
/-- The p-th bit. -/
def mdB (m p : Nat) : Bool := decide (m / 2 ^ p % 2 = 1)
def mdS (i : Nat) : UInt8 := if i = 2 then 116 else 115
def mdU (i : Nat) : UInt8 := if i = 2 then 84 else 83
/-- The three letters of the i-th group. -/
def mdG (m i : Nat) : List UInt8 := [if mdB m (8 - 3 * i) then 114 else 45, if mdB m (7 - 3 * i) then 119 else 45,
  if mdB m (11 - i) then (if mdB m (6 - 3 * i) then mdS i else mdU i) else (if mdB m (6 - 3 * i) then 120 else 45)]
def mdH (nd : Nat) : UInt8 := if nd = 1 then 45 else if nd = 2 then 100 else 108
def mdL (nd m : Nat) : Nat → List UInt8
  | 0 => [mdH nd]
  | k + 1 => mdL nd m k ++ mdG m k
def mdOK (nd m : Nat) : Bool := decide (1 ≤ nd ∧ nd ≤ 3 ∧ m ≤ 4095)
def mdR (nd m : Nat) : ByteArray × Int := if mdOK nd m = true then (bs (mdL nd m 3), 0) else (ByteArray.empty, 1)
theorem and_is (x y : Nat) (hx : x < 4294967296) (hy : y < 4294967296) : bits .and .u32 (x : Int) (y : Int) = ((x &&& y : Nat) : Int) := by
  have h1 : x &&& y ≤ x := Nat.and_le_left
  show IntKind.u32.wrap (((BitVec.ofInt 32 (x : Int)) &&& (BitVec.ofInt 32 (y : Int))).toNat : Int) = _
  rw [BitVec.toNat_and, BitVec.ofInt_natCast, BitVec.ofInt_natCast, BitVec.toNat_ofNat, BitVec.toNat_ofNat, Nat.mod_eq_of_lt (by omega), Nat.mod_eq_of_lt (by omega), IntKind.wrap_u32]
  omega
theorem bit_pos (x j : Nat) : 0 < x &&& 2 ^ j ↔ x / 2 ^ j % 2 = 1 := by
  have ht : x.testBit j = decide (x / 2 ^ j % 2 = 1) := Nat.testBit_eq_decide_div_mod_eq
  have hb : (x &&& 2 ^ j).testBit j = x.testBit j := by rw [Nat.testBit_and, Nat.testBit_two_pow]; simp
  constructor
  · intro h
    cases hx : x.testBit j with
    | true => rw [hx] at ht; exact of_decide_eq_true ht.symm
    | false =>
      exfalso
      have : x &&& 2 ^ j = 0 := Nat.eq_of_testBit_eq (fun i => by
        rw [Nat.testBit_and, Nat.testBit_two_pow, Nat.zero_testBit]
        by_cases hi : j = i
        · rw [← hi, hx]; rfl
        · simp [hi])
      omega
  · intro h
    rw [decide_eq_true h] at ht
    rcases Nat.eq_zero_or_pos (x &&& 2 ^ j) with h0 | h0
    · rw [h0, Nat.zero_testBit, ht] at hb; cases hb
    · exact h0
/-- The p-th bit as the program asks it: shifted by a, and with a power. -/
theorem bit_ask (m a j : Nat) (hm : m < 4294967296) (hj : j < 32) : decide ((0 : Int) < bits .and .u32 ((m / 2 ^ a : Nat) : Int) ((2 ^ j : Nat) : Int)) = mdB m (a + j) := by
  have h1 : m / 2 ^ a < 4294967296 := Nat.lt_of_le_of_lt (Nat.div_le_self _ _) hm
  have h2 : 2 ^ j < 4294967296 := by
    have : 2 ^ j < 2 ^ 32 := Nat.pow_lt_pow_right (by omega) hj
    omega
  rw [and_is _ _ h1 h2]
  have h3 := bit_pos (m / 2 ^ a) j
  rw [Nat.div_div_eq_div_mul, ← Nat.pow_add] at h3
  unfold mdB
  rw [Bool.eq_iff_iff, decide_eq_true_eq, decide_eq_true_eq, ← h3]
  omega
theorem ask_int (m a j : Nat) (D P : Int) (hD : ((2 ^ a : Nat) : Int) = D) (hP : ((2 ^ j : Nat) : Int) = P) (hm : m < 4294967296) (hj : j < 32) : decide ((0 : Int) < bits .and .u32 ((m : Int) / D) P) = mdB m (a + j) := by
  rw [← hD, ← hP, ← bit_ask m a j hm hj, Int.natCast_ediv]
end Go.Proofs.YtpfccicahfncbaaDoor
