/- The reference's multiplication, as polynomials, is the field's product. No program in sight. -/
import Derived.Test.YthlnnclpfgokjaaGf
namespace Go.Proofs.Ythlnnclpfgokjaa.Gf
def R1 (a b : Nat) : Nat → Nat
  | 0 => 0
  | k + 1 => if b / 2 ^ k % 2 = 1 then R1 a b k ^^^ (a * 2 ^ k) else R1 a b k
def R2 (n : Nat) : Nat → Nat
  | 0 => n
  | k + 1 => if R2 n k / 2 ^ (14 - k) % 2 = 1 then R2 n k ^^^ (285 * 2 ^ (14 - k - 8)) else R2 n k
theorem n4 (a b c d : Nat) : (a ^^^ b) ^^^ (c ^^^ d) = (a ^^^ c) ^^^ (b ^^^ d) := by
  rw [Nat.xor_assoc, Nat.xor_assoc, ← Nat.xor_assoc b c d, ← Nat.xor_assoc c b d, Nat.xor_comm b c]
theorem R1_left (a a' b k : Nat) : R1 (a ^^^ a') b k = R1 a b k ^^^ R1 a' b k := by
  induction k with
  | zero => simp [R1]
  | succ k ih =>
    simp only [R1, ih]
    by_cases h : b / 2 ^ k % 2 = 1
    · have e : (a ^^^ a') * 2 ^ k = (a * 2 ^ k) ^^^ (a' * 2 ^ k) := by
        rw [← Nat.shiftLeft_eq, ← Nat.shiftLeft_eq, ← Nat.shiftLeft_eq]; exact Nat.shiftLeft_xor_distrib
      simp only [h, if_true, e, n4]
    · simp only [h, if_false]
theorem R1_right (a b b' k : Nat) : R1 a (b ^^^ b') k = R1 a b k ^^^ R1 a b' k := by
  induction k with
  | zero => simp [R1]
  | succ k ih =>
    simp only [R1, ih, Nat.xor_div_two_pow]
    have e := @Nat.xor_mod_two_eq_one (b / 2 ^ k) (b' / 2 ^ k)
    by_cases h : b / 2 ^ k % 2 = 1 <;> by_cases h' : b' / 2 ^ k % 2 = 1
    · rw [if_neg (by rw [e]; simp [h, h']), if_pos h, if_pos h', n4, Nat.xor_self, Nat.xor_zero]
    · rw [if_pos (by rw [e]; simp [h, h']), if_pos h, if_neg h', Nat.xor_assoc, Nat.xor_comm (R1 a b' k), ← Nat.xor_assoc]
    · rw [if_pos (by rw [e]; simp [h, h']), if_neg h, if_pos h', Nat.xor_assoc]
    · rw [if_neg (by rw [e]; simp [h, h']), if_neg h, if_neg h']
theorem R2_xor (n m k : Nat) : R2 (n ^^^ m) k = R2 n k ^^^ R2 m k := by
  induction k with
  | zero => simp [R2]
  | succ k ih =>
    simp only [R2, ih, Nat.xor_div_two_pow]
    have e := @Nat.xor_mod_two_eq_one (R2 n k / 2 ^ (14 - k)) (R2 m k / 2 ^ (14 - k))
    by_cases h : R2 n k / 2 ^ (14 - k) % 2 = 1 <;> by_cases h' : R2 m k / 2 ^ (14 - k) % 2 = 1
    · rw [if_neg (by rw [e]; simp [h, h']), if_pos h, if_pos h', n4, Nat.xor_self, Nat.xor_zero]
    · rw [if_pos (by rw [e]; simp [h, h']), if_pos h, if_neg h', Nat.xor_assoc, Nat.xor_comm (R2 m k), ← Nat.xor_assoc]
    · rw [if_pos (by rw [e]; simp [h, h']), if_neg h, if_pos h', Nat.xor_assoc]
    · rw [if_neg (by rw [e]; simp [h, h']), if_neg h, if_neg h']
theorem R_basis : (basis.all fun a => basis.all fun b => UInt8.ofNat (R2 (R1 a.toNat b.toNat 8) 7) == gm a b) = true := by decide +kernel
theorem R_gm (a b : UInt8) : R2 (R1 a.toNat b.toNat 8) 7 % 256 = (gm a b).toNat := by
  have h : UInt8.ofNat (R2 (R1 a.toNat b.toNat 8) 7) = gm a b := by
    refine lin_ext (fun a => UInt8.ofNat (R2 (R1 a.toNat b.toNat 8) 7)) (fun a => gm a b) (fun _ _ => by simp only [UInt8.toNat_xor, R1_left, R2_xor, UInt8.ofNat_xor]) (fun _ _ => gm_xor_left _ _ _) (fun x hx => ?_) a
    refine lin_ext (fun b => UInt8.ofNat (R2 (R1 x.toNat b.toNat 8) 7)) (fun b => gm x b) (fun _ _ => by simp only [UInt8.toNat_xor, R1_right, R2_xor, UInt8.ofNat_xor]) (fun _ _ => gm_xor_right _ _ _) (fun y hy => ?_) b
    have := R_basis
    rw [List.all_eq_true] at this
    have := this x hx
    rw [List.all_eq_true] at this
    exact eq_of_beq (this y hy)
  rw [← h, UInt8.toNat_ofNat']
theorem R1_lt (a b k : Nat) (ha : a < 256) (hk : k ≤ 8) : R1 a b k < 65536 := by
  induction k with
  | zero => simp [R1]
  | succ k ih =>
    have := ih (by omega)
    have h2 : a * 2 ^ k < 2 ^ 16 := by
      have : 2 ^ k ≤ 2 ^ 7 := Nat.pow_le_pow_right (by omega) (by omega)
      calc a * 2 ^ k ≤ 255 * 2 ^ 7 := Nat.mul_le_mul (by omega) this
        _ < 2 ^ 16 := by decide
    unfold R1
    split
    · exact Nat.xor_lt_two_pow (n := 16) (by omega) h2
    · omega
theorem shl_small (a k : Nat) (ha : a < 286) (hk : k < 8) : (a : Int) * 2 ^ k % 4294967296 = ((a * 2 ^ k : Nat) : Int) := by
  have : 2 ^ k ≤ 2 ^ 7 := Nat.pow_le_pow_right (by omega) (by omega)
  have h2 : a * 2 ^ k ≤ 286 * 2 ^ 7 := Nat.mul_le_mul (by omega) this
  have : ((a * 2 ^ k : Nat) : Int) = (a : Int) * 2 ^ k := by simp
  rw [← this]
  omega
theorem R2_lt (n k : Nat) (hn : n < 65536) : R2 n k < 65536 := by
  induction k with
  | zero => simpa [R2] using hn
  | succ k ih =>
    unfold R2
    split
    · refine Nat.xor_lt_two_pow (n := 16) (by omega) ?_
      have : 2 ^ (14 - k - 8) ≤ 2 ^ 6 := Nat.pow_le_pow_right (by omega) (by omega)
      calc 285 * 2 ^ (14 - k - 8) ≤ 285 * 2 ^ 6 := Nat.mul_le_mul_left _ this
        _ < 2 ^ 16 := by decide
    · omega
/-- The document's quotient, sought from 0 on. -/
theorem over_find (a b : UInt8) (hb : b ≠ 0) (x : UInt8) : gm x b = a ↔ x = gm a (inv b) := by
  constructor
  · intro h; rw [← h, gm_assoc, inv_gm b hb, gm_one]
  · intro h; rw [h, over_back a b hb]
end Go.Proofs.Ythlnnclpfgokjaa.Gf
