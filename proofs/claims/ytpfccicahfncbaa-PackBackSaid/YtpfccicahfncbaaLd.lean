/- Plain: the words of a block, as the reference puts them together. No conditions. -/
import Derived.Test.YtpfccicahfncbaaSha
namespace Go.Proofs.Ytpfccicahfncbaa
open Dig
set_option linter.unusedVariables false
set_option linter.unusedSimpArgs false
def wdF (b : Nat → UInt8) (t : Nat) : UInt32 := UInt32.ofNat (b (4 * t)).toNat <<< UInt32.ofNat 24 ||| UInt32.ofNat (b (4 * t + 1)).toNat <<< UInt32.ofNat 16 ||| UInt32.ofNat (b (4 * t + 2)).toNat <<< UInt32.ofNat 8 ||| UInt32.ofNat (b (4 * t + 3)).toNat
theorem four_words (a b c d : UInt32) : (((((0 : UInt32) <<< UInt32.ofNat 8 ||| a) <<< UInt32.ofNat 8 ||| b) <<< UInt32.ofNat 8 ||| c) <<< UInt32.ofNat 8 ||| d) = a <<< UInt32.ofNat 24 ||| b <<< UInt32.ofNat 16 ||| c <<< UInt32.ofNat 8 ||| d := by
  apply UInt32.toBitVec_inj.1
  simp only [UInt32.toBitVec_or, UInt32.toBitVec_shiftLeft]
  apply BitVec.eq_of_getLsbD_eq
  intro i hi
  have h8 : (UInt32.ofNat 8).toBitVec % 32 = 8#32 := rfl
  have h16 : (UInt32.ofNat 16).toBitVec % 32 = 16#32 := rfl
  have h24 : (UInt32.ofNat 24).toBitVec % 32 = 24#32 := rfl
  rw [h8, h16, h24]
  have e8 : (8#32).toNat = 8 := rfl
  have e16 : (16#32).toNat = 16 := rfl
  have e24 : (24#32).toNat = 24 := rfl
  simp only [BitVec.getLsbD_or, BitVec.shiftLeft_eq', BitVec.getLsbD_shiftLeft, e8, e16, e24]
  have z : ∀ k, (UInt32.toBitVec 0).getLsbD k = false := fun k => by simp
  simp only [z]
  by_cases h1 : i < 8
  · simp [h1, show i < 16 by omega, show i < 24 by omega]
  · by_cases h2 : i < 16
    · simp [h1, h2, show i < 24 by omega, show i - 8 < 8 by omega, hi, show i - 8 < 32 by omega]
    · by_cases h3 : i < 24
      · simp [h1, h2, h3, hi, show ¬ i - 8 < 8 by omega, show i - 8 - 8 < 8 by omega, show i - 16 < 8 by omega, show i - 16 < 32 by omega, show i - 8 < 32 by omega, show i - 8 - 8 < 32 by omega, show i - 8 - 8 = i - 16 by omega]
      · simp [h1, h2, h3, hi, show ¬ i - 8 < 8 by omega, show ¬ i - 8 - 8 < 8 by omega, show ¬ i - 16 < 8 by omega, show i - 16 < 32 by omega, show i - 24 < 32 by omega, show i - 16 - 8 = i - 24 by omega, show i - 8 < 32 by omega, show i - 8 - 8 < 32 by omega, show i - 8 - 8 - 8 < 32 by omega, show i - 8 - 8 = i - 16 by omega, show i - 8 - 8 - 8 = i - 24 by omega]
theorem ld_zero (b : Nat → UInt8) (t : Nat) : ∀ i, i ≤ 4 * t → ldF b i t = 0
  | 0, _ => rfl
  | i + 1, h => by rw [ldF]; unfold upd; rw [if_neg (by omega), ld_zero b t i (by omega)]
theorem ld_stay (b : Nat → UInt8) (t : Nat) : ∀ d, ldF b (4 * t + 4 + d) t = ldF b (4 * t + 4) t
  | 0 => rfl
  | d + 1 => by rw [show 4 * t + 4 + (d + 1) = (4 * t + 4 + d) + 1 from rfl, ldF]; unfold upd; rw [if_neg (by omega), ld_stay b t d]
theorem ld_one (b : Nat → UInt8) (t j : Nat) (hj : j < 4) : ldF b (4 * t + j + 1) t = ldF b (4 * t + j) t <<< UInt32.ofNat 8 ||| UInt32.ofNat (b (4 * t + j)).toNat := by
  rw [ldF]; unfold upd; rw [if_pos (by omega), show (4 * t + j) / 4 = t by omega]
theorem ld_word4 (b : Nat → UInt8) (t : Nat) (ht : t < 16) : ldF b 64 t = wdF b t := by
  obtain ⟨d, hd⟩ : ∃ d, 64 = 4 * t + 4 + d := ⟨60 - 4 * t, by omega⟩
  rw [hd, ld_stay]
  have h0 := ld_zero b t (4 * t) (Nat.le_refl _)
  have h1 : ldF b (4 * t + 1) t = ldF b (4 * t) t <<< UInt32.ofNat 8 ||| UInt32.ofNat (b (4 * t)).toNat := ld_one b t 0 (by omega)
  have h2 := ld_one b t 1 (by omega)
  have h3 := ld_one b t 2 (by omega)
  have h4 := ld_one b t 3 (by omega)
  rw [h0] at h1
  rw [h4, show 4 * t + 3 = 4 * t + 2 + 1 from rfl, h3, show 4 * t + 2 = 4 * t + 1 + 1 from rfl, h2, h1, four_words]
  rfl
theorem wd_bits (b0 b1 b2 b3 : UInt8) :
    bits .or .u32 (bits .or .u32 (bits .or .u32 ((b0.toNat : Int) * 16777216 % 4294967296) ((b1.toNat : Int) * 65536 % 4294967296)) ((b2.toNat : Int) * 256 % 4294967296)) (b3.toNat : Int)
      = ((UInt32.ofNat b0.toNat <<< UInt32.ofNat 24 ||| UInt32.ofNat b1.toNat <<< UInt32.ofNat 16 ||| UInt32.ofNat b2.toNat <<< UInt32.ofNat 8 ||| UInt32.ofNat b3.toNat).toNat : Int) := by
  have e : ∀ b : UInt8, (b.toNat : Int) = ((UInt32.ofNat b.toNat).toNat : Int) := fun b => by
    have := b.toNat_lt
    rw [UInt32.toNat_ofNat']; omega
  have s24 := u32_shl (UInt32.ofNat b0.toNat) 24 (by omega)
  have s16 := u32_shl (UInt32.ofNat b1.toNat) 16 (by omega)
  have s8 := u32_shl (UInt32.ofNat b2.toNat) 8 (by omega)
  rw [show (2 : Int) ^ 24 = 16777216 from rfl] at s24
  rw [show (2 : Int) ^ 16 = 65536 from rfl] at s16
  rw [show (2 : Int) ^ 8 = 256 from rfl] at s8
  rw [e b0, e b1, e b2, e b3, s24, s16, s8, u32_orW, u32_orW, u32_orW]
end Go.Proofs.Ytpfccicahfncbaa
