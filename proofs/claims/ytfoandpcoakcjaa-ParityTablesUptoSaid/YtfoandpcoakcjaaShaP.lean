/- Plain: the end of a sum: the padding. No conditions. -/
import Derived.Test.YtfoandpcoakcjaaDig2
import Derived.Test.YtfoandpcoakcjaaFix
namespace Go.Proofs.Ytfoandpcoakcjaa
open Go.RowKit Dig
set_option linter.unusedVariables false
def gapN (n : Nat) : Nat := (119 - (n - 64 * (n / 64))) % 64
def endB (n : Nat) : ByteArray := { data := #[128] } ++ bs (List.replicate (gapN n) 0) ++ bs (be8 (8 * n))
theorem endB_size (n : Nat) : (endB n).size = gapN n + 9 := by
  unfold endB
  rw [ByteArray.size_append, ByteArray.size_append, bs_size, bs_size, be8_length, List.length_replicate]
  show 1 + gapN n + 8 = _
  omega
theorem gap_blk (n : Nat) : n + (gapN n + 9) = 64 * blk n := by
  unfold gapN blk; omega
theorem endB_byte (n j : Nat) (hn : 8 * n < 18446744073709551616) (hj : j < gapN n + 9) : byteAt (endB n) j = if j = 0 then 128 else if j < gapN n + 1 then 0 else UInt8.ofNat (8 * n % 18446744073709551616 / 2 ^ (8 * (gapN n + 8 - j))) := by
  have s1 : ({ data := #[128] } ++ bs (List.replicate (gapN n) 0) : ByteArray).size = gapN n + 1 := by
    rw [ByteArray.size_append, bs_size, List.length_replicate]
    show 1 + _ = _
    omega
  unfold endB
  rw [byteAt_app, s1]
  by_cases h1 : j < gapN n + 1
  · rw [if_pos h1, byteAt_app]
    show (if j < 1 then _ else byteAt _ (j - 1)) = _
    by_cases h0 : j = 0
    · subst h0; rw [if_pos (by omega), if_pos rfl]; rfl
    · rw [if_neg (by omega), if_neg h0, if_pos h1, bytes_bs]
      rw [List.getD_eq_getElem?_getD, List.getElem?_replicate]
      split <;> rfl
  · rw [if_neg h1, if_neg (by omega), if_neg h1, bytes_bs, Nat.mod_eq_of_lt hn]
    unfold be8
    have : j - (gapN n + 1) < 8 := by omega
    simp only [List.getD, List.getElem?_map, List.getElem?_range this, Option.map_some, Option.getD_some]
    congr 3
    omega
theorem pad_eq (u : ByteArray) (hu : 8 * u.size < 18446744073709551616) : hsF (byteAt (u ++ endB u.size)) ((u ++ endB u.size).size / 64) = hsF (padF (byteAt u) u.size (blk u.size)) (blk u.size) := by
  have e1 : (u ++ endB u.size).size = 64 * blk u.size := by rw [ByteArray.size_append, endB_size, gap_blk]
  rw [e1, Nat.mul_div_cancel_left _ (by omega)]
  refine hs_congr _ fun j hj => ?_
  have hg := gap_blk u.size
  rw [byteAt_app]
  unfold padF
  by_cases h : j < u.size
  · rw [if_pos h, if_pos h]
  · rw [if_neg h, if_neg h, endB_byte _ _ hu (by omega)]
    by_cases h0 : j = u.size
    · rw [if_pos (by omega), if_pos h0]
    · rw [if_neg (by omega), if_neg h0]
      by_cases h1 : j < 64 * blk u.size - 8
      · rw [if_pos (by omega), if_pos h1]
      · rw [if_neg (by omega), if_neg h1]
        congr 4
        omega
theorem sha_eq (u : ByteArray) (hu : 8 * u.size < 18446744073709551616) (i : Nat) : shaF (byteAt u) u.size i = UInt8.ofNat ((hsF (byteAt (u ++ endB u.size)) ((u ++ endB u.size).size / 64) (i / 4)).toNat / 2 ^ (24 - 8 * (i % 4))) := by
  rw [pad_eq u hu]; rfl
theorem and3 : ∀ i : Nat, i < 32 → bits .and .i64 (i : Int) 3 = ((i % 4 : Nat) : Int) := by decide +kernel
end Go.Proofs.Ytfoandpcoakcjaa
