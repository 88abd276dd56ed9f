/- Cuts of texts, and a number of four bytes, read. -/
import Derived.Test.YtpfccicahfncbaaDoorFixR
import Derived.Test.YtpfccicahfncbaaDoorTxt
import Derived.BigQuiet
import Derived.Deep.DeepCutAuto
namespace Go.Proofs.YtpfccicahfncbaaDoor
open Go.RowKit Wir
set_option linter.unusedVariables false
theorem takeS_on {s : ByteArray} {k : Nat} (h : k ≤ s.size) : takeS s k = s.extract k s.size := by rw [takeS, if_neg (by omega)]
theorem takeE_on {s : ByteArray} {k : Nat} (h : k ≤ s.size) : takeE s k = 0 := by rw [takeE, if_neg (by omega)]
theorem takeE_off {s : ByteArray} {k : Nat} (h : s.size < k) : takeE s k = 4 := by rw [takeE, if_pos h]
theorem byteAt_part (s : ByteArray) (f t i : Nat) (hi : i < t - f) (ht : t ≤ s.size) : byteAt (s.extract f t) i = byteAt s (f + i) := by
  have h1 : i < (s.extract f t).size := by rw [ByteArray.size_extract]; omega
  rw [← byteAt_get _ _ h1, ← byteAt_get _ _ (show f + i < s.size by omega), ByteArray.getElem_extract]
theorem extract_extract4 (s : ByteArray) (h : 8 ≤ s.size) : (s.extract 4 s.size).extract 4 (s.extract 4 s.size).size = s.extract 8 s.size := by
  have e : (s.extract 4 s.size).size = s.size - 4 := by rw [ByteArray.size_extract]; omega
  refine ext_byteAt (by simp only [ByteArray.size_extract]; omega) fun i hi => ?_
  have hi' : i < s.size - 8 := by simp only [ByteArray.size_extract] at hi; omega
  rw [byteAt_part _ _ _ _ (by rw [e]; omega) (Nat.le_refl _), byteAt_part _ _ _ _ (by omega) (Nat.le_refl _), byteAt_part _ _ _ _ (by omega) (Nat.le_refl _)]
  congr 1; omega
theorem takeS_le (s : ByteArray) (k : Nat) : (takeS s k).size ≤ s.size := by
  unfold takeS
  split
  · exact Nat.le_refl _
  · rw [ByteArray.size_extract]; omega
theorem fixed4_any (s : ByteArray) (R : Nat) (w : World) (h : Rdr w R s) (hs : s.size ≤ 9223372036854775807) :
    Calls Tryd.prog 41 #[.pointer (some ⟨R, 0, none⟩), .int .i64 4] w
      fun e w' => e = .returned (.tuple #[.int .u64 (fixV s 4 : Int), .int .i64 (takeE s 4)]) ∧ Rdr w' R (takeS s 4) ∧ ∀ B, B ≤ R → Below B w w' := fixed_any s R 4 w h hs (by omega) (by omega)
theorem fix4_lt (s : ByteArray) : fixV s 4 < 4294967296 := by
  unfold fixV
  split
  · omega
  · exact beN_lt _ 4
end Go.Proofs.YtpfccicahfncbaaDoor
