/- Cutting joined bytes. No conditions. -/
import Derived.Test.YtpfccicahfncbaaTxt
import Derived.Test.YtpfccicahfncbaaUnf
namespace Go.Proofs.Ytpfccicahfncbaa
open Go.RowKit Wir
set_option linter.unusedVariables false
theorem ex_right (a b : ByteArray) (n : Nat) (h : n = a.size) : (a ++ b).extract n (a ++ b).size = b := by
  subst h
  have e : ((a ++ b).extract a.size (a ++ b).size).size = b.size := by rw [ByteArray.size_extract, ByteArray.size_append]; omega
  refine ext_byteAt e fun i hi => ?_
  rw [e] at hi
  rw [byteAt_part _ _ _ _ (by rw [ByteArray.size_append]; omega) (Nat.le_refl _), byteAt_app, if_neg (by omega)]
  congr 1; omega
theorem ex_left (a b : ByteArray) (n : Nat) (h : n = a.size) : (a ++ b).extract 0 n = a := by
  subst h
  have e : ((a ++ b).extract 0 a.size).size = a.size := by rw [ByteArray.size_extract, ByteArray.size_append]; omega
  refine ext_byteAt e fun i hi => ?_
  rw [e] at hi
  rw [byteAt_part _ _ _ _ (by omega) (by rw [ByteArray.size_append]; omega), Nat.zero_add, byteAt_app, if_pos hi]
theorem byteAt_list (l : List UInt8) (j : Nat) : byteAt (bs l) j = l.getD j 0 := by unfold byteAt; rw [bs_data]
end Go.Proofs.Ytpfccicahfncbaa
