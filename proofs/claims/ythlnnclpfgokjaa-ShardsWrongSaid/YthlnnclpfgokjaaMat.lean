/- Matrices as rows of bytes: their numbers, their sizes. No conditions. -/
import Derived.Test.YthlnnclpfgokjaaProd
namespace Go.Proofs.Ythlnnclpfgokjaa
open Go.RowKit Gf
theorem byteAt_bs (l : List UInt8) (j : Nat) : byteAt (bs l) j = l.getD j 0 := by unfold byteAt; rw [bs_data]
theorem sAt_mat (r c : Nat) (F : Nat → Nat → UInt8) (i : Nat) (hi : i < r) : sAt (mat r c F) i = bs ((List.range c).map fun j => F i j) := by
  rw [sAt_get (by rw [mat_length]; exact hi)]
  simp [mat]
theorem ent_mat (r c : Nat) (F : Nat → Nat → UInt8) (i j : Nat) (hi : i < r) (hj : j < c) : ent (mat r c F) i j = F i j := by
  unfold ent
  rw [sAt_mat r c F i hi, byteAt_bs, List.getD_eq_getElem?_getD, List.getElem?_map, List.getElem?_range hj]; rfl
theorem col_mat (r c : Nat) (F : Nat → Nat → UInt8) (i : Nat) (hi : i < r) : (sAt (mat r c F) i).size = c := by
  rw [sAt_mat r c F i hi, bs_size]; simp
theorem ok_mat (r c : Nat) (F : Nat → Nat → UInt8) (h1 : 1 ≤ r) (h2 : r ≤ 64) (h3 : 1 ≤ c) (h4 : c ≤ 64) : okM (mat r c F) = true := by
  rw [okM_iff, mat_length, col_mat r c F 0 (by omega)]
  exact ⟨h1, h2, h3, h4, fun k hk => col_mat r c F k hk⟩
end Go.Proofs.Ythlnnclpfgokjaa
