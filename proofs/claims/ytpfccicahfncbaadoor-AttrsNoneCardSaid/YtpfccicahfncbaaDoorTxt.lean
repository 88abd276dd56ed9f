/- Plain: bytes of texts that are joined and cut. No conditions. -/
import Derived.Test.YtpfccicahfncbaaDoorGen
namespace Go.Proofs.YtpfccicahfncbaaDoor
set_option linter.unusedVariables false
theorem size_toList (s : ByteArray) : s.data.toList.length = s.size := by rw [Array.length_toList]; rfl
theorem byteAt_last (s : ByteArray) (k : Nat) (h : s.size ≤ k) : byteAt s k = 0 := by
  unfold byteAt
  rw [List.getD_eq_getElem?_getD, List.getElem?_eq_none (by rw [size_toList]; exact h)]; rfl
theorem byteAt_app (a b : ByteArray) (i : Nat) : byteAt (a ++ b) i = if i < a.size then byteAt a i else byteAt b (i - a.size) := by
  unfold byteAt
  rw [ByteArray.data_append, Array.toList_append, List.getD_eq_getElem?_getD, List.getD_eq_getElem?_getD, List.getD_eq_getElem?_getD]
  by_cases h : i < a.size
  · rw [if_pos h, List.getElem?_append_left (by rw [size_toList]; exact h)]
  · rw [if_neg h, List.getElem?_append_right (by rw [size_toList]; omega), size_toList]
theorem byteAt_cut (s : ByteArray) (a b i : Nat) (hb : b ≤ s.size) (hi : i < b - a) : byteAt (s.extract a b) i = byteAt s (a + i) := by
  unfold byteAt
  rw [ByteArray.data_extract, Array.toList_extract, List.getD_eq_getElem?_getD, List.getD_eq_getElem?_getD]
  simp [List.extract, hi]
theorem ext_byteAt {a b : ByteArray} (hs : a.size = b.size) (h : ∀ i, i < a.size → byteAt a i = byteAt b i) : a = b := by
  apply ByteArray.ext
  apply Array.ext'
  apply List.ext_getElem
  · rw [size_toList, size_toList, hs]
  · intro i h1 h2
    have := h i (by rw [size_toList] at h1; exact h1)
    unfold byteAt at this
    rw [List.getD_eq_getElem?_getD, List.getD_eq_getElem?_getD, List.getElem?_eq_getElem h1, List.getElem?_eq_getElem h2] at this
    exact this
theorem cut_cut (s : ByteArray) (a b c d : Nat) (hb : b ≤ s.size) (hd : a + d ≤ b) : (s.extract a b).extract c d = s.extract (a + c) (a + d) := by
  have e1 : (s.extract a b).size = b - a := by rw [ByteArray.size_extract]; omega
  apply ext_byteAt
  · simp only [ByteArray.size_extract]; omega
  · intro i hi
    rw [ByteArray.size_extract, e1] at hi
    rw [byteAt_cut _ _ _ _ (by rw [e1]; omega) (by omega), byteAt_cut _ _ _ _ hb (by omega), byteAt_cut _ _ _ _ (by omega) (by omega), Nat.add_assoc]
theorem cut_app (s d : ByteArray) (a : Nat) (ha : a ≤ s.size) : s.extract a s.size ++ d = (s ++ d).extract a (s.size + d.size) := by
  have e0 : (s ++ d).size = s.size + d.size := ByteArray.size_append
  have e1 : (s.extract a s.size).size = s.size - a := by rw [ByteArray.size_extract]; omega
  apply ext_byteAt
  · simp only [ByteArray.size_append, ByteArray.size_extract]; omega
  · intro i hi
    rw [ByteArray.size_append, e1] at hi
    rw [byteAt_app, byteAt_cut (s ++ d) _ _ _ (by rw [e0]; exact Nat.le_refl _) (by omega), byteAt_app, e1]
    by_cases h : i < s.size - a
    · rw [if_pos h, if_pos (by omega), byteAt_cut _ _ _ _ (by omega) (by omega)]
    · rw [if_neg h, if_neg (by omega)]
      congr 1; omega
theorem bytes_bs (l : List UInt8) (j : Nat) : byteAt (bs l) j = l.getD j 0 := by unfold byteAt; rw [bs_data]
end Go.Proofs.YtpfccicahfncbaaDoor
