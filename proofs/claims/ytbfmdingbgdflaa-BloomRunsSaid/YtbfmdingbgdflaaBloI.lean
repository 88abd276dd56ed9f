/- A filter's bytes are read as that filter: Decode behind Encode. No conditions. -/
import Derived.Test.YtbfmdingbgdflaaBloH
import Derived.Test.YtbfmdingbgdflaaBloP
namespace Go.Proofs.Ytbfmdingbgdflaa
open Go.RowKit Blo Wir
set_option linter.unusedVariables false
theorem bs_append (a b : List UInt8) : bs a ++ bs b = bs (a ++ b) := ByteArray.mk_append_mk a b
theorem bs_cut (a b : List UInt8) : (bs (a ++ b)).extract a.length (bs (a ++ b)).size = bs b := by
  rw [bs_size]
  apply ByteArray.ext
  rw [ByteArray.data_extract]
  unfold bs
  apply Array.ext'
  rw [Array.toList_extract]
  simp [List.extract]
theorem byteAt_bs (l : List UInt8) (j : Nat) : byteAt (bs l) j = l.getD j 0 := by unfold byteAt; rw [bs_data]
theorem short_front (n : Nat) (rest : List UInt8) (hn : n < 18446744073709551616) : short (byteAt (bs (putL n ++ rest))) (bs (putL n ++ rest)).size = (n, ((putL n).length : Int)) := by
  unfold short
  rw [short_put (byteAt (bs (putL n ++ rest))) (bs (putL n ++ rest)).size 9 11 0 0 n (by simpa using hn) (by omega) (by omega) (fun _ => rfl) (fun j hj => ?_)]
  · unfold putL; simp
  · rw [bs_size, List.length_append, Nat.zero_add, byteAt_bs]
    have : j < (putL n).length := hj
    refine ⟨by omega, ?_⟩
    rw [List.getD_eq_getElem?_getD, List.getElem?_append_left this, ← List.getD_eq_getElem?_getD]; rfl
theorem uint_front (n : Nat) (rest : List UInt8) (hn : n < 18446744073709551616) : uintE (bs (putL n ++ rest)) = 0 ∧ uintS (bs (putL n ++ rest)) = bs rest := by
  unfold uintE uintS
  rw [short_front n rest hn]
  have h : ¬ (((putL n).length : Int) < 0) := by omega
  simp only
  rw [if_neg h, if_neg h]
  exact ⟨rfl, by rw [Int.toNat_natCast]; exact bs_cut _ _⟩
theorem magic_front (l : List UInt8) : badM (bs ([77, 66, 70, 49] ++ l)) = false := by
  unfold badM magicB
  rw [byteAt_bs, byteAt_bs, byteAt_bs, byteAt_bs, bs_size]
  simp
theorem dec_enc (n H m : Nat) (F : Nat → UInt8) (hn : 8 * n = 2 ^ m) (h6 : 6 ≤ m) (hm : m ≤ 24) (h1 : 1 ≤ H) (hH : H ≤ 8) : decO (encB n H F) = some (n, H, bs (listF F n)) := by
  have h64 : 64 ≤ 8 * n := by
    have : 2 ^ 6 ≤ 2 ^ m := Nat.pow_le_pow_right (by omega) h6
    rw [hn]; exact this
  have h24 : 8 * n ≤ 16777216 := by rw [hn]; exact Nat.pow_le_pow_right (by omega) hm
  have Z := szB_pow (8 * n) m H hn h64 h24 h1 hH
  have e : encB n H F = bs ([77, 66, 70, 49] ++ (putL (8 * n) ++ (putL H ++ listF F n))) := by
    unfold encB; rw [bs_append, bs_append, bs_append, List.append_assoc, List.append_assoc]
  have er : (encB n H F).extract 4 (encB n H F).size = bs (putL (8 * n) ++ (putL H ++ listF F n)) := by
    rw [e]; exact bs_cut [77, 66, 70, 49] _
  obtain ⟨u1, u2⟩ := uint_front (8 * n) (putL H ++ listF F n) (by omega)
  obtain ⟨v1, v2⟩ := uint_front H (listF F n) (by omega)
  unfold decO
  rw [if_neg (by rw [e, magic_front]; decide), er, u1, u2, v1, v2, short_front (8 * n) _ (by omega), short_front H _ (by omega), bs_size, listF_length]
  rw [if_neg (by decide), if_neg (by decide), if_neg]
  · simp
  · rintro (h | h | h | h)
    · simp only at h; omega
    · simp only at h; omega
    · simp only at h; rw [Z] at h; cases h
    · simp only at h; exact h (by omega)
theorem listF_back (F : Nat → UInt8) (n j : Nat) (hj : j < n) : byteAt (bs (listF F n)) j = F j := by rw [byteAt_bs, listF_get F n j hj]
theorem listF_congr {F G : Nat → UInt8} {n : Nat} (h : ∀ j, j < n → F j = G j) : listF F n = listF G n := List.map_congr_left fun j hj => h j (by simpa using hj)
theorem encB_congr {F G : Nat → UInt8} {n : Nat} (H : Nat) (h : ∀ j, j < n → F j = G j) : encB n H F = encB n H G := by unfold encB; rw [listF_congr h]
/-- Decode of what was encoded: a filter of its own, with the same bits. -/
theorem decode_enc (n H m : Nat) (F : Nat → UInt8) (w : World) (hn : 8 * n = 2 ^ m) (h6 : 6 ≤ m) (hm : m ≤ 24) (h1 : 1 ≤ H) (hH : H ≤ 8) :
    Calls Try.prog 27 #[.string (encB n H F)] w fun e w' => ∃ P g cap, e = .returned (.tuple #[.pointer (some ⟨P, 0, none⟩), .int .i64 0]) ∧ w.heap.size ≤ P ∧ w.heap.size ≤ g ∧ Flt w' P g n cap H F ∧ Below w.heap.size w w' := by
  have h24 : 8 * n ≤ 16777216 := by rw [hn]; exact Nat.pow_le_pow_right (by omega) hm
  have hs : (encB n H F).size ≤ 140737488351232 := by
    unfold encB
    rw [ByteArray.size_append, ByteArray.size_append, ByteArray.size_append, bs_size, bs_size, bs_size, bs_size, listF_length]
    have a1 := (putN_length 9 (8 * n)).2
    have a2 := (putN_length 9 H).2
    unfold putL
    show 4 + _ + _ + _ ≤ _
    omega
  refine (decode_any (encB n H F) w hs).mono fun e w' h => ?_
  unfold DecR at h
  rw [dec_enc n H m F hn h6 hm h1 hH] at h
  obtain ⟨P, g, cap, he, hp, hg, hf, hb⟩ := h
  exact ⟨P, g, cap, he, hp, hg, hf.congr fun j hj => listF_back F n j hj, hb⟩
end Go.Proofs.Ytbfmdingbgdflaa
