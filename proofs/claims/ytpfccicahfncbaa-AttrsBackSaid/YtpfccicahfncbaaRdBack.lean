/- Bytes that are read are put as they were. No conditions. -/
import Derived.Test.YtpfccicahfncbaaShBack
namespace Go.Proofs.Ytpfccicahfncbaa
open Go.RowKit Wir
set_option linter.unusedVariables false
theorem p6_back {s : ByteArray} (h : (p6 s).2 = true) : (p5 s).2 = true ∧ (p5 s).1 = (if fixV s 1 = 3 then txL (rdT s) else ByteArray.empty) ++ (p6 s).1 := by
  by_cases h3 : fixV s 1 = 3
  · rw [p6, if_pos h3] at h ⊢
    rw [if_pos h3, rdT, if_pos h3]
    exact tk_back h
  · rw [p6, if_neg h3] at h ⊢
    rw [if_neg h3, ByteArray.empty_append]
    exact ⟨h, rfl⟩
theorem u32_small {n : Nat} (h : n ≤ 4294967295) : (UInt32.ofNat n).toNat = n := by rw [UInt32.toNat_ofNat']; omega
theorem wrap64_small {n : Nat} (h : n ≤ 1099511627776) : (wrap64 (n : Int)).toNat = n := by unfold wrap64; omega
theorem ba_nil {t : ByteArray} (h : t.size = 0) : t = ByteArray.empty := ext_byteAt (by rw [h]; rfl) (fun i hi => absurd hi (by omega))
theorem rd_back {s : ByteArray} (h : rdOK s = true) : layA (rdA s) = s := by
  rw [rdOK] at h
  simp only [Bool.and_eq_true, decide_eq_true_eq] at h
  obtain ⟨h0, h1, h2, h3⟩ := h
  obtain ⟨g7, M, eM1, eM2, eM3⟩ := rdXs_back (numN (p6 s)) (p7 s) [] h1
  obtain ⟨g6, l6, f6⟩ := num_back (p := p6 s) (m := 16) g7
  obtain ⟨g5, f5⟩ := p6_back g6
  obtain ⟨g4, l4, f4⟩ := num_back (p := p4 s) (m := 1099511627776) g5
  obtain ⟨g3, l3, f3⟩ := num_back (p := p3 s) (m := 4294967295) g4
  obtain ⟨g2, l2, f2⟩ := num_back (p := p2 s) (m := 4294967295) g3
  obtain ⟨g1, l1, f1⟩ := num_back (p := p1 s) (m := 4095) g2
  have fs := one_back h0
  have hfb := fixV_byte s
  have hnd : (rdA s).nd.toNat = fixV s 1 := rdA0_nd s _ _ hfb
  have hmd : (rdA s).md.toNat = numN (p1 s) := by show (UInt32.ofNat (numN (p1 s))).toNat = _; exact u32_small (Nat.le_trans l1 (by decide))
  have hui : (rdA s).ui.toNat = numN (p2 s) := by show (UInt32.ofNat (numN (p2 s))).toNat = _; exact u32_small l2
  have hgi : (rdA s).gi.toNat = numN (p3 s) := by show (UInt32.ofNat (numN (p3 s))).toNat = _; exact u32_small l3
  have hmt : (rdA s).mt.toNat = numN (p4 s) := by
    show (wrap64 (numN (p4 s) : Int)).toNat = _
    exact wrap64_small l4
  have hxs : (rdA s).xs = M := eM1
  have hend : (rdL s).2.1 = ByteArray.empty := ba_nil h2
  have e7 : (p7 s).1 = layX M ++ ByteArray.empty := by rw [← hend]; exact eM3
  rw [layA_form, hnd, hmd, hui, hgi, hmt, hxs, eM2]
  show (⟨#[UInt8.ofNat (fixV s 1)]⟩ : ByteArray) ++ (bs (putL (numN (p1 s))) ++ (bs (putL (numN (p2 s))) ++ (bs (putL (numN (p3 s))) ++ (bs (putL (numN (p4 s))) ++ ((if fixV s 1 = 3 then txL (rdT s) else ByteArray.empty) ++ (bs (putL (numN (p6 s))) ++ (layX M ++ ByteArray.empty))))))) = s
  rw [← e7]
  have f6' : (p6 s).1 = bs (putL (numN (p6 s))) ++ (p7 s).1 := f6
  have f4' : (p4 s).1 = bs (putL (numN (p4 s))) ++ (p5 s).1 := f4
  have f3' : (p3 s).1 = bs (putL (numN (p3 s))) ++ (p4 s).1 := f3
  have f2' : (p2 s).1 = bs (putL (numN (p2 s))) ++ (p3 s).1 := f2
  have f1' : (p1 s).1 = bs (putL (numN (p1 s))) ++ (p2 s).1 := f1
  rw [← f6', ← f5, ← f4', ← f3', ← f2', ← f1']
  exact fs.symm
theorem rdR_back {s : ByteArray} (h : (rdR s).2 = 0) : chkA (rdR s).1 = 0 ∧ layA (rdR s).1 = s := by
  rcases rdR_or s with ⟨h1, e⟩ | ⟨h1, e⟩
  · rw [e]; exact ⟨rdOK_chk h1, rd_back h1⟩
  · rw [e] at h; cases h
theorem rsF_back : ∀ (k : Nat) (r : ByteArray) (L L' : List Att) (r' : ByteArray), rsF k r L = some (L', r') → ∃ M, L' = L ++ M ∧ M.length = k ∧ (∀ a ∈ M, chkA a = 0) ∧ r = catL M ++ r'
  | 0, r, L, L', r', h => by
    rw [rsF] at h
    injection h with h; injection h with h1 h2
    exact ⟨[], by rw [List.append_nil, h1], rfl, (fun a ha => by cases ha), by rw [catL, ByteArray.empty_append, h2]⟩
  | k + 1, r, L, L', r', h => by
    rw [rsF] at h
    by_cases hc : txB r r.size = true ∧ (rdR (txT r r.size)).2 = 0
    · rw [if_pos hc] at h
      obtain ⟨M, e1, e2, e3, e4⟩ := rsF_back k _ _ _ _ h
      obtain ⟨t1, _⟩ := text_back' hc.1
      obtain ⟨q1, q2⟩ := rdR_back hc.2
      refine ⟨(rdR (txT r r.size)).1 :: M, by rw [e1, List.append_assoc]; rfl, by rw [List.length_cons, e2], fun a ha => ?_, ?_⟩
      · rcases List.mem_cons.1 ha with rfl | ha
        · exact q1
        · exact e3 a ha
      · rw [catL, q2, ByteArray.append_assoc, ← e4]
        exact t1
    · rw [if_neg hc] at h; cases h
theorem rsR_back {s : ByteArray} (h : (rsR s).2 = 0) : strR (rsR s).1 = (s, 0) := by
  by_cases hc : uintE s = 0 ∧ 1 ≤ (short (byteAt s) s.size).1 ∧ (short (byteAt s) s.size).1 ≤ 257
  · have hu := uint_back hc.1
    rw [rsR, if_pos hc] at h ⊢
    cases hF : rsF (short (byteAt s) s.size).1 (uintS s) [] with
    | none => rw [hF] at h; cases h
    | some x =>
      obtain ⟨L, r⟩ := x
      rw [hF, rsE] at h
      rw [rsE]
      by_cases hr : r.size = 0
      · rw [if_pos hr]
        obtain ⟨M, e1, e2, e3, e4⟩ := rsF_back _ _ _ _ _ hF
        rw [List.nil_append] at e1
        subst e1
        rw [ba_nil hr, ByteArray.append_empty] at e4
        dsimp only
        rw [strR, if_neg (by rw [e2]; omega), strF_ok _ _ e3, e2, ← e4, ← hu]
      · rw [if_neg hr] at h; cases h
  · rw [rsR, if_neg hc] at h; cases h
end Go.Proofs.Ytpfccicahfncbaa
