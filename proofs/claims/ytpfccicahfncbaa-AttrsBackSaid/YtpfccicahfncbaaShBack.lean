/- A short number that is read was written so: bytes back, plainly. No conditions. -/
import Derived.Test.YtpfccicahfncbaaAttLaw
namespace Go.Proofs.Ytpfccicahfncbaa
open Go.RowKit Wir
set_option linter.unusedVariables false
theorem shG_back (F : Nat → UInt8) (L : Nat) : ∀ (f i g acc N : Nat) (z : Int), g + i = 9 → shG F L f i acc = (N, z) → 0 ≤ z →
    ∃ n, N = acc + n * 2 ^ (7 * i) ∧ z = (i : Int) + ((putN g n).length : Nat) ∧ (∀ j, j < (putN g n).length → F (i + j) = (putN g n).getD j 0) ∧ (0 < i → n ≠ 0)
  | 0, i, g, acc, N, z, _, h, hz => by
    rw [shG] at h; injection h with h1 h2; omega
  | f + 1, i, g, acc, N, z, hg, h, hz => by
    rw [shG] at h
    by_cases h1 : i < L ∧ i < 10
    · rw [if_pos h1] at h
      by_cases h2 : (i = 9 ∧ 1 < (F i).toNat) ∨ (0 < i ∧ (F i).toNat = 0)
      · rw [if_pos h2] at h; injection h with h3 h4; omega
      · rw [if_neg h2] at h
        have hF := (F i).toNat_lt
        by_cases h3 : (F i).toNat < 128
        · rw [if_pos h3] at h
          injection h with h4 h5
          refine ⟨(F i).toNat, ?_, ?_, ?_, fun hi => by omega⟩
          · rw [← h4, Nat.mod_eq_of_lt h3]
          · rw [putN_small g _ h3, ← h5]; rfl
          · intro j hj
            rw [putN_small g _ h3] at hj ⊢
            have : j = 0 := by simpa using hj
            subst this
            exact UInt8.ofNat_toNat.symm
        · rw [if_neg h3] at h
          obtain ⟨g', rfl⟩ : ∃ g', g = g' + 1 := ⟨g - 1, by omega⟩
          obtain ⟨n', e1, e2, e3, e4⟩ := shG_back F L f (i + 1) g' _ N z (by omega) h hz
          have hn' : n' ≠ 0 := e4 (by omega)
          have hbig : ¬ ((F i).toNat % 128 + 128 * n') < 128 := by omega
          have hd : ((F i).toNat % 128 + 128 * n') / 128 = n' := by omega
          have hm : ((F i).toNat % 128 + 128 * n') % 128 + 128 = (F i).toNat := by omega
          refine ⟨(F i).toNat % 128 + 128 * n', ?_, ?_, ?_, fun _ => by omega⟩
          · rw [e1, Nat.add_mul, Nat.add_assoc]
            congr 2
            rw [Nat.mul_add, Nat.pow_add, Nat.mul_comm 128 n', Nat.mul_assoc, Nat.mul_comm (2 ^ (7 * i))]
          · rw [putN_big g' _ hbig, hd, e2]; simp; omega
          · intro j hj
            rw [putN_big g' _ hbig, hd, hm] at hj ⊢
            cases j with
            | zero => exact UInt8.ofNat_toNat.symm
            | succ j =>
              have := e3 j (by simpa using hj)
              rw [show i + (j + 1) = i + 1 + j from by omega]
              exact this
    · rw [if_neg h1] at h; injection h with h3 h4; omega
theorem short_back (s : ByteArray) (h : 0 ≤ (short (byteAt s) s.size).2) :
    (short (byteAt s) s.size).2.toNat = (putL (short (byteAt s) s.size).1).length ∧ s = bs (putL (short (byteAt s) s.size).1) ++ s.extract (short (byteAt s) s.size).2.toNat s.size := by
  have hb := (shG_bound (byteAt s) s.size 11 0 0 (by decide) (by omega)).2.2
  change (short (byteAt s) s.size).2 ≤ s.size at hb
  obtain ⟨n, e1, e2, e3, _⟩ := shG_back (byteAt s) s.size 11 0 9 0 (short (byteAt s) s.size).1 (short (byteAt s) s.size).2 rfl rfl h
  rw [Nat.mul_zero, Nat.pow_zero, Nat.mul_one, Nat.zero_add] at e1
  rw [e1]
  generalize (short (byteAt s) s.size).2 = z at *
  have hl : z.toNat = (putL n).length := by show _ = (putN 9 n).length; omega
  refine ⟨hl, ?_⟩
  have hz : (bs (putL n)).size = (putL n).length := bs_size _
  have hx : (s.extract z.toNat s.size).size = s.size - z.toNat := by rw [ByteArray.size_extract]; omega
  have hs := ByteArray.size_append (a := bs (putL n)) (b := s.extract z.toNat s.size)
  refine ext_byteAt (by omega) fun i hi => ?_
  rw [byteAt_app]
  by_cases hlt : i < (bs (putL n)).size
  · rw [if_pos hlt, byteAt_list]
    have := e3 i (by show i < (putL n).length; omega)
    rw [Nat.zero_add] at this
    exact this
  · rw [if_neg hlt, byteAt_part _ _ _ _ (by omega) (Nat.le_refl _)]
    congr 1; omega
theorem uint_back {s : ByteArray} (h : uintE s = 0) : s = bs (putL (short (byteAt s) s.size).1) ++ uintS s := by
  have h0 : ¬ (short (byteAt s) s.size).2 < 0 := by
    intro h1
    rw [uintE, if_pos h1] at h
    cases h
  have := (short_back s (by omega)).2
  rw [uintS, if_neg h0]
  exact this
theorem text_back' {s : ByteArray} {m : Nat} (h : txB s m = true) : s = txL (txT s m) ++ txS s m ∧ (txT s m).size ≤ m := by
  obtain ⟨b1, b2, b3⟩ : 0 ≤ (short (byteAt s) s.size).2 ∧ (short (byteAt s) s.size).1 ≤ m ∧ (short (byteAt s) s.size).1 + (short (byteAt s) s.size).2.toNat ≤ s.size := of_decide_eq_true h
  have hb := (short_back s b1).2
  rw [txT, if_pos h, txS, if_pos h]
  generalize (short (byteAt s) s.size).1 = n at *
  generalize (short (byteAt s) s.size).2.toNat = k at *
  have hz : (s.extract k (k + n)).size = n := by rw [ByteArray.size_extract]; omega
  refine ⟨?_, by omega⟩
  rw [txL, hz, ByteArray.append_assoc]
  have e : s.extract k s.size = s.extract k (k + n) ++ s.extract (k + n) s.size := by
    have h1 : (s.extract k s.size).size = s.size - k := by rw [ByteArray.size_extract]; omega
    have h2 : (s.extract (k + n) s.size).size = s.size - (k + n) := by rw [ByteArray.size_extract]; omega
    have h3 := ByteArray.size_append (a := s.extract k (k + n)) (b := s.extract (k + n) s.size)
    refine ext_byteAt (by omega) fun i hi => ?_
    rw [h1] at hi
    rw [byteAt_part _ _ _ _ hi (Nat.le_refl _), byteAt_app, hz]
    by_cases hlt : i < n
    · rw [if_pos hlt, byteAt_part _ _ _ _ (by omega) (by omega)]
    · rw [if_neg hlt, byteAt_part _ _ _ _ (by omega) (Nat.le_refl _)]
      congr 1; omega
  rw [← e]
  exact hb
theorem num_back {p : ByteArray × Bool} {m : Nat} (h : (numS p m).2 = true) : p.2 = true ∧ numN p ≤ m ∧ p.1 = bs (putL (numN p)) ++ (numS p m).1 := by
  rw [numS] at h
  simp only [Bool.and_eq_true, decide_eq_true_eq] at h
  exact ⟨h.1, h.2.2, uint_back h.2.1⟩
theorem tk_back {p : ByteArray × Bool} {m : Nat} (h : (tkS p m).2 = true) : p.2 = true ∧ p.1 = txL (txT p.1 m) ++ (tkS p m).1 := by
  rw [tkS] at h
  simp only [Bool.and_eq_true] at h
  exact ⟨h.1, (text_back' h.2).1⟩
theorem rdXs_back : ∀ (r : Nat) (p : ByteArray × Bool) (L : List (ByteArray × ByteArray)), (rdXs r p L).2.2 = true → p.2 = true ∧ ∃ M, (rdXs r p L).1 = L ++ M ∧ M.length = r ∧ p.1 = layX M ++ (rdXs r p L).2.1
  | 0, p, L, h => ⟨h, [], by rw [List.append_nil]; rfl, rfl, by rw [layX, ByteArray.empty_append]; rfl⟩
  | r + 1, p, L, h => by
    by_cases hp : p.2 = true
    · rw [rdXs, if_pos hp] at h ⊢
      obtain ⟨h1, M, e1, e2, e3⟩ := rdXs_back r _ _ h
      obtain ⟨h2, f2⟩ := tk_back h1
      obtain ⟨h3, f3⟩ := tk_back h2
      refine ⟨hp, (txT p.1 255, txT (txS p.1 255) 4096) :: M, by rw [e1, List.append_assoc]; rfl, by rw [List.length_cons, e2], ?_⟩
      have f2' : txS p.1 255 = txL (txT (txS p.1 255) 4096) ++ (tkS (tkS p 255) 4096).1 := f2
      have f3' : p.1 = txL (txT p.1 255) ++ txS p.1 255 := f3
      rw [layX]
      dsimp only
      rw [ByteArray.append_assoc, ByteArray.append_assoc, ← e3, ← f2', ← f3']
    · rw [rdXs, if_neg hp] at h
      exact absurd h hp
theorem one_back {s : ByteArray} (h : takeE s 1 = 0) : s = ⟨#[UInt8.ofNat (fixV s 1)]⟩ ++ takeS s 1 := by
  have h1 : ¬ s.size < 1 := by intro h2; rw [takeE, if_pos h2] at h; cases h
  have hf : fixV s 1 = (byteAt s 0).toNat := by rw [fixV, if_neg h1, beN, beN]; omega
  rw [hf, UInt8.ofNat_toNat, takeS, if_neg h1]
  have hx : (s.extract 1 s.size).size = s.size - 1 := by rw [ByteArray.size_extract]; omega
  have hz : (⟨#[byteAt s 0]⟩ : ByteArray).size = 1 := rfl
  have hs := ByteArray.size_append (a := (⟨#[byteAt s 0]⟩ : ByteArray)) (b := s.extract 1 s.size)
  refine ext_byteAt (by omega) fun i hi => ?_
  rw [byteAt_app, hz]
  by_cases h0 : i < 1
  · rw [if_pos h0]
    obtain rfl : i = 0 := by omega
    rfl
  · rw [if_neg h0, byteAt_part _ _ _ _ (by omega) (Nat.le_refl _)]
    congr 1; omega
end Go.Proofs.Ytpfccicahfncbaa
