/- Walk: do shards go together: the reference's Fits. -/
import Derived.Test.YthlnnclpfgokjaaShL
namespace Go.Proofs.Ythlnnclpfgokjaa
open Go.RowKit Gf
set_option linter.unusedVariables false
set_option maxRecDepth 100000 in
theorem rfits_bad (A : Option Addr) (n c : Nat) (ss : List ByteArray) (k : Int) (w : World) (B : Nat) (h : Reads w B 1 A n (strV ss)) (hn : n ≤ 9223372036854775807) (hbad : ¬ fitOk ss k) :
    Calls Try.prog 50 #[.slice A n c, .int .i64 k] w fun e w' => e = .returned (.tuple #[.bool (fitR ss k).1, .int .i64 (fitR ss k).2]) ∧ Below w.heap.size w w' := by
  have hl := h.len
  have X := Lib.hid (fitR_no hbad)
  have hcases : k < 1 ∨ 32 < k ∨ (1 ≤ k ∧ k ≤ 32 ∧ (n : Int) < k) ∨ (1 ≤ k ∧ k ≤ 32 ∧ k ≤ (n : Int) ∧ 64 < n) ∨ (1 ≤ k ∧ k ≤ 32 ∧ k ≤ (n : Int) ∧ n ≤ 64 ∧ alikeB ss = false) := by
    unfold fitOk at hbad
    by_cases ha : alikeB ss = true
    · simp only [ha, and_true] at hbad; omega
    · have : alikeB ss = false := by simpa using ha
      simp only [this, and_true]; omega
  have HH := Lib.hid h
  clear hbad hl h
  rcases hcases with h | h | ⟨h1, h2, h⟩ | ⟨h1, h2, h3, h⟩ | ⟨h1, h2, h3, h4, h⟩
  · go_enter Try.func50, Try.ntmps50
    go_wp2
    go_ret2
    exact ⟨by rw [X.out]; rfl, Below.refl _ _⟩
  · go_enter Try.func50, Try.ntmps50
    go_wp2
    go_ret2
    exact ⟨by rw [X.out]; rfl, Below.refl _ _⟩
  · go_enter Try.func50, Try.ntmps50
    go_wp2
    go_ret2
    exact ⟨by rw [X.out]; rfl, Below.refl _ _⟩
  · go_enter Try.func50, Try.ntmps50
    go_wp2
    go_ret2
    exact ⟨by rw [X.out]; rfl, Below.refl _ _⟩
  · have HA := Lib.hid h
    clear h
    go_enter Try.func50, Try.ntmps50
    go_wp2_with fail
    refine (ralike_any A n c ss _ _ HH.out hn).mono ?_; rintro e w' ⟨rfl, q0, rfl⟩
    rw [HA.out]
    go_wp2
    go_ret2
    exact ⟨by rw [X.out]; rfl, below_drewN (Below.refl _ _) _⟩
set_option maxRecDepth 100000 in
set_option maxHeartbeats 2000000 in
theorem rfits_any (A : Option Addr) (n c : Nat) (ss : List ByteArray) (k : Int) (w : World) (B : Nat) (h : Reads w B 1 A n (strV ss)) (hB : B ≤ w.heap.size) (hc : n ≤ c) (hn : n ≤ 9223372036854775807) (hs : ∀ s ∈ ss, s.size ≤ 281474976710656) :
    Calls Try.prog 50 #[.slice A n c, .int .i64 k] w fun e w' => e = .returned (.tuple #[.bool (fitR ss k).1, .int .i64 (fitR ss k).2]) ∧ Below w.heap.size w w' := by
  by_cases hok : ¬ fitOk ss k
  · exact rfits_bad A n c ss k w B h hn hok
  have hok := Classical.not_not.1 hok
  have X : Hid (fitR ss k = (fitB ss k.toNat, 0)) := Lib.hid (by unfold fitR; rw [if_pos hok])
  have hl := h.len
  obtain ⟨a1, a2, a3, a4, a5⟩ := hok
  obtain ⟨K, rfl⟩ : ∃ m : Nat, k = m := ⟨k.toNat, by omega⟩
  rw [hl] at a3 a4
  rw [Int.toNat_natCast] at X
  have b1 : 1 ≤ K := by omega
  have b2 : K ≤ 32 := by omega
  have b3 : K ≤ n := by omega
  obtain ⟨q, hq⟩ : ∃ q : Nat, (n : Int) - (K : Int) = (q : Int) := ⟨n - K, by omega⟩
  have HA := Lib.hid a5
  have HH := Lib.hid h
  have HT := Lib.hid (reads_takeS h b3)
  have hTl : (ss.take K).length = K := by rw [List.length_take]; omega
  have XE : Hid (encR (ss.take K) (q : Int) = (parL (ss.take K) q, 0)) := Lib.hid (by
    rw [encR_yes ⟨by omega, by omega, alikeB_take ss K b1 (by omega) a5, by omega, by omega⟩, Int.toNat_natCast])
  have XF : Hid (fitB ss K = decide (parL (ss.take K) q = ss.drop K)) := Lib.hid (by unfold fitB; rw [show ss.length - K = q by omega])
  have hnK : n - K = q := by omega
  have hs0 : (sAt (ss.take K) 0).size ≤ 281474976710656 := by
    rw [sAt_take _ _ _ (by omega)]; exact hs _ (sAt_mem (by omega))
  have HL := Lib.hid hl
  have hcK : K ≤ c := by omega
  clear h a5 hl hTl hs a1 a2 a3
  go_enter Try.func50, Try.ntmps50
  go_wp2_with fail
  refine (ralike_any A n c ss _ _ HH.out hn).mono ?_; rintro e w' ⟨rfl, q0, rfl⟩
  rw [HA.out]
  go_wp2_with fail
  refine (rencode_any A K c (ss.take K) (q : Int) _ _ (HT.out.drewN _) hB (by omega) (by omega) (by omega) hs0).mono ?_
  rintro e w9 ⟨v9, rfl, ho9, hb9⟩
  rw [XE.out] at ho9 ⊢
  rw [show (parL (ss.take K) q, (0 : Int)).1.length = q from parL_length _ _] at ho9
  obtain ⟨A9, c9, rfl, _, hr9⟩ := own_readsC ho9
  have HR9 := Lib.hid hr9
  have HB9 : Hid (Below w.heap.size w w9) := Lib.hid ((below_drewN (Below.refl w.heap.size w) q0).trans hb9)
  have hs9 := HB9.out.size
  clear ho9 hr9 hb9
  have HC : Hid (Reads w9 B 1 (if c = K then A else A.map (·.add K)) q (strV (ss.drop K))) := Lib.hid (by
    have := ((HH.out.below (HB9.out.mono hB)).cut b3 hc)
    rw [Nat.mul_one, hnK] at this
    simpa [strV] using this)
  by_cases hcap : c = K
  · rw [if_pos hcap] at HC
    have hc1 : c ≤ K := by omega
    clear hcap
    go_wp2_with fail
    refine (same_any A9 _ q c9 q _ _ _ _ _ _ HR9.out HC.out (by omega) (by omega)).mono ?_; rintro e w' ⟨rfl, q1, rfl⟩
    rw [← XF.out]
    go_wp2
    go_ret2
    exact ⟨by rw [X.out]; rfl, below_drewN HB9.out _⟩
  · rw [if_neg hcap] at HC
    have hc1 : K < c := by omega
    clear hcap
    go_wp2_with fail
    refine (same_any A9 _ q c9 q _ _ _ _ _ _ HR9.out HC.out (by omega) (by omega)).mono ?_; rintro e w' ⟨rfl, q1, rfl⟩
    rw [← XF.out]
    go_wp2
    go_ret2
    exact ⟨by rw [X.out]; rfl, below_drewN HB9.out _⟩
end Go.Proofs.Ythlnnclpfgokjaa
