/- A filter as a list of its bits, plainly. No conditions. -/
import Derived.Test.YtbfmdingbgdflaaBloP
namespace Go.Proofs.Ytbfmdingbgdflaa.Blo
theorem pow2_of (n : Nat) (h1 : 64 ≤ n) (h2 : n ≤ 16777216) (h : n &&& (n - 1) = 0) : ∃ m, 6 ≤ m ∧ m ≤ 24 ∧ n = 2 ^ m := by
  have hle : 2 ^ Nat.log2 n ≤ n := Nat.log2_self_le (by omega)
  have hlt : n < 2 ^ (Nat.log2 n + 1) := Nat.lt_log2_self
  generalize Nat.log2 n = m at hle hlt
  have hp : 2 ^ (m + 1) = 2 ^ m + 2 ^ m := by rw [Nat.pow_succ]; omega
  rcases Nat.eq_or_lt_of_le hle with e | hl
  · refine ⟨m, ?_, ?_, e.symm⟩
    · apply Classical.byContradiction
      intro hm
      have : 2 ^ m ≤ 2 ^ 5 := Nat.pow_le_pow_right (by omega) (by omega)
      omega
    · apply Classical.byContradiction
      intro hm
      have : 2 ^ 25 ≤ 2 ^ m := Nat.pow_le_pow_right (by omega) (by omega)
      omega
  · have d1 : n / 2 ^ m = 1 := Nat.div_eq_of_lt_le (by omega) (by omega)
    have d2 : (n - 1) / 2 ^ m = 1 := Nat.div_eq_of_lt_le (by omega) (by omega)
    have t1 : n.testBit m = true := by rw [Nat.testBit_eq_decide_div_mod_eq, d1]; rfl
    have t2 : (n - 1).testBit m = true := by rw [Nat.testBit_eq_decide_div_mod_eq, d2]; rfl
    have t3 : (n &&& (n - 1)).testBit m = true := by rw [Nat.testBit_and, t1, t2]; rfl
    rw [h, Nat.zero_testBit] at t3
    cases t3
def Bt (B : Nat → Bool) (F : Nat → UInt8) (n : Nat) : Prop := ∀ i, i < 8 * n → B i = bitF F i
def addB (B : Nat → Bool) (I : Nat → UInt8) (n : Nat) : Nat → (Nat → Bool)
  | 0 => B
  | h + 1 => fun j => if j = plc I n h then true else addB B I n h j
theorem Bt.add {B : Nat → Bool} {F : Nat → UInt8} {n : Nat} (h : Bt B F n) (I : Nat → UInt8) (H : Nat) : Bt (addB B I n H) (addF F I n H) n := by
  intro i hi
  induction H with
  | zero => exact h i hi
  | succ H ih =>
    rw [addB, addF, bitF_set]
    by_cases e : i = plc I n H
    · simp [e]
    · simp [e, ih]
def onesB (B : Nat → Bool) : Nat → Nat
  | 0 => 0
  | k + 1 => onesB B k + (if B k = true then 1 else 0)
theorem onesB_le (B : Nat → Bool) (k : Nat) : onesB B k ≤ k := by
  induction k with
  | zero => exact Nat.le_refl _
  | succ k ih => rw [onesB]; split <;> omega
def cntB (p : Nat → Bool) (k : Nat) : Nat := ((List.range k).filter p).length
theorem cntB_succ (p : Nat → Bool) (k : Nat) : cntB p (k + 1) = cntB p k + (if p k = true then 1 else 0) := by
  unfold cntB
  rw [List.range_succ, List.filter_append, List.length_append]
  by_cases h : p k = true
  · simp [h]
  · simp [h]
theorem onesB_block (B : Nat → Bool) (F : Nat → UInt8) (n : Nat) (h : ∀ k, k < 8 → B (8 * n + k) = bitF F (8 * n + k)) : ∀ k, k ≤ 8 → onesB B (8 * n + k) = onesB B (8 * n) + cntB (fun k => F n >>> UInt8.ofNat k &&& 1 == 1) k
  | 0, _ => rfl
  | k + 1, hk => by
    rw [← Nat.add_assoc, onesB, onesB_block B F n h k (by omega), cntB_succ, Nat.add_assoc, h k (by omega)]
    have e1 : (8 * n + k) / 8 = n := by omega
    have e2 : (8 * n + k) % 8 = k := by omega
    unfold bitF
    rw [e1, e2]
theorem Bt.ones {B : Nat → Bool} {F : Nat → UInt8} : ∀ {n : Nat}, Bt B F n → onesB B (8 * n) = onesF F n
  | 0, _ => rfl
  | n + 1, h => by
    have h' : Bt B F n := fun i hi => h i (by omega)
    rw [show 8 * (n + 1) = 8 * n + 8 from by omega, onesB_block B F n (fun k hk => h _ (by omega)) 8 (Nat.le_refl _), h'.ones, onesF]
    rfl
def orB (B C : Nat → Bool) (k : Nat) : Nat → Bool := fun j => if j < k then B j || C j else B j
/-- The bytes that have just those bits. -/
def encF (B : Nat → Bool) : Nat → (Nat → UInt8)
  | 0 => fun _ => 0
  | i + 1 => if B i = true then setF (encF B i) i else encF B i
theorem bitF_enc (B : Nat → Bool) (m j : Nat) : bitF (encF B m) j = (decide (j < m) && B j) := by
  induction m with
  | zero => rw [encF, bitF_zero]; simp
  | succ m ih =>
    rw [encF]
    by_cases h : B m = true
    · rw [if_pos h, bitF_set, ih]
      by_cases e : j = m
      · subst e; simp [h]
      · have : (j < m + 1) ↔ (j < m) := by omega
        simp [e, this]
    · rw [if_neg h, ih]
      by_cases e : j = m
      · subst e; simp [h]
      · have : (j < m + 1) ↔ (j < m) := by omega
        simp [this]
theorem Bt.enc {B : Nat → Bool} {F : Nat → UInt8} {n : Nat} (h : Bt B F n) (j : Nat) (hj : j < n) : encF B (8 * n) j = F j :=
  bytes_ext (fun i hi => by rw [bitF_enc, h i hi]; simp [hi]) j hj
theorem Bt.zero (n : Nat) : Bt (fun _ => false) (fun _ => 0) n := fun i _ => (bitF_zero i).symm
theorem Bt.congr {B : Nat → Bool} {F G : Nat → UInt8} {n : Nat} (h : Bt B F n) (e : ∀ j, j < n → F j = G j) : Bt B G n := fun i hi => by rw [h i hi, bitF_congr e hi]
theorem Bt.or {B C : Nat → Bool} {F G : Nat → UInt8} {n : Nat} (h : Bt B F n) (k : Bt C G n) : Bt (orB B C (8 * n)) (fun j => if j < n then F j ||| G j else F j) n := fun i hi => by
  rw [bitF_or F G n i hi, orB, if_pos hi, h i hi, k i hi]
theorem plc_lt (I : Nat → UInt8) (n h : Nat) (hn : 0 < n) : plc I n h < 8 * n := Nat.mod_lt _ (by omega)
theorem Bt.has {B : Nat → Bool} {F : Nat → UInt8} {n : Nat} (h : Bt B F n) (hn : 0 < n) (I : Nat → UInt8) (H : Nat) : (hasF F I n H = true ↔ ∀ k, k < H → B (plc I n k) = true) := by
  rw [hasF_iff]
  exact ⟨fun e k hk => by rw [h _ (plc_lt I n k hn)]; exact e k hk, fun e k hk => by rw [← h _ (plc_lt I n k hn)]; exact e k hk⟩
end Go.Proofs.Ytbfmdingbgdflaa.Blo
