/- Any k rows of the unit above Cauchy's matrix can be undone. Plain; no program in sight. No conditions. -/
import Derived.Test.YthlnnclpfgokjaaLin
namespace Go.Proofs.Ythlnnclpfgokjaa.Gf
/-- Row i of the unit's k rows with Cauchy's below them. -/
def genF (k i j : Nat) : UInt8 := if i < k then (if i = j then 1 else 0) else inv (UInt8.ofNat (128 + (i - k)) ^^^ UInt8.ofNat j)
theorem ofNat_neq {a b : Nat} (ha : a < 256) (hb : b < 256) (h : a ≠ b) : UInt8.ofNat a ≠ UInt8.ofNat b := by
  intro e
  have := congrArg UInt8.toNat e
  rw [UInt8.toNat_ofNat', UInt8.toNat_ofNat'] at this
  omega
theorem cau_xor_ne (i j : Nat) (hi : i < 64) (hj : j < 64) : UInt8.ofNat (128 + i) ^^^ UInt8.ofNat j ≠ 0 := by
  intro h
  exact ofNat_neq (by omega) (by omega) (by omega) (xor_cancel h)
theorem genF_ne (k i j : Nat) (hk : k ≤ i) (hi : i - k < 64) (hj : j < 64) : genF k i j ≠ 0 := by
  unfold genF
  rw [if_neg (by omega)]
  exact inv_ne _ (cau_xor_ne _ _ hi hj)
/-- A sum whose terms are 0 outside some places. -/
theorem sm_filter (P : Nat → Bool) (f : Nat → UInt8) (k : Nat) (h : ∀ j, j < k → P j = false → f j = 0) :
    sm f k = sm (fun t => f (((List.range k).filter P).getD t 0)) ((List.range k).filter P).length := by
  induction k with
  | zero => rfl
  | succ k ih =>
    rw [sm, ih (fun j hj => h j (by omega)), List.range_succ, List.filter_append]
    by_cases hp : P k = true
    · have e : List.filter P [k] = [k] := by simp [hp]
      rw [e, List.length_append]
      show _ = sm _ (_ + 1)
      rw [sm]
      congr 1
      · refine sm_congr fun t ht => ?_
        rw [List.getD_eq_getElem?_getD, List.getD_eq_getElem?_getD, List.getElem?_append_left ht]
      · rw [List.getD_eq_getElem?_getD, List.getElem?_append_right (Nat.le_refl _)]; simp
    · have hp' : P k = false := by simpa using hp
      have e : List.filter P [k] = [] := by simp [hp']
      rw [e, List.append_nil, h k (by omega) hp', UInt8.xor_zero]
theorem filter_at (P : Nat → Bool) (k t : Nat) (ht : t < ((List.range k).filter P).length) : ((List.range k).filter P).getD t 0 < k ∧ P (((List.range k).filter P).getD t 0) = true := by
  have hm : ((List.range k).filter P).getD t 0 ∈ (List.range k).filter P := by
    rw [List.getD_eq_getElem?_getD, List.getElem?_eq_getElem ht]; exact List.getElem_mem ht
  have := List.mem_filter.1 hm
  exact ⟨by simpa using this.1, this.2⟩
theorem filter_mono (P : Nat → Bool) (k i j : Nat) (hij : i < j) (hj : j < ((List.range k).filter P).length) : ((List.range k).filter P).getD i 0 < ((List.range k).filter P).getD j 0 := by
  have h : ((List.range k).filter P).Pairwise (· < ·) := List.Pairwise.filter _ List.pairwise_lt_range
  have := List.pairwise_iff_getElem.1 h i j (by omega) hj hij
  rw [List.getD_eq_getElem?_getD, List.getD_eq_getElem?_getD, List.getElem?_eq_getElem (by omega), List.getElem?_eq_getElem hj]
  exact this
theorem filter_has (P : Nat → Bool) (k j : Nat) (hj : j < k) (h : P j = true) : ∃ t, t < ((List.range k).filter P).length ∧ ((List.range k).filter P).getD t 0 = j := by
  have hm : j ∈ (List.range k).filter P := List.mem_filter.2 ⟨by simpa using hj, h⟩
  obtain ⟨t, ht, e⟩ := List.getElem_of_mem hm
  exact ⟨t, ht, by rw [List.getD_eq_getElem?_getD, List.getElem?_eq_getElem ht]; exact e⟩
def hitB (a : Nat) (p : Nat → Nat) (j : Nat) : Bool := (List.range a).any fun i => p i == j
theorem hitB_iff (a : Nat) (p : Nat → Nat) (j : Nat) : hitB a p j = true ↔ ∃ i, i < a ∧ p i = j := by
  unfold hitB; rw [List.any_eq_true]
  constructor
  · rintro ⟨i, hi, e⟩; exact ⟨i, by simpa using hi, by simpa using e⟩
  · rintro ⟨i, hi, e⟩; exact ⟨i, by simpa using hi, by simpa using e⟩
/-- Places that no row of the first a has: at most m - t below m, if t rows lie there. -/
theorem miss_count (a : Nat) (p : Nat → Nat) (hp : ∀ i j, i < j → j < a → p i < p j) : ∀ m t, t ≤ a → (∀ i, i < t → p i < m) → t + ((List.range m).filter fun j => !hitB a p j).length ≤ m
  | 0, 0, _, _ => by simp
  | 0, t + 1, _, h => by have := h 0 (by omega); omega
  | m + 1, t, ht, h => by
    rw [List.range_succ, List.filter_append, List.length_append]
    by_cases hm : hitB a p m = true
    · have e : List.filter (fun j => !hitB a p j) [m] = [] := by simp [hm]
      rw [e, List.length_nil, Nat.add_zero]
      match t, ht, h with
      | 0, _, _ => have := miss_count a p hp m 0 (by omega) (fun i hi => by omega); omega
      | t + 1, ht, h =>
        have h1 := h t (by omega)
        have := miss_count a p hp m t (by omega) (fun i hi => by have := hp i t hi (by omega); omega)
        omega
    · have e : (List.filter (fun j => !hitB a p j) [m]).length ≤ 1 := List.length_filter_le _ _
      have := miss_count a p hp m t ht (fun i hi => by
        have h1 := h i hi
        have h2 : p i ≠ m := fun e => hm ((hitB_iff a p m).2 ⟨i, by omega, e⟩)
        omega)
      omega
theorem split_at (k : Nat) (p : Nat → Nat) : ∀ n, (∀ i j, i < j → j < n → p i < p j) → ∃ a, a ≤ n ∧ (∀ i, i < a → p i < k) ∧ ∀ i, a ≤ i → i < n → k ≤ p i
  | 0, _ => ⟨0, by omega, fun i hi => by omega, fun i _ hi => by omega⟩
  | n + 1, hp => by
    obtain ⟨a, h1, h2, h3⟩ := split_at k p n (fun i j hij hj => hp i j hij (by omega))
    by_cases ha : a < n
    · refine ⟨a, by omega, h2, fun i hi hn => ?_⟩
      by_cases e : i = n
      · subst e
        have := h3 a (by omega) ha
        have := hp a i (by omega) (by omega)
        omega
      · exact h3 i hi (by omega)
    · by_cases hk : p n < k
      · refine ⟨n + 1, by omega, fun i hi => ?_, fun i hi hn => by omega⟩
        by_cases e : i = n
        · subst e; exact hk
        · exact h2 i (by omega)
      · refine ⟨n, by omega, fun i hi => h2 i (by omega), fun i hi hn => ?_⟩
        obtain rfl : i = n := by omega
        omega
theorem gen_zero (k : Nat) (hk : k ≤ 64) (p : Nat → Nat) (hp : ∀ i j, i < j → j < k → p i < p j) (hpN : ∀ i, i < k → p i < k + 64) (x : Nat → UInt8)
    (hx : ∀ i, i < k → sm (fun j => gm (genF k (p i) j) (x j)) k = 0) : ∀ j, j < k → x j = 0 := by
  obtain ⟨a, ha, h2, h3⟩ := split_at k p k hp
  have hpa : ∀ i j, i < j → j < a → p i < p j := fun i j hij hj => hp i j hij (by omega)
  have hit0 : ∀ j, hitB a p j = true → x j = 0 := fun j hj => by
    obtain ⟨i, hi, rfl⟩ := (hitB_iff a p j).1 hj
    have h := hx i (by omega)
    have e : ∀ j, j < k → gm (genF k (p i) j) (x j) = gm (if p i = j then 1 else 0) (x j) := fun j _ => by unfold genF; rw [if_pos (h2 i hi)]
    rw [sm_congr e, unit_left k (p i) (h2 i hi) x] at h
    exact h
  have hcnt := miss_count a p hpa k a (Nat.le_refl _) h2
  obtain ⟨q, hq⟩ : ∃ q, q = (List.range k).filter fun j => !hitB a p j := ⟨_, rfl⟩
  rw [← hq] at hcnt
  have key : ∀ t, t < q.length → x (q.getD t 0) = 0 := by
    refine cauchy_kernel q.length (fun t => UInt8.ofNat (128 + (p (a + t) - k))) (fun t => UInt8.ofNat (q.getD t 0)) (fun t => x (q.getD t 0)) (fun i j hi hj hne => ?_) (fun i j hi hj hne => ?_) (fun i j hi hj => ?_) (fun i hi => ?_)
    · have b1 := hpN (a + i) (by omega)
      have b2 := hpN (a + j) (by omega)
      have c1 := h3 (a + i) (by omega) (by omega)
      have c2 := h3 (a + j) (by omega) (by omega)
      refine ofNat_neq (by omega) (by omega) ?_
      rcases Nat.lt_or_gt_of_ne hne with h | h
      · have := hp (a + i) (a + j) (by omega) (by omega); omega
      · have := hp (a + j) (a + i) (by omega) (by omega); omega
    · subst hq
      have b1 := (filter_at _ k i hi).1
      have b2 := (filter_at _ k j hj).1
      refine ofNat_neq (by omega) (by omega) ?_
      rcases Nat.lt_or_gt_of_ne hne with h | h
      · have := filter_mono _ k i j h hj; omega
      · have := filter_mono _ k j i h hi; omega
    · have b1 := hpN (a + i) (by omega)
      have c1 := h3 (a + i) (by omega) (by omega)
      have b2 : q.getD j 0 < k := by subst hq; exact (filter_at _ k j hj).1
      exact cau_xor_ne _ _ (by omega) (by omega)
    · have h := hx (a + i) (by omega)
      rw [sm_filter (fun j => !hitB a p j) _ k (fun j hj hn => by
        have : hitB a p j = true := by simpa using hn
        rw [hit0 j this, gm_zero]), ← hq] at h
      rw [← h]
      refine sm_congr fun t ht => ?_
      have c1 := h3 (a + i) (by omega) (by omega)
      unfold genF
      rw [if_neg (by omega)]
  intro j hj
  by_cases hh : hitB a p j = true
  · exact hit0 j hh
  · obtain ⟨t, ht, e⟩ := filter_has (fun j => !hitB a p j) k j hj (by simp [hh])
    rw [← hq] at ht e
    rw [← e]; exact key t ht
theorem gen_full (k : Nat) (hk : k ≤ 64) (p : Nat → Nat) (hp : ∀ i j, i < j → j < k → p i < p j) (hpN : ∀ i, i < k → p i < k + 64) (A : Mat) (hA : ∀ i j, i < k → j < k → A i j = genF k (p i) j) : (esteps k A k).2 = k := by
  apply Classical.byContradiction
  intro hne
  have hle := (esteps_le k A k).1
  obtain ⟨x, ⟨j, hj, hxj⟩, hx⟩ := kernel k k A (by omega)
  exact hxj (gen_zero k hk p hp hpN x (fun i hi => by rw [← hx i hi]; exact sm_congr fun j hj => by rw [hA i j hi hj]) j hj)
end Go.Proofs.Ythlnnclpfgokjaa.Gf
