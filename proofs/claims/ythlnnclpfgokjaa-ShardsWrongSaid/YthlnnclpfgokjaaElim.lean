/- Elimination over the field, plainly: rows brought to steps. No program in sight. No conditions. -/
import Derived.Test.YthlnnclpfgokjaaGf
namespace Go.Proofs.Ythlnnclpfgokjaa.Gf
abbrev Mat := Nat → Nat → UInt8
/-- The first row from p on whose number in column c is not 0; n if there is none (f: how many rows are looked at). -/
def findP (M : Mat) (c n : Nat) : Nat → Nat → Nat
  | 0, p => p
  | f + 1, p => if p < n ∧ M p c = 0 then findP M c n f (p + 1) else p
def pivot (M : Mat) (c n a : Nat) : Nat := findP M c n (n - a) a
def swapR (M : Mat) (p a : Nat) : Mat := fun i j => if i = p then M a j else if i = a then M p j else M i j
def scaleR (M : Mat) (a : Nat) (v : UInt8) : Mat := fun i j => if i = a then gm (M i j) v else M i j
/-- Rows below k have taken their part of row a off. -/
def takeR (M : Mat) (a c k : Nat) : Mat := fun i j => if i < k ∧ i ≠ a then M i j ^^^ gm (M i c) (M a j) else M i j
def red1 (M : Mat) (p a c : Nat) : Mat := scaleR (swapR M p a) a (inv (swapR M p a a c))
/-- One column. -/
def estep (n c : Nat) (s : Mat × Nat) : Mat × Nat :=
  if s.2 < n ∧ pivot s.1 c n s.2 < n then (takeR (red1 s.1 (pivot s.1 c n s.2) s.2 c) s.2 c n, s.2 + 1) else s
def esteps (n : Nat) (M : Mat) : Nat → Mat × Nat
  | 0 => (M, 0)
  | c + 1 => estep n c (esteps n M c)

theorem findP_spec (M : Mat) (c n : Nat) : ∀ f p, p + f = n → p ≤ n → (findP M c n f p ≤ n ∧ p ≤ findP M c n f p ∧ (∀ q, p ≤ q → q < findP M c n f p → M q c = 0) ∧ (findP M c n f p < n → M (findP M c n f p) c ≠ 0))
  | 0, p, h, hp => ⟨hp, Nat.le_refl _, fun q h1 h2 => by simp [findP] at h2; omega, fun h1 => by simp [findP] at h1; omega⟩
  | f + 1, p, h, hp => by
    unfold findP
    by_cases h0 : p < n ∧ M p c = 0
    · rw [if_pos h0]
      obtain ⟨a, b, d, e⟩ := findP_spec M c n f (p + 1) (by omega) (by omega)
      refine ⟨a, by omega, fun q h1 h2 => ?_, e⟩
      by_cases hq : q = p
      · rw [hq]; exact h0.2
      · exact d q (by omega) h2
    · rw [if_neg h0]
      exact ⟨hp, Nat.le_refl _, fun q h1 h2 => by omega, fun h1 h2 => h0 ⟨h1, h2⟩⟩
theorem findP_step (M : Mat) (c n f p : Nat) (h : p + (f + 1) = n) (h0 : M p c = 0) : findP M c n (f + 1) p = findP M c n f (p + 1) := by
  rw [findP, if_pos ⟨by omega, h0⟩]
theorem findP_stop (M : Mat) (c n f p : Nat) (h0 : M p c ≠ 0) : findP M c n f p = p := by
  cases f with
  | zero => rfl
  | succ f => rw [findP, if_neg (fun h => h0 h.2)]
theorem pivot_spec (M : Mat) (c n a : Nat) (ha : a ≤ n) : pivot M c n a ≤ n ∧ a ≤ pivot M c n a ∧ (∀ q, a ≤ q → q < pivot M c n a → M q c = 0) ∧ (pivot M c n a < n → M (pivot M c n a) c ≠ 0) :=
  findP_spec M c n (n - a) a (by omega) ha
theorem esteps_le (n : Nat) (M : Mat) (c : Nat) : (esteps n M c).2 ≤ n ∧ (esteps n M c).2 ≤ c := by
  induction c with
  | zero => exact ⟨Nat.zero_le _, Nat.le_refl _⟩
  | succ c ih =>
    unfold esteps estep
    split
    · rename_i h; exact ⟨h.1, Nat.succ_le_succ ih.2⟩
    · exact ⟨ih.1, Nat.le_succ_of_le ih.2⟩

theorem red1_pivot (M : Mat) (p a c : Nat) (h : M p c ≠ 0) : red1 M p a c a c = 1 := by
  unfold red1 scaleR
  rw [if_pos rfl]
  have e : swapR M p a a c = M p c := by
    unfold swapR
    by_cases hp : a = p
    · rw [if_pos hp, hp]
    · rw [if_neg hp, if_pos rfl]
  rw [e]
  exact inv_gm _ h

/-- WHAT ELIMINATION LEAVES: each of the first 'at' rows has a column of its own in which it is 1 and all others are 0; the other rows are 0 in all columns that were gone through. -/
structure Steps (n c : Nat) (M : Mat) (a : Nat) (piv : Nat → Nat) : Prop where
  lt : ∀ i, i < a → piv i < c
  one : ∀ i, i < a → M i (piv i) = 1
  zero : ∀ i k, i < a → k < n → k ≠ i → M k (piv i) = 0
  low : ∀ k j, a ≤ k → k < n → j < c → M k j = 0
  mono : ∀ i k, i < k → k < a → piv i < piv k

theorem steps_next (n c : Nat) (M : Mat) (a : Nat) (piv : Nat → Nat) (h : Steps n c M a piv) (ha : a ≤ n) : ∃ piv', Steps n (c + 1) (estep n c (M, a)).1 (estep n c (M, a)).2 piv' := by
  obtain ⟨p1, p2, p3, p4⟩ := pivot_spec M c n a ha
  unfold estep
  show ∃ piv', Steps n (c + 1) (if a < n ∧ pivot M c n a < n then _ else _ : Mat × Nat).1 (if a < n ∧ pivot M c n a < n then _ else _ : Mat × Nat).2 piv'
  by_cases hc : a < n ∧ pivot M c n a < n
  · rw [if_pos hc]
    obtain ⟨h1, h2⟩ := hc
    generalize hp : pivot M c n a = p at *
    have hpc := p4 h2
    have hr1 : ∀ i j, i ≠ a → i ≠ p → red1 M p a c i j = M i j := fun i j e1 e2 => by
      unfold red1 scaleR swapR; rw [if_neg e1, if_neg e2, if_neg e1]
    have hrp : ∀ j, p ≠ a → red1 M p a c p j = M a j := fun j e => by
      unfold red1 scaleR swapR; rw [if_neg e, if_pos rfl]
    have hra : ∀ j, red1 M p a c a j = gm (M p j) (inv (M p c)) := fun j => by
      have e : ∀ j, swapR M p a a j = M p j := fun j => by
        unfold swapR
        by_cases hp : a = p
        · rw [if_pos hp, hp]
        · rw [if_neg hp, if_pos rfl]
      unfold red1 scaleR; rw [if_pos rfl, e, e]
    have hlow : ∀ j, j < c → red1 M p a c a j = 0 := fun j hj => by
      rw [hra, h.low p j (by omega) h2 hj, zero_gm]
    refine ⟨fun i => if i = a then c else piv i, ?_, ?_, ?_, ?_, ?_⟩
    · intro i hi
      show (if i = a then c else piv i) < c + 1
      by_cases e : i = a
      · rw [if_pos e]; omega
      · rw [if_neg e]; have := h.lt i (by omega); omega
    · intro i hi
      show takeR _ a c n i (if i = a then c else piv i) = 1
      by_cases e : i = a
      · subst e; rw [if_pos rfl]
        unfold takeR; rw [if_neg (by omega)]
        rw [hra, inv_gm _ hpc]
      · rw [if_neg e]
        have hi' : i < a := by omega
        unfold takeR
        rw [if_pos ⟨by omega, e⟩, hlow _ (h.lt i hi'), gm_zero, UInt8.xor_zero, hr1 i _ e (by omega)]
        exact h.one i hi'
    · intro i k hi hk hne
      show takeR _ a c n k (if i = a then c else piv i) = 0
      by_cases e : i = a
      · subst e; rw [if_pos rfl]
        unfold takeR
        rw [if_pos ⟨hk, hne⟩, hra, inv_gm _ hpc, gm_one, UInt8.xor_self]
      · rw [if_neg e]
        have hi' : i < a := by omega
        have hl := h.lt i hi'
        unfold takeR
        by_cases ek : k = a
        · subst ek; rw [if_neg (by omega)]; exact hlow _ hl
        · rw [if_pos ⟨hk, ek⟩, hlow _ hl, gm_zero, UInt8.xor_zero]
          by_cases ep : k = p
          · subst ep; rw [hrp _ ek]; exact h.zero i a hi' h1 (by omega)
          · rw [hr1 k _ ek ep]; exact h.zero i k hi' hk hne
    · intro k j hak hkn hj
      show takeR _ a c n k j = 0
      have hak' : a + 1 ≤ k := hak
      have ek : k ≠ a := by omega
      unfold takeR
      rw [if_pos ⟨hkn, ek⟩]
      by_cases ej : j = c
      · subst ej; rw [hra, inv_gm _ hpc, gm_one, UInt8.xor_self]
      · have hjc : j < c := by omega
        rw [hlow j hjc, gm_zero, UInt8.xor_zero]
        by_cases ep : k = p
        · subst ep; rw [hrp _ ek]; exact h.low a j (Nat.le_refl _) h1 hjc
        · rw [hr1 k _ ek ep]; exact h.low k j (by omega) hkn hjc
    · intro i k hik hk
      show (if i = a then c else piv i) < (if k = a then c else piv k)
      have hk' : k < a + 1 := hk
      rw [if_neg (show i ≠ a by omega)]
      by_cases e : k = a
      · rw [if_pos e]; exact h.lt i (by omega)
      · rw [if_neg e]; exact h.mono i k hik (by omega)
  · rw [if_neg hc]
    refine ⟨piv, fun i hi => Nat.lt_succ_of_lt (h.lt i hi), h.one, h.zero, fun k j hak hkn hj => ?_, h.mono⟩
    by_cases e : j = c
    · subst e
      exact p3 k hak (by omega)
    · exact h.low k j hak hkn (by omega)
theorem steps_all (n : Nat) (M : Mat) (c : Nat) : ∃ piv, Steps n c (esteps n M c).1 (esteps n M c).2 piv := by
  induction c with
  | zero => exact ⟨fun _ => 0, fun i h => by simp [esteps] at h, fun i h => by simp [esteps] at h, fun i k h => by simp [esteps] at h, fun k j _ _ h => by omega, fun i k _ h => by simp [esteps] at h⟩
  | succ c ih =>
    obtain ⟨piv, h⟩ := ih
    exact steps_next n c _ _ piv h (esteps_le n M c).1
end Go.Proofs.Ythlnnclpfgokjaa.Gf
