/- Short numbers in bytes, plainly: written, and read at the front of a text. No program in sight. No conditions. -/
namespace Go.Proofs.YtpfccicahfncbaaDoor.Wir
/-- A short number: seven bits a byte, the lowest first; all bytes but the last have the highest bit. -/
def putN : Nat → Nat → List UInt8
  | 0, n => [UInt8.ofNat n]
  | f + 1, n => if n < 128 then [UInt8.ofNat n] else UInt8.ofNat (n % 128 + 128) :: putN f (n / 128)
def putL (n : Nat) : List UInt8 := putN 9 n
theorem putN_small (f n : Nat) (h : n < 128) : putN f n = [UInt8.ofNat n] := by
  cases f with
  | zero => rfl
  | succ f => rw [putN, if_pos h]
theorem putN_big (f n : Nat) (h : ¬ n < 128) : putN (f + 1) n = UInt8.ofNat (n % 128 + 128) :: putN f (n / 128) := by rw [putN, if_neg h]
theorem putN_length (f n : Nat) : 1 ≤ (putN f n).length ∧ (putN f n).length ≤ f + 1 := by
  induction f generalizing n with
  | zero => simp [putN]
  | succ f ih =>
    unfold putN
    by_cases h : n < 128
    · rw [if_pos h]; simp
    · rw [if_neg h]; have := ih (n / 128); simp; omega
/-- The short number at the front, from byte i on, acc being read: the number, and how many bytes it has (-1: there is none). -/
def shG (F : Nat → UInt8) (L : Nat) : Nat → Nat → Nat → Nat × Int
  | 0, _, _ => (0, -1)
  | f + 1, i, acc =>
    if i < L ∧ i < 10 then
      if (i = 9 ∧ 1 < (F i).toNat) ∨ (0 < i ∧ (F i).toNat = 0) then (0, -1)
      else if (F i).toNat < 128 then (acc + (F i).toNat % 128 * 2 ^ (7 * i), (i : Int) + 1) else shG F L f (i + 1) (acc + (F i).toNat % 128 * 2 ^ (7 * i))
    else (0, -1)
def short (F : Nat → UInt8) (L : Nat) : Nat × Int := shG F L 11 0 0
theorem shG_end (F : Nat → UInt8) (L f i acc : Nat) (h : ¬ (i < L ∧ i < 10)) : shG F L f i acc = (0, -1) := by
  cases f with
  | zero => rfl
  | succ f => rw [shG, if_neg h]
theorem shG_bound (F : Nat → UInt8) (L : Nat) : ∀ f i acc, acc < 2 ^ (7 * i) → i ≤ 10 → (shG F L f i acc).1 < 2 ^ 64 ∧ -1 ≤ (shG F L f i acc).2 ∧ (shG F L f i acc).2 ≤ L
  | 0, i, acc, _, _ => by simp [shG] <;> omega
  | f + 1, i, acc, ha, hi => by
    unfold shG
    by_cases h1 : i < L ∧ i < 10
    · rw [if_pos h1]
      by_cases h2 : (i = 9 ∧ 1 < (F i).toNat) ∨ (0 < i ∧ (F i).toNat = 0)
      · rw [if_pos h2]; simp <;> omega
      · rw [if_neg h2]
        have hs : acc + (F i).toNat % 128 * 2 ^ (7 * i) < 2 ^ (7 * (i + 1)) := by
          rw [Nat.mul_add, Nat.pow_add]
          have : (F i).toNat % 128 < 128 := Nat.mod_lt _ (by omega)
          have : (F i).toNat % 128 * 2 ^ (7 * i) ≤ 127 * 2 ^ (7 * i) := Nat.mul_le_mul_right _ (by omega)
          omega
        by_cases h3 : (F i).toNat < 128
        · rw [if_pos h3]
          refine ⟨?_, by simp <;> omega, by simp <;> omega⟩
          show acc + _ < _
          by_cases h9 : i = 9
          · subst h9
            have : (F 9).toNat ≤ 1 := by omega
            have : (F 9).toNat % 128 * 2 ^ (7 * 9) ≤ 1 * 2 ^ (7 * 9) := Nat.mul_le_mul_right _ (by omega)
            have e : 2 ^ (7 * 9) = 9223372036854775808 := by decide
            have e2 : 2 ^ 64 = 18446744073709551616 := by decide
            omega
          · have : 2 ^ (7 * (i + 1)) ≤ 2 ^ 64 := Nat.pow_le_pow_right (by omega) (by omega)
            omega
        · rw [if_neg h3]
          exact shG_bound F L f (i + 1) _ hs (by omega)
    · rw [if_neg h1]; simp <;> omega
/-- What was written is read. -/
theorem short_put (F : Nat → UInt8) (L : Nat) : ∀ g f i acc n, n * 2 ^ (7 * i) < 2 ^ 64 → 10 ≤ f + i → g + i = 9 → (n = 0 → i = 0) → (∀ j, j < (putN g n).length → i + j < L ∧ F (i + j) = (putN g n).getD j 0) →
    shG F L f i acc = (acc + n * 2 ^ (7 * i), (i : Int) + (putN g n).length)
  | g, 0, i, acc, n, _, hf, hi, _, _ => by omega
  | g, f + 1, i, acc, n, hn, hf, hi, h0, hF => by
    have hl := putN_length g n
    have f0 := hF 0 (by omega)
    rw [Nat.add_zero] at f0
    have hi9 : i = 9 → n < 2 := by
      intro e
      subst e
      have e1 : 2 ^ (7 * 9) = 9223372036854775808 := by decide
      have e2 : 2 ^ 64 = 18446744073709551616 := by decide
      omega
    rw [shG, if_pos ⟨f0.1, by omega⟩]
    by_cases h : n < 128
    · have e : F i = UInt8.ofNat n := by rw [f0.2, putN_small g n h]; rfl
      have e2 : (F i).toNat = n := by rw [e, UInt8.toNat_ofNat']; omega
      rw [e2, if_neg (by omega), if_pos h, putN_small g n h, Nat.mod_eq_of_lt h]
      rfl
    · match g, hi, hl, hF, f0 with
      | 0, hi, _, _, _ => have := hi9 (by omega); omega
      | g + 1, hi, hl, hF, f0 =>
        rw [putN_big g n h] at hF f0 hl ⊢
        have e : F i = UInt8.ofNat (n % 128 + 128) := f0.2
        have e2 : (F i).toNat = n % 128 + 128 := by rw [e, UInt8.toNat_ofNat']; omega
        rw [e2, if_neg (by omega), if_neg (by omega)]
        have hd : n / 128 * 2 ^ (7 * (i + 1)) ≤ n * 2 ^ (7 * i) := by
          rw [Nat.mul_add, Nat.pow_add, Nat.mul_comm (2 ^ (7 * i)), ← Nat.mul_assoc]
          exact Nat.mul_le_mul_right _ (by show n / 128 * 128 ≤ n; omega)
        rw [short_put F L g f (i + 1) _ (n / 128) (by omega) (by omega) (by omega) (by omega) (fun j hj => by
          have := hF (j + 1) (by simp; omega)
          rw [show i + (j + 1) = i + 1 + j from by omega] at this
          exact this)]
        have e3 : (n % 128 + 128) % 128 = n % 128 := by omega
        rw [e3]
        refine Prod.ext ?_ ?_
        · show acc + n % 128 * 2 ^ (7 * i) + n / 128 * 2 ^ (7 * (i + 1)) = acc + n * 2 ^ (7 * i)
          rw [Nat.mul_add, Nat.pow_add, Nat.mul_comm (2 ^ (7 * i)) (2 ^ (7 * 1)), ← Nat.mul_assoc, Nat.add_assoc, ← Nat.add_mul]
          congr 2
          show n % 128 + n / 128 * 128 = n
          omega
        · show ((i + 1 : Nat) : Int) + ((putN g (n / 128)).length : Nat) = (i : Int) + ((UInt8.ofNat (n % 128 + 128) :: putN g (n / 128)).length : Nat)
          simp; omega
end Go.Proofs.YtpfccicahfncbaaDoor.Wir
