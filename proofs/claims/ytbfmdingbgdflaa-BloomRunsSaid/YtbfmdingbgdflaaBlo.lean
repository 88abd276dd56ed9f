/- Bits in bytes, and the places of a name, plainly. No program in sight. No conditions. -/
namespace Go.Proofs.Ytbfmdingbgdflaa.Blo
/-- The bit at a place: as the program asks it. -/
def bitF (F : Nat → UInt8) (i : Nat) : Bool := (F (i / 8) >>> UInt8.ofNat (i % 8)) &&& 1 == 1
/-- The place's bit set. -/
def setF (F : Nat → UInt8) (i : Nat) : Nat → UInt8 := fun j => if j = i / 8 then F j ||| ((1 : UInt8) <<< UInt8.ofNat (i % 8)) else F j
theorem all256 (p : UInt8 → Bool) (h : ((List.range 256).all fun n => p (UInt8.ofNat n)) = true) (a : UInt8) : p a = true := by
  rw [List.all_eq_true] at h
  have := h a.toNat (List.mem_range.2 a.toNat_lt)
  simpa using this
theorem set_bits (a : UInt8) : ((List.range 8).all fun i => (List.range 8).all fun j => ((a ||| ((1 : UInt8) <<< UInt8.ofNat i)) >>> UInt8.ofNat j &&& 1 == 1) == ((a >>> UInt8.ofNat j &&& 1 == 1) || j == i)) = true :=
  all256 (fun a => (List.range 8).all fun i => (List.range 8).all fun j => ((a ||| ((1 : UInt8) <<< UInt8.ofNat i)) >>> UInt8.ofNat j &&& 1 == 1) == ((a >>> UInt8.ofNat j &&& 1 == 1) || j == i)) (by decide +kernel) a
theorem bitF_set (F : Nat → UInt8) (i j : Nat) : bitF (setF F i) j = (bitF F j || j == i) := by
  unfold bitF setF
  by_cases h : j / 8 = i / 8
  · rw [if_pos h]
    have := set_bits (F (j / 8))
    rw [List.all_eq_true] at this
    have := this (i % 8) (List.mem_range.2 (Nat.mod_lt _ (by omega)))
    rw [List.all_eq_true] at this
    have := eq_of_beq (this (j % 8) (List.mem_range.2 (Nat.mod_lt _ (by omega))))
    rw [this]
    congr 1
    rw [Bool.eq_iff_iff, beq_iff_eq, beq_iff_eq]
    omega
  · rw [if_neg h]
    have : (j == i) = false := by rw [beq_eq_false_iff_ne]; intro e; exact h (by rw [e])
    rw [this, Bool.or_false]
theorem bitF_congr {F G : Nat → UInt8} {n i : Nat} (h : ∀ j, j < n → F j = G j) (hi : i < 8 * n) : bitF F i = bitF G i := by
  unfold bitF; rw [h (i / 8) (by omega)]
theorem setF_congr {F G : Nat → UInt8} {n : Nat} (h : ∀ j, j < n → F j = G j) (i : Nat) : ∀ j, j < n → setF F i j = setF G i j := fun j hj => by
  unfold setF; rw [h j hj]
/-- Four bytes as a number, the highest first. -/
def be4 (I : Nat → UInt8) (h : Nat) : Nat := (((I (4 * h)).toNat * 256 + (I (4 * h + 1)).toNat) * 256 + (I (4 * h + 2)).toNat) * 256 + (I (4 * h + 3)).toNat
def beN (I : Nat → UInt8) (h : Nat) : Nat → Nat
  | 0 => 0
  | k + 1 => beN I h k * 256 + (I (4 * h + k)).toNat
theorem beN_lt (I : Nat → UInt8) (h k : Nat) : beN I h k < 256 ^ k := by
  induction k with
  | zero => exact Nat.one_pos
  | succ k ih => rw [beN, Nat.pow_succ]; have := (I (4 * h + k)).toNat_lt; omega
theorem beN_four (I : Nat → UInt8) (h : Nat) : beN I h 4 = be4 I h := by simp [beN, be4]
/-- The place of a name, by its h-th hash, in a filter of n bytes. -/
def plc (I : Nat → UInt8) (n h : Nat) : Nat := be4 I h % (8 * n)
/-- The first h places set. -/
def addF (F : Nat → UInt8) (I : Nat → UInt8) (n : Nat) : Nat → (Nat → UInt8)
  | 0 => F
  | h + 1 => setF (addF F I n h) (plc I n h)
/-- Are the first h places set? -/
def hasF (F : Nat → UInt8) (I : Nat → UInt8) (n : Nat) : Nat → Bool
  | 0 => true
  | h + 1 => hasF F I n h && bitF F (plc I n h)
theorem bitF_add (F : Nat → UInt8) (I : Nat → UInt8) (n h j : Nat) : bitF (addF F I n h) j = (bitF F j || (List.range h).any fun k => j == plc I n k) := by
  induction h with
  | zero => simp [addF]
  | succ h ih => rw [addF, bitF_set, ih, List.range_succ, List.any_append, Bool.or_assoc]; simp
theorem hasF_iff (F : Nat → UInt8) (I : Nat → UInt8) (n h : Nat) : hasF F I n h = true ↔ ∀ k, k < h → bitF F (plc I n k) = true := by
  induction h with
  | zero => simp [hasF]
  | succ h ih =>
    rw [hasF, Bool.and_eq_true, ih]
    constructor
    · rintro ⟨a, b⟩ k hk
      by_cases e : k = h
      · rw [e]; exact b
      · exact a k (by omega)
    · intro a
      exact ⟨fun k hk => a k (by omega), a h (by omega)⟩
theorem has_false (F : Nat → UInt8) (I : Nat → UInt8) (n h k : Nat) (hk : k < h) (hb : bitF F (plc I n k) = false) : hasF F I n h = false := by
  rw [Bool.eq_false_iff]
  intro e
  have := (hasF_iff F I n h).1 e k hk
  rw [hb] at this; cases this
/-- Many names. -/
def addL (n H : Nat) : (Nat → UInt8) → List (Nat → UInt8) → (Nat → UInt8)
  | F, [] => F
  | F, I :: l => addL n H (addF F I n H) l
theorem addL_snoc (n H : Nat) (F : Nat → UInt8) (l : List (Nat → UInt8)) (I : Nat → UInt8) : addL n H F (l ++ [I]) = addF (addL n H F l) I n H := by
  induction l generalizing F with
  | nil => rfl
  | cons J l ih => exact ih _
theorem bitF_addL (n H : Nat) (F : Nat → UInt8) (l : List (Nat → UInt8)) (j : Nat) : bitF (addL n H F l) j = (bitF F j || l.any fun I => (List.range H).any fun k => j == plc I n k) := by
  induction l generalizing F with
  | nil => simp [addL]
  | cons I l ih => rw [addL, ih, bitF_add, List.any_cons, Bool.or_assoc]
theorem bitF_zero (j : Nat) : bitF (fun _ => 0) j = false := by
  unfold bitF; simp
/-- A filter of more bits has no name that a smaller one, fed the same names, has not. -/
theorem finer (n m H : Nat) (l : List (Nat → UInt8)) (I : Nat → UInt8) (h : hasF (addL (n * m) H (fun _ => 0) l) I (n * m) H = true) : hasF (addL n H (fun _ => 0) l) I n H = true := by
  rw [hasF_iff] at h ⊢
  intro k hk
  have := h k hk
  rw [bitF_addL, bitF_zero, Bool.false_or, List.any_eq_true] at this ⊢
  obtain ⟨J, hJ, hx⟩ := this
  refine ⟨J, hJ, ?_⟩
  rw [List.any_eq_true] at hx ⊢
  obtain ⟨x, hx1, hx2⟩ := hx
  refine ⟨x, hx1, ?_⟩
  rw [beq_iff_eq] at hx2 ⊢
  unfold plc at hx2 ⊢
  have e : ∀ a, a % (8 * n) = a % (8 * (n * m)) % (8 * n) := fun a => by
    rw [show 8 * (n * m) = 8 * n * m from by rw [Nat.mul_assoc]]
    rw [Nat.mod_mul_right_mod]
  rw [e (be4 I k), e (be4 J x), hx2]
/-- How many bits of a byte are set. -/
def popB (b : UInt8) : Nat := ((List.range 8).filter fun k => b >>> UInt8.ofNat k &&& 1 == 1).length
/-- How many bits of the first n bytes. -/
def onesF (F : Nat → UInt8) : Nat → Nat
  | 0 => 0
  | n + 1 => onesF F n + popB (F n)
theorem popB_le (b : UInt8) : popB b ≤ 8 := by
  have := List.length_filter_le (fun k => b >>> UInt8.ofNat k &&& 1 == 1) (List.range 8)
  simpa [popB] using this
theorem onesF_le (F : Nat → UInt8) (n : Nat) : onesF F n ≤ 8 * n := by
  induction n with
  | zero => simp [onesF]
  | succ n ih => have := popB_le (F n); rw [onesF]; omega
theorem onesF_congr {F G : Nat → UInt8} {n : Nat} (h : ∀ j, j < n → F j = G j) : onesF F n = onesF G n := by
  induction n with
  | zero => rfl
  | succ n ih => rw [onesF, onesF, ih (fun j hj => h j (by omega)), h n (by omega)]
end Go.Proofs.Ytbfmdingbgdflaa.Blo
