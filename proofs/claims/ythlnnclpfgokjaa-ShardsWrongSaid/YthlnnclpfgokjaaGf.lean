/-
  Plain arithmetic of the field of 256 numbers (bytes, added by xor, multiplied modulo 0x11D). No program in sight. No conditions.
-/
namespace Go.Proofs.Ythlnnclpfgokjaa.Gf

theorem all256 (p : UInt8 → Bool) (h : ((List.range 256).all fun n => p (UInt8.ofNat n)) = true) (a : UInt8) : p a = true := by
  rw [List.all_eq_true] at h
  have := h a.toNat (List.mem_range.2 a.toNat_lt)
  simpa using this

/-- Twice a number. -/
def xt (a : UInt8) : UInt8 := (a <<< 1) ^^^ ((a >>> 7) ^^^ (((a >>> 7) <<< 2) ^^^ (((a >>> 7) <<< 3) ^^^ ((a >>> 7) <<< 4))))
def gmn : Nat → UInt8 → Nat → UInt8
  | 0, _, _ => 0
  | n + 1, a, b => (if b % 2 = 1 then a else 0) ^^^ gmn n (xt a) (b / 2)
/-- The product. -/
def gm (a b : UInt8) : UInt8 := gmn 8 a b.toNat

theorem x4 (a b c d : UInt8) : (a ^^^ b) ^^^ (c ^^^ d) = (a ^^^ c) ^^^ (b ^^^ d) := by
  rw [UInt8.xor_assoc, UInt8.xor_assoc, ← UInt8.xor_assoc b c d, ← UInt8.xor_assoc c b d, UInt8.xor_comm b c]

theorem xt_xor (a b : UInt8) : xt (a ^^^ b) = xt a ^^^ xt b := by
  unfold xt
  simp only [UInt8.shiftLeft_xor, UInt8.shiftRight_xor, x4]

theorem gmn_xor_left (n : Nat) (a a' : UInt8) (b : Nat) : gmn n (a ^^^ a') b = gmn n a b ^^^ gmn n a' b := by
  induction n generalizing a a' b with
  | zero => simp [gmn]
  | succ n ih =>
    simp only [gmn, xt_xor, ih]
    by_cases h : b % 2 = 1
    · simp only [h, if_true, x4]
    · simp only [h, if_false, UInt8.zero_xor]

theorem gmn_xor_right (n : Nat) (a : UInt8) (b b' : Nat) : gmn n a (b ^^^ b') = gmn n a b ^^^ gmn n a b' := by
  induction n generalizing a b b' with
  | zero => simp [gmn]
  | succ n ih =>
    simp only [gmn, Nat.xor_div_two, ih]
    have e : ((b ^^^ b') % 2 = 1) ↔ ¬ (b % 2 = 1 ↔ b' % 2 = 1) := by
      rw [Nat.xor_mod_two_eq_one]
    by_cases h : b % 2 = 1 <;> by_cases h' : b' % 2 = 1
    · rw [if_neg (by rw [e]; simp [h, h']), if_pos h, if_pos h', x4, UInt8.xor_self]
    · rw [if_pos (by rw [e]; simp [h, h']), if_pos h, if_neg h', x4, UInt8.xor_zero]
    · rw [if_pos (by rw [e]; simp [h, h']), if_neg h, if_pos h', x4, UInt8.zero_xor]
    · rw [if_neg (by rw [e]; simp [h, h']), if_neg h, if_neg h', x4, UInt8.xor_self]

theorem gm_xor_left (a a' b : UInt8) : gm (a ^^^ a') b = gm a b ^^^ gm a' b := gmn_xor_left 8 a a' b.toNat
theorem gm_xor_right (a b b' : UInt8) : gm a (b ^^^ b') = gm a b ^^^ gm a b' := by
  unfold gm; rw [UInt8.toNat_xor]; exact gmn_xor_right 8 a _ _

/-- What is linear hangs on the eight powers of 2. -/
def basis : List UInt8 := [1, 2, 4, 8, 16, 32, 64, 128]
theorem split_bits (a : UInt8) : a = (if a.toNat % 2 = 1 then 1 else 0) ^^^ ((if a.toNat / 2 % 2 = 1 then 2 else 0) ^^^ ((if a.toNat / 4 % 2 = 1 then 4 else 0) ^^^ ((if a.toNat / 8 % 2 = 1 then 8 else 0) ^^^
    ((if a.toNat / 16 % 2 = 1 then 16 else 0) ^^^ ((if a.toNat / 32 % 2 = 1 then 32 else 0) ^^^ ((if a.toNat / 64 % 2 = 1 then 64 else 0) ^^^ (if a.toNat / 128 % 2 = 1 then 128 else 0))))))) := by
  have := all256 (fun a => a == ((if a.toNat % 2 = 1 then 1 else 0) ^^^ ((if a.toNat / 2 % 2 = 1 then 2 else 0) ^^^ ((if a.toNat / 4 % 2 = 1 then 4 else 0) ^^^ ((if a.toNat / 8 % 2 = 1 then 8 else 0) ^^^
    ((if a.toNat / 16 % 2 = 1 then 16 else 0) ^^^ ((if a.toNat / 32 % 2 = 1 then 32 else 0) ^^^ ((if a.toNat / 64 % 2 = 1 then 64 else 0) ^^^ (if a.toNat / 128 % 2 = 1 then 128 else 0))))))))) (by decide +kernel) a
  exact eq_of_beq this

theorem lin_ext (f g : UInt8 → UInt8) (hf : ∀ a b, f (a ^^^ b) = f a ^^^ f b) (hg : ∀ a b, g (a ^^^ b) = g a ^^^ g b) (h : ∀ x ∈ basis, f x = g x) (a : UInt8) : f a = g a := by
  have f0 : f 0 = 0 := by have := hf 0 0; simpa using this
  have g0 : g 0 = 0 := by have := hg 0 0; simpa using this
  have hi : ∀ (c : Prop) [Decidable c] (x : UInt8), x ∈ basis → f (if c then x else 0) = g (if c then x else 0) := by
    intro c _ x hx
    by_cases hc : c
    · simp only [hc, if_true, h x hx]
    · simp only [hc, if_false, f0, g0]
  rw [split_bits a]
  simp only [hf, hg]
  rw [hi _ 1 (by simp [basis]), hi _ 2 (by simp [basis]), hi _ 4 (by simp [basis]), hi _ 8 (by simp [basis]), hi _ 16 (by simp [basis]), hi _ 32 (by simp [basis]), hi _ 64 (by simp [basis]), hi _ 128 (by simp [basis])]

theorem comm_basis : (basis.all fun a => basis.all fun b => gm a b == gm b a) = true := by decide +kernel
theorem gm_comm (a b : UInt8) : gm a b = gm b a := by
  refine lin_ext (fun a => gm a b) (fun a => gm b a) (fun _ _ => gm_xor_left _ _ _) (fun _ _ => gm_xor_right _ _ _) (fun x hx => ?_) a
  refine lin_ext (fun b => gm x b) (fun b => gm b x) (fun _ _ => gm_xor_right _ _ _) (fun _ _ => gm_xor_left _ _ _) (fun y hy => ?_) b
  have := comm_basis
  rw [List.all_eq_true] at this
  have := this x hx
  rw [List.all_eq_true] at this
  exact eq_of_beq (this y hy)

theorem assoc_basis : (basis.all fun a => basis.all fun b => basis.all fun c => gm (gm a b) c == gm a (gm b c)) = true := by decide +kernel
theorem gm_assoc (a b c : UInt8) : gm (gm a b) c = gm a (gm b c) := by
  refine lin_ext (fun a => gm (gm a b) c) (fun a => gm a (gm b c)) (fun _ _ => by simp only [gm_xor_left]) (fun _ _ => by simp only [gm_xor_left]) (fun x hx => ?_) a
  refine lin_ext (fun b => gm (gm x b) c) (fun b => gm x (gm b c)) (fun _ _ => by simp only [gm_xor_left, gm_xor_right]) (fun _ _ => by simp only [gm_xor_left, gm_xor_right]) (fun y hy => ?_) b
  refine lin_ext (fun c => gm (gm x y) c) (fun c => gm x (gm y c)) (fun _ _ => by simp only [gm_xor_right]) (fun _ _ => by simp only [gm_xor_right]) (fun z hz => ?_) c
  have := assoc_basis
  rw [List.all_eq_true] at this
  have := this x hx
  rw [List.all_eq_true] at this
  have := this y hy
  rw [List.all_eq_true] at this
  exact eq_of_beq (this z hz)

theorem gm_one (a : UInt8) : gm a 1 = a := by
  have := all256 (fun a => gm a 1 == a) (by decide +kernel) a
  exact eq_of_beq this
theorem one_gm (a : UInt8) : gm 1 a = a := by rw [gm_comm, gm_one]
theorem gm_zero (a : UInt8) : gm a 0 = 0 := by have := gm_xor_right a 0 0; simpa using this
theorem zero_gm (a : UInt8) : gm 0 a = 0 := by rw [gm_comm, gm_zero]

/-- Powers. -/
def pw (a : UInt8) : Nat → UInt8
  | 0 => 1
  | n + 1 => gm (pw a n) a
theorem pw_add (a : UInt8) (n m : Nat) : pw a (n + m) = gm (pw a n) (pw a m) := by
  induction m with
  | zero => simp [pw, gm_one]
  | succ m ih => rw [← Nat.add_assoc]; simp only [pw, ih, gm_assoc]
theorem pw_two (a : UInt8) (n : Nat) : pw (gm a a) n = pw a (2 * n) := by
  induction n with
  | zero => rfl
  | succ n ih =>
    have : 2 * (n + 1) = 2 * n + 1 + 1 := by omega
    rw [this]
    simp only [pw, ih, gm_assoc]
theorem pw_mul (a : UInt8) (n m : Nat) : pw (pw a n) m = pw a (n * m) := by
  induction m with
  | zero => rfl
  | succ m ih => show gm (pw (pw a n) m) (pw a n) = _; rw [ih, ← pw_add, Nat.mul_succ]
theorem one_pw (n : Nat) : pw 1 n = 1 := by
  induction n with
  | zero => rfl
  | succ n ih => rw [pw, ih, gm_one]
theorem zero_pw (n : Nat) (h : 0 < n) : pw 0 n = 0 := by
  cases n with
  | zero => omega
  | succ n => rw [pw, gm_zero]

/-- Squaring and multiplying. -/
def sq : Nat → UInt8 → UInt8 → Nat → UInt8
  | 0, p, _, _ => p
  | f + 1, p, a, n => if n = 0 then p else sq f (if n % 2 = 1 then gm p a else p) (gm a a) (n / 2)
theorem sq_pw (f : Nat) (p a : UInt8) (n : Nat) (h : n < 2 ^ f) : sq f p a n = gm p (pw a n) := by
  induction f generalizing p a n with
  | zero =>
    have : n = 0 := by simpa using h
    subst this; simp [sq, pw, gm_one]
  | succ f ih =>
    unfold sq
    by_cases h0 : n = 0
    · simp [h0, pw, gm_one]
    · rw [if_neg h0, ih _ _ _ (by rw [Nat.pow_succ] at h; omega), pw_two]
      by_cases h1 : n % 2 = 1
      · rw [if_pos h1]
        have : n = 1 + 2 * (n / 2) := by omega
        conv => rhs; rw [this, pw_add]
        rw [gm_assoc]; congr 2; simp [pw, one_gm]
      · rw [if_neg h1]
        have : n = 2 * (n / 2) := by omega
        conv => rhs; rw [this]

theorem pw255 (a : UInt8) (h : a ≠ 0) : pw a 255 = 1 := by
  have := all256 (fun a => a == 0 || sq 8 1 a 255 == 1) (by decide +kernel) a
  rw [Bool.or_eq_true] at this
  rcases this with h' | h'
  · exact absurd (eq_of_beq h') h
  · have := eq_of_beq h'
    rw [sq_pw _ _ _ _ (by decide), one_gm] at this
    exact this
theorem pw_mod (a : UInt8) (h : a ≠ 0) (n : Nat) : pw a (n % 255) = pw a n := by
  have : n = 255 * (n / 255) + n % 255 := by omega
  conv => rhs; rw [this, pw_add, ← pw_mul, pw255 a h, one_pw, one_gm]
def inv (a : UInt8) : UInt8 := pw a 254
theorem gm_inv (a : UInt8) (h : a ≠ 0) : gm (inv a) a = 1 := pw255 a h
theorem inv_gm (a : UInt8) (h : a ≠ 0) : gm a (inv a) = 1 := by rw [gm_comm]; exact gm_inv a h
theorem gm_eq_zero (a b : UInt8) : gm a b = 0 ↔ a = 0 ∨ b = 0 := by
  constructor
  · intro h
    by_cases hb : b = 0
    · exact Or.inr hb
    · left
      have : gm (gm a b) (inv b) = 0 := by rw [h, zero_gm]
      rwa [gm_assoc, inv_gm b hb, gm_one] at this
  · rintro (h | h)
    · rw [h, zero_gm]
    · rw [h, gm_zero]
theorem gm_cancel (a b c : UInt8) (hc : c ≠ 0) (h : gm a c = gm b c) : a = b := by
  have : gm (gm a c) (inv c) = gm (gm b c) (inv c) := by rw [h]
  rwa [gm_assoc, gm_assoc, inv_gm c hc, gm_one, gm_one] at this
theorem over_back (a b : UInt8) (hb : b ≠ 0) : gm (gm a (inv b)) b = a := by rw [gm_assoc, gm_inv b hb, gm_one]
theorem inv_ne (a : UInt8) (h : a ≠ 0) : inv a ≠ 0 := by
  intro h0
  have := gm_inv a h
  rw [h0, zero_gm] at this
  exact absurd this (by decide)
theorem sq_xor (a b : UInt8) : gm (a ^^^ b) (a ^^^ b) = gm a a ^^^ gm b b := by
  rw [gm_xor_left, gm_xor_right, gm_xor_right, gm_comm b a, UInt8.xor_assoc, ← UInt8.xor_assoc (gm a b) (gm a b), UInt8.xor_self, UInt8.zero_xor]
theorem pw2k_xor (a b : UInt8) (k : Nat) : pw (a ^^^ b) (2 ^ k) = pw a (2 ^ k) ^^^ pw b (2 ^ k) := by
  induction k generalizing a b with
  | zero => simp [pw, one_gm]
  | succ k ih => rw [Nat.pow_succ, Nat.mul_comm, ← pw_two, ← pw_two, ← pw_two, sq_xor, ih]
end Go.Proofs.Ythlnnclpfgokjaa.Gf
