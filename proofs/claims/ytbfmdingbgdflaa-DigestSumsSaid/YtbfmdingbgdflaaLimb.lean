/- Limbs of 32 bits plainly: five of them, as a number; the first 64 primes plainly. No conditions. -/
import Derived.Test.YtbfmdingbgdflaaGen
namespace Go.Proofs.Ytbfmdingbgdflaa
open Go.RowKit
set_option linter.unusedVariables false
def lmV (f : Nat → Nat) : Nat → Value := fun i => .int .u64 (f i : Int)
def vl (f : Nat → Nat) : Nat := f 0 + f 1 * 4294967296 + f 2 * 18446744073709551616 + f 3 * 79228162514264337593543950336 + f 4 * 340282366920938463463374607431768211456
def pw : Nat → Nat
  | 0 => 1
  | 1 => 4294967296
  | 2 => 18446744073709551616
  | 3 => 79228162514264337593543950336
  | 4 => 340282366920938463463374607431768211456
  | _ => 1461501637330902918203684832716283019655932542976
theorem pw_succ (k : Nat) (h : k < 5) : pw (k + 1) = pw k * 4294967296 := by
  have : k = 0 ∨ k = 1 ∨ k = 2 ∨ k = 3 ∨ k = 4 := by omega
  rcases this with rfl | rfl | rfl | rfl | rfl <;> rfl
theorem pw_pow (k : Nat) (h : k < 6) : pw k = 2 ^ (32 * k) := by
  have : k = 0 ∨ k = 1 ∨ k = 2 ∨ k = 3 ∨ k = 4 ∨ k = 5 := by omega
  rcases this with rfl | rfl | rfl | rfl | rfl | rfl <;> rfl
theorem put_step (f : Nat → Nat) (k m x y z r q1 q2 : Nat) (hk : k < 5) (hx : f k = x) (hm : m = q1 * 4294967296 + r) (hy : y = x + r) (hz : y = q2 * 4294967296 + z) :
    vl (fun i => if i = k then z else f i) + (q1 + q2) * pw (k + 1) = vl f + m * pw k := by
  have : k = 0 ∨ k = 1 ∨ k = 2 ∨ k = 3 ∨ k = 4 := by omega
  subst hx
  rcases this with rfl | rfl | rfl | rfl | rfl <;> simp [vl, pw] <;> omega
/-- The first k limbs' number. -/
def pl (f : Nat → Nat) : Nat → Nat
  | 0 => 0
  | k + 1 => pl f k + f k * pw k
theorem pl_all (f : Nat → Nat) : pl f 5 = vl f := by simp [pl, vl, pw]
theorem pl_le (f : Nat → Nat) (k : Nat) (h : k < 5) : pl f k + f k * pw k ≤ vl f := by
  have : k = 0 ∨ k = 1 ∨ k = 2 ∨ k = 3 ∨ k = 4 := by omega
  rcases this with rfl | rfl | rfl | rfl | rfl <;> simp [vl, pw, pl] <;> omega
theorem limb_step (f : Nat → Nat) (x lo hi k : Nat) (h : k < 5) (hx : x = hi * 4294967296 + lo) : pl f k * x + f k * lo * pw k + f k * hi * pw (k + 1) = pl f (k + 1) * x := by
  have e : f k * pw k * x = f k * lo * pw k + f k * hi * (pw k * 4294967296) := by
    rw [hx, Nat.mul_add, Nat.add_comm]
    congr 1
    · ac_rfl
    · ac_rfl
  rw [pw_succ k h, pl, Nat.add_mul, e, Nat.add_assoc]
theorem vl_eq {f g : Nat → Nat} (h : ∀ j, j < 5 → f j = g j) : vl f = vl g := by
  unfold vl
  rw [h 0 (by omega), h 1 (by omega), h 2 (by omega), h 3 (by omega), h 4 (by omega)]
theorem vl_cmp {f g : Nat → Nat} (hf : ∀ j, j < 5 → f j < 4294967296) (hg : ∀ j, j < 5 → g j < 4294967296) (k : Nat) (hk : k < 5) (h : ∀ j, k < j → j < 5 → f j = g j) (hne : f k ≠ g k) : (vl f ≤ vl g) ↔ f k < g k := by
  have f0 := hf 0 (by omega)
  have f1 := hf 1 (by omega)
  have f2 := hf 2 (by omega)
  have f3 := hf 3 (by omega)
  have f4 := hf 4 (by omega)
  have g0 := hg 0 (by omega)
  have g1 := hg 1 (by omega)
  have g2 := hg 2 (by omega)
  have g3 := hg 3 (by omega)
  have g4 := hg 4 (by omega)
  unfold vl
  have : k = 0 ∨ k = 1 ∨ k = 2 ∨ k = 3 ∨ k = 4 := by omega
  rcases this with rfl | rfl | rfl | rfl | rfl
  · have e1 := h 1 (by omega) (by omega)
    have e2 := h 2 (by omega) (by omega)
    have e3 := h 3 (by omega) (by omega)
    have e4 := h 4 (by omega) (by omega)
    omega
  · have e2 := h 2 (by omega) (by omega)
    have e3 := h 3 (by omega) (by omega)
    have e4 := h 4 (by omega) (by omega)
    omega
  · have e3 := h 3 (by omega) (by omega)
    have e4 := h 4 (by omega) (by omega)
    omega
  · have e4 := h 4 (by omega) (by omega)
    omega
  · omega
theorem vl_one (k p : Nat) (h : k < 5) : vl (fun i => if i = k then p else 0) = p * pw k := by
  have : k = 0 ∨ k = 1 ∨ k = 2 ∨ k = 3 ∨ k = 4 := by omega
  rcases this with rfl | rfl | rfl | rfl | rfl <;> simp [vl, pw]
def prL : List Nat := [2, 3, 5, 7, 11, 13, 17, 19, 23, 29, 31, 37, 41, 43, 47, 53, 59, 61, 67, 71, 73, 79, 83, 89, 97, 101, 103, 107, 109, 113, 127, 131, 137, 139, 149, 151, 157, 163, 167, 173, 179, 181, 191, 193, 197, 199, 211, 223, 227, 229, 233, 239, 241, 251, 257, 263, 269, 271, 277, 281, 283, 293, 307, 311]
def prF (k : Nat) : List Nat := prL.filter fun x => decide (x < k + 2)
/-- Where the divisors end that are tried. -/
def stp (p : Nat) : List Nat → Nat
  | [] => 0
  | x :: r => if x * x ≤ p then stp p r + 1 else 0
theorem stp_le (p : Nat) : ∀ l, stp p l ≤ l.length
  | [] => Nat.le_refl _
  | x :: r => by rw [stp]; split <;> simp; exact stp_le p r
theorem stp_lt (p : Nat) : ∀ (l : List Nat) (i : Nat), i < stp p l → l.getD i 0 * l.getD i 0 ≤ p
  | [], i, h => by simp [stp] at h
  | x :: r, i, h => by
    rw [stp] at h
    split at h
    · cases i with
      | zero => simpa using ‹x * x ≤ p›
      | succ i => simpa using stp_lt p r i (by omega)
    · omega
theorem stp_at (p : Nat) : ∀ (l : List Nat), stp p l < l.length → ¬ l.getD (stp p l) 0 * l.getD (stp p l) 0 ≤ p
  | [], h => by simp at h
  | x :: r, h => by
    rw [stp] at h ⊢
    split
    · rw [if_pos ‹x * x ≤ p›] at h
      simpa using stp_at p r (by simpa using h)
    · simpa using ‹¬ x * x ≤ p›
def isS (l : List Nat) (p i : Nat) : Bool := (l.take i).all fun x => p % x != 0
theorem isS_succ (l : List Nat) (p i : Nat) (h : i < l.length) : isS l p (i + 1) = (isS l p i && (p % l.getD i 0 != 0)) := by
  unfold isS
  rw [List.take_add_one, List.getElem?_eq_getElem h, List.all_append, List.getD_eq_getElem?_getD, List.getElem?_eq_getElem h]
  simp
theorem pr_steps : ((List.range 310).all fun k => if isS (prF k) (k + 2) (stp (k + 2) (prF k)) then prF (k + 1) == prF k ++ [k + 2] else prF (k + 1) == prF k) = true := by decide +kernel
theorem pr_lens : ((List.range 310).all fun k => decide ((prF k).length < 64)) = true := by decide +kernel
theorem pr_end : prF 310 = prL := by decide +kernel
theorem pr_len : prL.length = 64 := by decide +kernel
theorem pr_bd : (prL.all fun x => decide (2 ≤ x ∧ x ≤ 311)) = true := by decide +kernel
theorem pr_step (k : Nat) (h : k < 310) : (isS (prF k) (k + 2) (stp (k + 2) (prF k)) = true → prF (k + 1) = prF k ++ [k + 2]) ∧ (isS (prF k) (k + 2) (stp (k + 2) (prF k)) = false → prF (k + 1) = prF k) := by
  have := List.all_eq_true.1 pr_steps k (List.mem_range.2 h)
  refine ⟨fun e => ?_, fun e => ?_⟩
  · rw [e] at this; exact eq_of_beq this
  · rw [e] at this; exact eq_of_beq this
theorem pr_short (k : Nat) (h : k < 310) : (prF k).length < 64 := of_decide_eq_true (List.all_eq_true.1 pr_lens k (List.mem_range.2 h))
theorem pr_val (k i : Nat) (h : i < (prF k).length) : 2 ≤ (prF k).getD i 0 ∧ (prF k).getD i 0 ≤ 311 := by
  rw [List.getD_eq_getElem?_getD, List.getElem?_eq_getElem h]
  have hm : (prF k)[i] ∈ prL := (List.mem_filter.1 (List.getElem_mem h)).1
  exact of_decide_eq_true (List.all_eq_true.1 pr_bd _ hm)
def pV (l : List Nat) : List Value := l.map fun (n : Nat) => Value.int .u64 (n : Int)
theorem pV_get (l : List Nat) (i : Nat) (h : i < l.length) : (pV l)[i]? = some (.int .u64 ((l.getD i 0 : Nat) : Int)) := by
  unfold pV
  rw [List.getElem?_map, List.getElem?_eq_getElem h, List.getD_eq_getElem?_getD, List.getElem?_eq_getElem h]; rfl
theorem pV_len (l : List Nat) : (pV l).length = l.length := by simp [pV]
theorem Reads.u64 {w : World} {B n : Nat} {A : Option Addr} {l : List Nat} (h : Reads w B 1 A n (pV l)) {i : Nat} (hi : i < n) : ∃ ad, A = some ad ∧ ad.block < B ∧ w.cell? (ad.add i) = some (.int .u64 ((l.getD i 0 : Nat) : Int)) := by
  obtain ⟨ad, u, e, hb, h1, h2⟩ := h.at_ hi
  have hl : i < l.length := by have := h.1; rw [pV_len] at this; omega
  rw [pV_get l i hl] at h1
  injection h1 with h1
  exact ⟨ad, e, hb, by rw [h2, h1]⟩
end Go.Proofs.Ytbfmdingbgdflaa
