/- Plain: SHA-256 of bytes, as functions; two sums worked out. No program in sight. No conditions. -/
import Derived.Test.YtfoandpcoakcjaaDigP
namespace Go.Proofs.Ytfoandpcoakcjaa
namespace Dig
set_option linter.unusedVariables false
def firstL : List UInt32 := [0x6a09e667, 0xbb67ae85, 0x3c6ef372, 0xa54ff53a, 0x510e527f, 0x9b05688c, 0x1f83d9ab, 0x5be0cd19]
def kL : List UInt32 := [
  0x428a2f98, 0x71374491, 0xb5c0fbcf, 0xe9b5dba5, 0x3956c25b, 0x59f111f1, 0x923f82a4, 0xab1c5ed5,
  0xd807aa98, 0x12835b01, 0x243185be, 0x550c7dc3, 0x72be5d74, 0x80deb1fe, 0x9bdc06a7, 0xc19bf174,
  0xe49b69c1, 0xefbe4786, 0x0fc19dc6, 0x240ca1cc, 0x2de92c6f, 0x4a7484aa, 0x5cb0a9dc, 0x76f988da,
  0x983e5152, 0xa831c66d, 0xb00327c8, 0xbf597fc7, 0xc6e00bf3, 0xd5a79147, 0x06ca6351, 0x14292967,
  0x27b70a85, 0x2e1b2138, 0x4d2c6dfc, 0x53380d13, 0x650a7354, 0x766a0abb, 0x81c2c92e, 0x92722c85,
  0xa2bfe8a1, 0xa81a664b, 0xc24b8b70, 0xc76c51a3, 0xd192e819, 0xd6990624, 0xf40e3585, 0x106aa070,
  0x19a4c116, 0x1e376c08, 0x2748774c, 0x34b0bcb5, 0x391c0cb3, 0x4ed8aa4a, 0x5b9cca4f, 0x682e6ff3,
  0x748f82ee, 0x78a5636f, 0x84c87814, 0x8cc70208, 0x90befffa, 0xa4506ceb, 0xbef9a3f7, 0xc67178f2]
def firstF : Nat → UInt32 := fun i => firstL.getD i 0
def kF : Nat → UInt32 := fun i => kL.getD i 0
/-- The eight numbers behind n blocks of bytes. -/
def hsF (F : Nat → UInt8) : Nat → Nat → UInt32
  | 0 => firstF
  | n + 1 => roundsF (hsF F n) kF (fun i => F (64 * n + i))
theorem ldF_congr {b c : Nat → UInt8} : ∀ i, (∀ j, j < i → b j = c j) → ldF b i = ldF c i
  | 0, _ => rfl
  | i + 1, h => by rw [ldF, ldF, ldF_congr i (fun j hj => h j (by omega)), h i (by omega)]
theorem rounds_congr (h k : Nat → UInt32) {b c : Nat → UInt8} (e : ∀ j, j < 64 → b j = c j) : roundsF h k b = roundsF h k c := by
  unfold roundsF; rw [ldF_congr 64 e]
theorem hs_congr {F G : Nat → UInt8} : ∀ n, (∀ j, j < 64 * n → F j = G j) → hsF F n = hsF G n
  | 0, _ => rfl
  | n + 1, h => by
    rw [hsF, hsF, hs_congr n (fun j hj => h j (by omega))]
    exact rounds_congr _ _ fun j hj => h _ (by omega)
/-- The padded bytes of n bytes, t blocks of them. -/
def padF (F : Nat → UInt8) (n t : Nat) : Nat → UInt8 := fun j =>
  if j < n then F j else if j = n then 128 else if j < 64 * t - 8 then 0 else UInt8.ofNat (8 * n % 18446744073709551616 / 2 ^ (8 * (64 * t - 1 - j)))
def blk (n : Nat) : Nat := (n + 8) / 64 + 1
/-- The sum of n bytes. -/
def shaF (F : Nat → UInt8) (n : Nat) : Nat → UInt8 := fun i => UInt8.ofNat ((hsF (padF F n (blk n)) (blk n) (i / 4)).toNat / 2 ^ (24 - 8 * (i % 4)))
theorem shaF_congr {F G : Nat → UInt8} {n : Nat} (h : ∀ j, j < n → F j = G j) : shaF F n = shaF G n := by
  have e : padF F n (blk n) = padF G n (blk n) := by
    funext j; unfold padF
    by_cases hj : j < n
    · rw [if_pos hj, if_pos hj, h j hj]
    · rw [if_neg hj, if_neg hj]
  unfold shaF; rw [e]
/-! ### Worked out -/
def frc {α : Type} (x : UInt32) (f : UInt32 → α) : α := match x.toNat with
  | 0 => f 0
  | n + 1 => f (UInt32.ofNat (n + 1))
theorem frc_eq {α : Type} (x : UInt32) (f : UInt32 → α) : frc x f = f x := by
  unfold frc
  have h : UInt32.ofNat x.toNat = x := UInt32.ofNat_toNat
  split
  · rename_i e; rw [e] at h; rw [← h]; rfl
  · rename_i n e; rw [e] at h; rw [h]
def stL (w v : List UInt32) : Nat → List UInt32 × List UInt32
  | 0 => (w, v)
  | t + 1 => match stL w v t with
    | ([w0, w1, w2, w3, w4, w5, w6, w7, w8, w9, w10, w11, w12, w13, w14, w15], [a, b, c, d, e, f, g, h]) =>
      frc (sg1 w14 + w9 + sg0 w1 + w0) fun n =>
      frc (h + rr3 e 6 11 25 + (e &&& f ^^^ ~~~ e &&& g) + kF t + w0) fun t1 =>
      frc (t1 + (rr3 a 2 13 22 + (a &&& b ^^^ a &&& c ^^^ b &&& c))) fun p =>
      frc (d + t1) fun q =>
      ([w1, w2, w3, w4, w5, w6, w7, w8, w9, w10, w11, w12, w13, w14, w15, n], [p, a, b, c, q, e, f, g])
    | x => x
theorem scF_stay (f : Nat → UInt32) (t j : Nat) (hj : j < t + 16) : ∀ d, scF f (t + d) j = scF f t j
  | 0 => rfl
  | d + 1 => by
    rw [show t + (d + 1) = (t + d) + 1 from rfl, scF]
    unfold upd
    rw [if_neg (by omega), scF_stay f t j hj d]
def tol (n : Nat) (f : Nat → UInt32) : List UInt32 := (List.range n).map f
theorem stL_eq (f v : Nat → UInt32) : ∀ t, t ≤ 64 → stL (tol 16 f) (tol 8 v) t = (tol 16 (fun j => scF f t (t + j)), tol 8 (rdsF kF (fun t => scF f t t) v t))
  | 0, _ => by simp [stL, scF, rdsF]
  | t + 1, ht => by
    rw [stL, stL_eq f v t (by omega)]
    simp only [tol, List.range, List.range.loop, List.map_cons, List.map_nil, frc_eq]
    refine Prod.ext ?_ ?_
    · simp only [scF, upd]
      simp [Nat.add_assoc, Nat.add_comm 1]
    · simp only [rdsF, rdF, t1F, t2F]
      rfl
/-- One block's numbers, worked out by lists. -/
theorem rounds_list (h : Nat → UInt32) (b : Nat → UInt8) (w : List UInt32) (hw : tol 16 (ldF b 64) = w) (i : Nat) (hi : i < 8) :
    roundsF h kF b i = h i + (stL w (tol 8 h) 64).2.getD i 0 := by
  rw [← hw, stL_eq _ _ 64 (by omega)]
  have e : ∀ t, t ≤ 64 → rdsF kF (scF (ldF b 64) 48) h t = rdsF kF (fun t => scF (ldF b 64) t t) h t := by
    intro t ht
    induction t with
    | zero => rfl
    | succ t ih =>
      rw [rdsF, rdsF, ih (by omega)]
      congr 1
      by_cases h48 : t ≤ 48
      · obtain ⟨d, hd⟩ : ∃ d, 48 = t + d := ⟨48 - t, by omega⟩
        rw [hd, scF_stay _ t t (by omega) d]
      · obtain ⟨d, hd⟩ : ∃ d, t = 48 + d := ⟨t - 48, by omega⟩
        show _ = scF (ldF b 64) t t
        conv => rhs; rw [hd, scF_stay _ 48 (48 + d) (by omega) d]
        rw [hd]
  unfold roundsF
  rw [e 64 (by omega)]
  simp [tol, List.getD, hi]
def abcF : Nat → UInt8 := fun i => [97, 98, 99].getD i 0
theorem sha_abc : (List.range 32).map (shaF abcF 3) = [0xba, 0x78, 0x16, 0xbf, 0x8f, 0x01, 0xcf, 0xea, 0x41, 0x41, 0x40, 0xde, 0x5d, 0xae, 0x22, 0x23, 0xb0, 0x03, 0x61, 0xa3, 0x96, 0x17, 0x7a, 0x9c, 0xb4, 0x10, 0xff, 0x61, 0xf2, 0x00, 0x15, 0xad] := by
  have h : ∀ i, i < 8 → hsF (padF abcF 3 (blk 3)) (blk 3) i = firstF i + (stL [0x61626380, 0, 0, 0, 0, 0, 0, 0, 0, 0, 0, 0, 0, 0, 0, 24] (tol 8 firstF) 64).2.getD i 0 := fun i hi =>
    rounds_list firstF _ _ (by decide +kernel) i hi
  have e : ∀ i, i < 32 → shaF abcF 3 i = UInt8.ofNat ((firstF (i / 4) + (stL [0x61626380, 0, 0, 0, 0, 0, 0, 0, 0, 0, 0, 0, 0, 0, 0, 24] (tol 8 firstF) 64).2.getD (i / 4) 0).toNat / 2 ^ (24 - 8 * (i % 4))) := fun i hi => by
    unfold shaF; rw [h _ (by omega)]
  rw [List.map_congr_left fun i hi => e i (by simpa using hi)]
  decide +kernel
theorem sha_none (F : Nat → UInt8) : (List.range 32).map (shaF F 0) = [0xe3, 0xb0, 0xc4, 0x42, 0x98, 0xfc, 0x1c, 0x14, 0x9a, 0xfb, 0xf4, 0xc8, 0x99, 0x6f, 0xb9, 0x24, 0x27, 0xae, 0x41, 0xe4, 0x64, 0x9b, 0x93, 0x4c, 0xa4, 0x95, 0x99, 0x1b, 0x78, 0x52, 0xb8, 0x55] := by
  rw [shaF_congr (F := F) (G := fun _ => 0) (fun j hj => by omega)]
  have h : ∀ i, i < 8 → hsF (padF (fun _ => 0) 0 (blk 0)) (blk 0) i = firstF i + (stL [0x80000000, 0, 0, 0, 0, 0, 0, 0, 0, 0, 0, 0, 0, 0, 0, 0] (tol 8 firstF) 64).2.getD i 0 := fun i hi =>
    rounds_list firstF _ _ (by decide +kernel) i hi
  have e : ∀ i, i < 32 → shaF (fun _ => 0) 0 i = UInt8.ofNat ((firstF (i / 4) + (stL [0x80000000, 0, 0, 0, 0, 0, 0, 0, 0, 0, 0, 0, 0, 0, 0, 0] (tol 8 firstF) 64).2.getD (i / 4) 0).toNat / 2 ^ (24 - 8 * (i % 4))) := fun i hi => by
    unfold shaF; rw [h _ (by omega)]
  rw [List.map_congr_left fun i hi => e i (by simpa using hi)]
  decide +kernel
end Dig
end Go.Proofs.Ytfoandpcoakcjaa
