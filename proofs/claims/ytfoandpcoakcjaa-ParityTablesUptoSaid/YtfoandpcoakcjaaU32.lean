/- Numbers of 32 bits as the walks spell them; turning; walk: bits.RotateLeft32. -/
import Derived.Test.YtfoandpcoakcjaaGen
namespace Go.Proofs.Ytfoandpcoakcjaa
open Go.RowKit
set_option linter.unusedVariables false
/-- To the right, round. -/
def rr (x : UInt32) (n : Nat) : UInt32 := x >>> UInt32.ofNat n ||| x <<< UInt32.ofNat (32 - n)
theorem u32_wrap (n : Nat) : IntKind.u32.wrap (n : Int) = ((UInt32.ofNat n).toNat : Int) := by
  rw [IntKind.wrap_u32', UInt32.toNat_ofNat']; omega
theorem u32_addW (a b : UInt32) : IntKind.u32.wrap ((a.toNat : Int) + (b.toNat : Int)) = ((a + b).toNat : Int) := by
  rw [IntKind.wrap_u32', UInt32.toNat_add]; omega
theorem u32_xorW (a b : UInt32) : bits .xor .u32 (a.toNat : Int) (b.toNat : Int) = ((a ^^^ b).toNat : Int) := by
  rw [u32_xor_nat _ _ a.toNat_lt b.toNat_lt, UInt32.toNat_xor]
theorem u32_andW (a b : UInt32) : bits .and .u32 (a.toNat : Int) (b.toNat : Int) = ((a &&& b).toNat : Int) := by
  rw [u32_and_nat _ _ a.toNat_lt b.toNat_lt, UInt32.toNat_and]
theorem u32_orW (a b : UInt32) : bits .or .u32 (a.toNat : Int) (b.toNat : Int) = ((a ||| b).toNat : Int) := by
  rw [u32_or_nat _ _ a.toNat_lt b.toNat_lt, UInt32.toNat_or]
theorem u32_shrW (a : UInt32) (n : Nat) (hn : n < 32) : (a.toNat : Int) / 2 ^ n = ((a >>> UInt32.ofNat n).toNat : Int) := by
  rw [UInt32.toNat_shiftRight, UInt32.toNat_ofNat', Nat.shiftRight_eq_div_pow, Nat.mod_eq_of_lt (by omega : n % 2 ^ 32 < 32), Nat.mod_eq_of_lt (by omega : n < 2 ^ 32)]
  simp
theorem u32_shlW (a : UInt32) (n : Nat) (hn : n < 32) : IntKind.u32.wrap ((a.toNat : Int) * 2 ^ n) = ((a <<< UInt32.ofNat n).toNat : Int) := by
  rw [UInt32.toNat_shiftLeft, UInt32.toNat_ofNat', Nat.shiftLeft_eq, Nat.mod_eq_of_lt (by omega : n % 2 ^ 32 < 32), Nat.mod_eq_of_lt (by omega : n < 2 ^ 32), IntKind.wrap_u32']
  simp
theorem u32_add (a b : UInt32) : ((a.toNat : Int) + (b.toNat : Int)) % 4294967296 = ((a + b).toNat : Int) := by rw [UInt32.toNat_add]; omega
theorem u32_shl (a : UInt32) (n : Nat) (hn : n < 32) : (a.toNat : Int) * 2 ^ n % 4294967296 = ((a <<< UInt32.ofNat n).toNat : Int) := by rw [← u32_shlW a n hn, IntKind.wrap_u32']
theorem rot_count (n : Nat) (h0 : 0 < n) (h : n < 32) : bits .and .u64 (IntKind.u64.wrap (-(n : Int))) 31 = ((32 - n : Nat) : Int) := by
  have e : IntKind.u64.wrap (-(n : Int)) = ((18446744073709551616 - n : Nat) : Int) := by rw [IntKind.wrap_u64]; omega
  rw [e]
  have := u64_and_nat (18446744073709551616 - n) 31 (by omega) (by omega)
  rw [nat_mask5] at this
  rw [show ((31 : Nat) : Int) = 31 from rfl] at this
  rw [this]
  omega
theorem rotl_any (x : UInt32) (k : Int) (n : Nat) (hk : k = -(n : Int)) (h0 : 0 < n) (h : n < 32) (w : World) :
    Calls Try.prog 118 #[.int .u32 (x.toNat : Int), .int .i64 k] w fun e w' => e = .returned (.int .u32 ((rr x n).toNat : Int)) ∧ w = w' := by
  subst hk
  have hx : x.toNat < 4294967296 := x.toNat_lt
  have R := rot_count n h0 h
  obtain ⟨m, hm⟩ : ∃ m, 32 - n = m := ⟨_, rfl⟩
  rw [hm] at R
  have A := Lib.hid (u32_shl x m (by omega))
  have B := Lib.hid (u32_shrW x n h)
  have C := Lib.hid (u32_orW (x <<< UInt32.ofNat m) (x >>> UInt32.ofNat n))
  have D : Hid (rr x n = x <<< UInt32.ofNat m ||| x >>> UInt32.ofNat n) := Lib.hid (by unfold rr; rw [hm, UInt32.or_comm])
  have hs : (32 : Int) - (m : Int) = (n : Int) := by omega
  go_enter Try.func118, Try.ntmps118
  go_wp2
  go_ret
  refine ⟨?_, rfl⟩
  show Ending.returned (.int .u32 (bits .or .u32 ((x.toNat : Int) * 2 ^ m % 4294967296) ((x.toNat : Int) / 2 ^ n))) = _
  rw [A.out, B.out, C.out, D.out]
/-- Three turns laid over one another. -/
def rr3 (x : UInt32) (a b c : Nat) : UInt32 := rr x a ^^^ rr x b ^^^ rr x c
theorem right_any (x : UInt32) (a b c : Nat) (ha0 : 0 < a) (ha : a < 32) (hb0 : 0 < b) (hb : b < 32) (hc0 : 0 < c) (hc : c < 32) (w : World) :
    Calls Try.prog 117 #[.int .u32 (x.toNat : Int), .int .i64 (a : Int), .int .i64 (b : Int), .int .i64 (c : Int)] w fun e w' => e = .returned (.int .u32 ((rr3 x a b c).toNat : Int)) ∧ w = w' := by
  have X1 := Lib.hid (u32_xorW (rr x a) (rr x b))
  have X2 := Lib.hid (u32_xorW (rr x a ^^^ rr x b) (rr x c))
  go_enter Try.func117, Try.ntmps117
  go_wp2_with fail
  refine (rotl_any x _ a rfl ha0 ha _).mono ?_; rintro e w' ⟨rfl, rfl⟩
  go_wp2_with fail
  refine (rotl_any x _ b rfl hb0 hb _).mono ?_; rintro e w' ⟨rfl, rfl⟩
  go_wp2_with fail
  refine (rotl_any x _ c rfl hc0 hc _).mono ?_; rintro e w' ⟨rfl, rfl⟩
  go_wp2
  go_ret
  refine ⟨?_, rfl⟩
  show Ending.returned (.int .u32 (bits .xor .u32 (bits .xor .u32 ((rr x a).toNat : Int) ((rr x b).toNat : Int)) ((rr x c).toNat : Int))) = _
  rw [X1.out, X2.out]; rfl
theorem turn_any (x : UInt32) (n : Nat) (h0 : 0 < n) (h : n < 32) (w : World) :
    Calls Try.prog 83 #[.int .u32 (x.toNat : Int), .int .i64 (n : Int)] w fun e w' => e = .returned (.int .u32 ((rr x n).toNat : Int)) ∧ ∃ k, w' = w.drewN k := by
  have hx : x.toNat < 4294967296 := x.toNat_lt
  have A := Lib.hid (u32_shl x (32 - n) (by omega))
  have B := Lib.hid (u32_shrW x n h)
  have C := Lib.hid (u32_orW (x >>> UInt32.ofNat n) (x <<< UInt32.ofNat (32 - n)))
  obtain ⟨m, hm⟩ : ∃ m, 32 - n = m := ⟨_, rfl⟩
  rw [hm] at A C
  have HM := Lib.hid hm
  have hs : (32 : Int) - (n : Int) = (m : Int) := by omega
  have hsw : IntKind.i64.wrap (m : Int) = (m : Int) := IntWalk.i64_in _ (by omega)
  clear hm
  go_enter Try.func83, Try.ntmps83
  go_wp2
  go_quiet (fail)
  go_wp2
  go_ret
  refine ⟨?_, _, rfl⟩
  show Ending.returned (.int .u32 (bits .or .u32 ((x.toNat : Int) / 2 ^ n) ((x.toNat : Int) * 2 ^ m % 4294967296))) = _
  rw [B.out, A.out, C.out]; unfold rr; rw [HM.out]
end Go.Proofs.Ytfoandpcoakcjaa
