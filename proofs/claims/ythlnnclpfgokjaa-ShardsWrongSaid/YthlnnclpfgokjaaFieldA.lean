/- Walks: field.Times, field.power, field.inverse, field.Over, field.Power, field.Plus return the field's product, powers, inverse, quotient, sum. -/
import Derived.Test.YthlnnclpfgokjaaRows
import Derived.Test.YthlnnclpfgokjaaGf
import Derived.WalkKit
import Derived.ProofKit
import Derived.OpenShut
import Derived.WalkLawsBesides
import Derived.WalkSpells
import Derived.Handy
import Derived.Outline
import Derived.Lib.Hide
import Derived.Laws.BitsAllLaws
namespace Go.Proofs.Ythlnnclpfgokjaa
open Go.RowKit Gf

theorem xt_bits (a : UInt8) : bits .xor .u8 ((a.toNat : Int) * 2 % 256) ((a.toNat : Int) / 128 * 29) = ((xt a).toNat : Int) :=
  eq_of_beq (all256 (fun a => bits .xor .u8 ((a.toNat : Int) * 2 % 256) ((a.toNat : Int) / 128 * 29) == ((xt a).toNat : Int)) (by decide +kernel) a)
theorem xor_bits (a b : UInt8) : bits .xor .u8 (a.toNat : Int) (b.toNat : Int) = ((a ^^^ b).toNat : Int) := by
  rw [u8_xor_nat _ _ a.toNat_lt b.toNat_lt, UInt8.toNat_xor]
theorem and1_u8 (b : Nat) (h : b < 256) : (bits .and .u8 (b : Int) 1 == 1) = decide (b % 2 = 1) := by
  have := u8_and_nat b 1 h (by omega)
  rw [nat_mask1] at this
  rw [show (1 : Int) = ((1 : Nat) : Int) from rfl, this]
  by_cases h1 : b % 2 = 1
  · simp [h1]
  · rw [decide_eq_false h1, beq_eq_false_iff_ne]; omega

theorem times_any (a b : UInt8) (w : World) :
    Calls Try.prog 22 #[.int .u8 (a.toNat : Int), .int .u8 (b.toNat : Int)] w fun e w' => e = .returned (.int .u8 ((gm a b).toNat : Int)) ∧ w = w' := by
  have ha : a.toNat < 256 := a.toNat_lt
  have hb : b.toNat < 256 := b.toNat_lt
  obtain ⟨r, hr⟩ : ∃ r, r = gm a b := ⟨_, rfl⟩
  rw [← hr]
  have Hr := Lib.hid hr
  clear hr
  go_enter Try.func22, Try.ntmps22
  go_wp2
  go_loop [0, 1, 5] (fun x y p => ∃ (n : Nat) (c d : UInt8) (b : Nat), b < 256 ∧ b < 2 ^ n ∧ x = .int .u8 (c.toNat : Int) ∧ y = .int .u8 b ∧ p = .int .u8 (d.toNat : Int) ∧ Hid (r = d ^^^ gmn n c b)) (fun _ y _ => (intOf y).toNat)
  case atStart => exact ⟨8, a, 0, b.toNat, hb, hb, rfl, rfl, rfl, Lib.hid (by rw [UInt8.zero_xor]; exact Hr.out)⟩
  case round =>
    obtain ⟨n, c, d, b, h1, h2, rfl, rfl, rfl, H⟩ := hrel
    have hc : c.toNat < 256 := c.toNat_lt
    have hd : d.toNat < 256 := d.toNat_lt
    by_cases hb0 : 0 < b
    · obtain ⟨m, rfl⟩ : ∃ m, n = m + 1 := by
        cases n with
        | zero => omega
        | succ m => exact ⟨m, rfl⟩
      by_cases h1' : b % 2 = 1
      · have ht : (bits .and .u8 (b : Int) 1 == 1) = true := by rw [and1_u8 b h1]; simpa using h1'
        have X := Lib.hid (xt_bits c)
        have Y := Lib.hid (xor_bits d c)
        clear h1'
        go_wp2
        go_round
        case rel =>
          refine ⟨m, xt c, d ^^^ c, b / 2, by omega, by rw [Nat.pow_succ] at h2; omega, by rw [X.out], by go_num, by rw [Y.out], Lib.hid ?_⟩
          rw [and1_u8 b h1] at ht
          rw [H.out, UInt8.xor_assoc, gmn, if_pos (of_decide_eq_true ht)]
        case measure => simp [intOf]; omega
      · have ht : (bits .and .u8 (b : Int) 1 == 1) = false := by rw [and1_u8 b h1]; simpa using h1'
        have X := Lib.hid (xt_bits c)
        clear h1'
        go_wp2
        go_round
        case rel =>
          refine ⟨m, xt c, d, b / 2, by omega, by rw [Nat.pow_succ] at h2; omega, by rw [X.out], by go_num, rfl, Lib.hid ?_⟩
          rw [and1_u8 b h1] at ht
          rw [H.out, gmn, if_neg (of_decide_eq_false ht), UInt8.zero_xor]
        case measure => simp [intOf]; omega
    · go_wp2
      go_ret
      refine ⟨?_, rfl⟩
      have : b = 0 := by omega
      subst this
      show Ending.returned (.int .u8 (d.toNat : Int)) = _
      rw [H.out]
      have g0 : ∀ n c, gmn n c 0 = 0 := by
        intro n; induction n with
        | zero => intro c; rfl
        | succ n ih => intro c; simp [gmn, ih]
      rw [g0, UInt8.xor_zero]

theorem i64_ofInt (a : Nat) (ha : a < 9223372036854775808) : (BitVec.ofInt 64 (a : Int)).toNat = a := by
  rw [BitVec.ofInt_natCast, BitVec.toNat_ofNat]; exact Nat.mod_eq_of_lt (by omega)
theorem i64_and_nat (a b : Nat) (ha : a < 9223372036854775808) (hb : b < 9223372036854775808) : bits .and .i64 (a : Int) (b : Int) = ((a &&& b : Nat) : Int) := by
  have hx : a &&& b < 2 ^ 63 := Nat.and_lt_two_pow _ (by omega)
  show IntKind.i64.wrap ((BitVec.ofInt 64 (a : Int) &&& BitVec.ofInt 64 (b : Int)).toNat : Int) = _
  rw [BitVec.toNat_and, i64_ofInt a ha, i64_ofInt b hb, IntKind.wrap_i64]
  omega
theorem and1_i64 (b : Nat) (h : b < 9223372036854775808) : (bits .and .i64 (b : Int) 1 == 1) = decide (b % 2 = 1) := by
  have := i64_and_nat b 1 h (by omega)
  rw [nat_mask1] at this
  rw [show (1 : Int) = ((1 : Nat) : Int) from rfl, this]
  by_cases h1 : b % 2 = 1
  · simp [h1]
  · rw [decide_eq_false h1, beq_eq_false_iff_ne]; omega

theorem power_any (a : UInt8) (n : Nat) (hn : n < 256) (w : World) :
    Calls Try.prog 56 #[.int .u8 (a.toNat : Int), .int .i64 (n : Int)] w fun e w' => e = .returned (.int .u8 ((pw a n).toNat : Int)) ∧ w = w' := by
  obtain ⟨r, hr⟩ : ∃ r, r = pw a n := ⟨_, rfl⟩
  rw [← hr]
  have Hr := Lib.hid hr
  clear hr
  go_enter Try.func56, Try.ntmps56
  go_wp2
  go_loop [0, 1, 5] (fun x y p => ∃ (f : Nat) (c d : UInt8) (b : Nat), b < 256 ∧ b < 2 ^ f ∧ x = .int .u8 (c.toNat : Int) ∧ y = .int .i64 b ∧ p = .int .u8 (d.toNat : Int) ∧ Hid (r = sq f d c b)) (fun _ y _ => (intOf y).toNat)
  case atStart => exact ⟨8, a, 1, n, hn, hn, rfl, rfl, rfl, Lib.hid (by rw [sq_pw 8 1 a n hn, one_gm]; exact Hr.out)⟩
  case round =>
    obtain ⟨f, c, d, b, h1, h2, rfl, rfl, rfl, H⟩ := hrel
    by_cases hb0 : 0 < b
    · obtain ⟨m, rfl⟩ : ∃ m, f = m + 1 := by
        cases f with
        | zero => omega
        | succ m => exact ⟨m, rfl⟩
      by_cases h1' : b % 2 = 1
      · have ht : (bits .and .i64 (b : Int) 1 == 1) = true := by rw [and1_i64 b (by omega)]; simpa using h1'
        clear h1'
        go_wp2_with (go_at_call 22; refine (times_any _ _ _).mono ?_; rintro e w' ⟨rfl, rfl⟩)
        go_round
        case rel =>
          refine ⟨m, gm c c, gm d c, b / 2, by omega, by rw [Nat.pow_succ] at h2; omega, rfl, by go_num, rfl, Lib.hid ?_⟩
          rw [and1_i64 b (by omega)] at ht
          rw [H.out, sq, if_neg (by omega), if_pos (of_decide_eq_true ht)]
        case measure => simp [intOf]; omega
      · have ht : (bits .and .i64 (b : Int) 1 == 1) = false := by rw [and1_i64 b (by omega)]; simpa using h1'
        clear h1'
        go_wp2_with (go_at_call 22; refine (times_any _ _ _).mono ?_; rintro e w' ⟨rfl, rfl⟩)
        go_round
        case rel =>
          refine ⟨m, gm c c, d, b / 2, by omega, by rw [Nat.pow_succ] at h2; omega, rfl, by go_num, rfl, Lib.hid ?_⟩
          rw [and1_i64 b (by omega)] at ht
          rw [H.out, sq, if_neg (by omega), if_neg (of_decide_eq_false ht)]
        case measure => simp [intOf]; omega
    · go_wp2
      go_ret
      refine ⟨?_, rfl⟩
      have : b = 0 := by omega
      subst this
      show Ending.returned (.int .u8 (d.toNat : Int)) = _
      rw [H.out]
      cases f <;> simp [sq]

theorem inverse_any (a : UInt8) (w : World) :
    Calls Try.prog 55 #[.int .u8 (a.toNat : Int)] w fun e w' => e = .returned (.int .u8 ((inv a).toNat : Int)) ∧ w = w' := by
  go_enter Try.func55, Try.ntmps55
  go_wp2_with (go_at_call 56; refine (power_any a 254 (by omega) _).mono ?_; rintro e w' ⟨rfl, rfl⟩)
  go_ret
  exact ⟨rfl, rfl⟩

theorem plus_any (a b : UInt8) (w : World) :
    Calls Try.prog 21 #[.int .u8 (a.toNat : Int), .int .u8 (b.toNat : Int)] w fun e w' => e = .returned (.int .u8 ((a ^^^ b).toNat : Int)) ∧ w = w' := by
  have X := Lib.hid (xor_bits a b)
  go_enter Try.func21, Try.ntmps21
  go_wp2
  go_ret
  exact ⟨by rw [← X.out]; rfl, rfl⟩

def overB (a b : UInt8) : UInt8 × Int := if b = 0 then (0, 1) else (gm a (inv b), 0)
def num (p : UInt8 × Int) : Value := .tuple #[.int .u8 (p.1.toNat : Int), .int .i64 p.2]

theorem u8_ne {b : UInt8} (h : ¬ b = 0) : ((b.toNat : Int) == 0) = false := by
  rw [beq_eq_false_iff_ne]; intro h'; exact h (UInt8.toNat_inj.1 (by simpa using h'))

theorem over_any (a b : UInt8) (w : World) :
    Calls Try.prog 18 #[.int .u8 (a.toNat : Int), .int .u8 (b.toNat : Int)] w fun e w' => e = .returned (num (overB a b)) ∧ w = w' := by
  by_cases h : b = 0
  · subst h
    go_enter Try.func18, Try.ntmps18
    go_wp2
    go_ret2
    exact ⟨rfl, rfl⟩
  · have ht := u8_ne h
    have X : Hid (overB a b = (gm a (inv b), 0)) := Lib.hid (by unfold overB; rw [if_neg h])
    clear h
    go_enter Try.func18, Try.ntmps18
    go_wp2_with (first | (go_at_call 55; refine (inverse_any _ _).mono ?_; rintro e w' ⟨rfl, rfl⟩) | (go_at_call 22; refine (times_any _ _ _).mono ?_; rintro e w' ⟨rfl, rfl⟩))
    go_ret2
    exact ⟨by rw [X.out]; rfl, rfl⟩

def powE (n : Int) : Nat := (n % 255).toNat
def powB (a : UInt8) (n : Int) : UInt8 × Int := if n = 0 then (1, 0) else if a = 0 then (if n < 0 then (0, 1) else (0, 0)) else (pw a (powE n), 0)

theorem powG_any (a : UInt8) (n : Int) (h1 : -9223372036854775808 ≤ n) (h2 : n ≤ 9223372036854775807) (w : World) :
    Calls Try.prog 20 #[.int .u8 (a.toNat : Int), .int .i64 n] w fun e w' => e = .returned (num (powB a n)) ∧ w = w' := by
  by_cases h0 : n = 0
  · subst h0
    go_enter Try.func20, Try.ntmps20
    go_wp2
    go_ret2
    exact ⟨rfl, rfl⟩
  · have hn : (n == 0) = false := by rw [beq_eq_false_iff_ne]; exact h0
    by_cases ha : a = 0
    · subst ha
      by_cases hneg : n < 0
      · have X : Hid (powB 0 n = (0, 1)) := Lib.hid (by unfold powB; rw [if_neg h0, if_pos rfl, if_pos hneg])
        clear h0
        go_enter Try.func20, Try.ntmps20
        go_wp2
        go_ret2
        exact ⟨by rw [X.out]; rfl, rfl⟩
      · have X : Hid (powB 0 n = (0, 0)) := Lib.hid (by unfold powB; rw [if_neg h0, if_pos rfl, if_neg hneg])
        clear h0
        go_enter Try.func20, Try.ntmps20
        go_wp2
        go_ret2
        exact ⟨by rw [X.out]; rfl, rfl⟩
    · have ht := u8_ne ha
      have X : Hid (powB a n = (pw a (powE n), 0)) := Lib.hid (by unfold powB; rw [if_neg h0, if_neg ha])
      clear h0 ha
      have e : n.tmod 255 % 255 = ((powE n : Nat) : Int) := by
        unfold powE
        rw [Int.tmod_eq_emod]; split <;> omega
      have b1 : -255 < n.tmod 255 := by rw [Int.tmod_eq_emod]; split <;> omega
      have b2 : n.tmod 255 < 255 := by rw [Int.tmod_eq_emod]; split <;> omega
      have hp : powE n < 256 := by unfold powE; omega
      have E := Lib.hid e
      clear e
      go_enter Try.func20, Try.ntmps20
      go_wp2_with fail
      rw [E.out]
      refine (power_any _ _ hp _).mono ?_; rintro e w' ⟨rfl, rfl⟩
      go_wp2
      go_ret2
      exact ⟨by rw [X.out]; rfl, rfl⟩
end Go.Proofs.Ythlnnclpfgokjaa
