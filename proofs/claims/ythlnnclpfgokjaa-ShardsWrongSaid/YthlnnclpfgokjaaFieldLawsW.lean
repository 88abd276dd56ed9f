/- Walk: the law FieldLaws returns true. -/
import Derived.Test.YthlnnclpfgokjaaAwake
namespace Go.Proofs.Ythlnnclpfgokjaa
open Go.RowKit Gf
set_option linter.unusedVariables false
theorem powB_ne (a : UInt8) (h : a ≠ 0) (n : Int) : powB a n = (pw a (powE n), 0) := by
  unfold powB
  by_cases h0 : n = 0
  · rw [if_pos h0, h0]; rfl
  · rw [if_neg h0, if_neg h]
theorem pw_sum (a : UInt8) (h : a ≠ 0) (n m : Int) : pw a (powE (n + m)) = gm (pw a (powE n)) (pw a (powE m)) := by
  rw [← pw_add, ← pw_mod a h (powE n + powE m)]
  congr 1
  unfold powE
  omega
theorem u8_ne' {b : UInt8} (h : ¬ b = 0) : ((b.toNat : Int) != 0) = true := by
  rw [bne, u8_ne h]; rfl
theorem tmod_bd (n : Int) (k : Int) (hk : 0 < k) : -k < n.tmod k ∧ n.tmod k < k := by
  have h2 : 0 ≤ n % k := Int.emod_nonneg _ (by omega)
  have h3 : n % k < k := Int.emod_lt_of_pos _ hk
  have h4 : (k.natAbs : Int) = k := by omega
  rw [Int.tmod_eq_emod]
  split
  · exact ⟨by omega, by omega⟩
  · rename_i h
    have : n % k ≠ 0 := fun e => h (Or.inr (Int.dvd_of_emod_eq_zero e))
    rw [h4]; exact ⟨by omega, by omega⟩

theorem plus_x (x y : Int) (a b : UInt8) (hx : x = (a.toNat : Int)) (hy : y = (b.toNat : Int)) (w : World) :
    Calls Try.prog 21 #[.int .u8 x, .int .u8 y] w fun e w' => e = .returned (.int .u8 ((a ^^^ b).toNat : Int)) ∧ w = w' := by
  subst hx hy; exact plus_any a b w

set_option maxRecDepth 100000 in
set_option maxHeartbeats 1000000 in
theorem fieldLaws_walk (a b c : UInt8) (n m : Int) (h1 : -9223372036854775808 ≤ n) (h2 : n ≤ 9223372036854775807) (h3 : -9223372036854775808 ≤ m) (h4 : m ≤ 9223372036854775807) (w : World) :
    Calls Try.prog 5 #[.int .u8 (a.toNat : Int), .int .u8 (b.toNat : Int), .int .u8 (c.toNat : Int), .int .i64 n, .int .i64 m] w fun e w' => e = .returned (.bool true) ∧ Below w.heap.size w w' := by
  have tn := tmod_bd n 100000 (by omega)
  have tm := tmod_bd m 100000 (by omega)
  obtain ⟨b1, b2⟩ := tn
  obtain ⟨b3, b4⟩ := tm
  have O : Hid (overB (gm a b) b = if b = 0 then (0, 1) else (a, 0)) := Lib.hid (by
    unfold overB
    by_cases h : b = 0
    · rw [if_pos h, if_pos h]
    · rw [if_neg h, if_neg h, gm_assoc, inv_gm b h, gm_one])
  have Z : Hid (∀ x : UInt8, x ^^^ x = 0) := Lib.hid (fun _ => UInt8.xor_self)
  have hab : ((((gm a b).toNat : Int) == 0) == (((a.toNat : Int) == 0) || ((b.toNat : Int) == 0))) = true := by
    rw [beq_iff_eq, Bool.eq_iff_iff]
    have e0 : ∀ x : UInt8, ((x.toNat : Int) == 0) = true ↔ x = 0 := fun x => by
      rw [beq_iff_eq]; exact ⟨fun h => UInt8.toNat_inj.1 (by simpa using h), fun h => by rw [h]; rfl⟩
    rw [Bool.or_eq_true, e0, e0, e0]; exact gm_eq_zero a b
  have HAB := Lib.hid hab
  clear hab
  by_cases ha : a = 0
  · by_cases hb : b = 0
    · subst ha
      subst hb
      have O' : Hid (overB (gm 0 0) 0 = (0, 1)) := Lib.hid (by rw [O.out, if_pos rfl])
      have G : Hid (gm 0 0 = 0) := Lib.hid (by first | exact zero_gm _ | exact gm_zero _)
      clear O
      go_enter Try.func5, Try.ntmps5
      go_wp2_with fail
      refine (awake_any _).mono ?_; rintro e w1 ⟨rfl, hb1⟩
      have HB := Lib.hid hb1
      clear hb1
      go_wp2_with fail
      refine (times_x _ _ 0 0 (by first | rfl | simp) (by first | rfl | simp) _).mono ?_; rintro e w' ⟨rfl, rfl⟩
      go_wp2_with fail
      refine (over_x _ _ (gm 0 0) 0 (by first | rfl | simp) (by first | rfl | simp) _).mono ?_; rintro e w' ⟨rfl, rfl⟩; rw [O'.out, num]
      go_wp2_with fail
      refine (times_x _ _ 0 0 (by first | rfl | simp) (by first | rfl | simp) _).mono ?_; rintro e w' ⟨rfl, rfl⟩
      go_wp2_with fail
      refine (times_x _ _ 0 c (by first | rfl | simp) (by first | rfl | simp) _).mono ?_; rintro e w' ⟨rfl, rfl⟩
      go_wp2_with fail
      refine (times_x _ _ 0 0 (by first | rfl | simp) (by first | rfl | simp) _).mono ?_; rintro e w' ⟨rfl, rfl⟩; rw [gm_comm 0 0]
      go_wp2_with fail
      refine (times_x _ _ (gm 0 0) c (by first | rfl | simp) (by first | rfl | simp) _).mono ?_; rintro e w' ⟨rfl, rfl⟩; rw [gm_assoc]
      go_wp2_with fail
      refine (times_x _ _ 0 c (by first | rfl | simp) (by first | rfl | simp) _).mono ?_; rintro e w' ⟨rfl, rfl⟩
      go_wp2_with fail
      refine (times_x _ _ 0 (gm 0 c) (by first | rfl | simp) (by first | rfl | simp) _).mono ?_; rintro e w' ⟨rfl, rfl⟩
      go_wp2_with fail
      refine (plus_x _ _ 0 c (by first | rfl | simp) (by first | rfl | simp) _).mono ?_; rintro e w' ⟨rfl, rfl⟩
      go_wp2_with fail
      refine (times_x _ _ 0 (0 ^^^ c) (by first | rfl | simp) (by first | rfl | simp) _).mono ?_; rintro e w' ⟨rfl, rfl⟩; rw [gm_xor_right]
      go_wp2_with fail
      refine (plus_x _ _ (gm 0 0) (gm 0 c) (by first | rfl | simp) (by first | rfl | simp) _).mono ?_; rintro e w' ⟨rfl, rfl⟩
      go_wp2_with fail
      refine (times_x _ _ 0 1 (by first | rfl | simp) rfl _).mono ?_; rintro e w' ⟨rfl, rfl⟩; rw [gm_one]
      go_wp2_with fail
      refine (plus_x _ _ 0 0 (by first | rfl | simp) (by first | rfl | simp) _).mono ?_; rintro e w' ⟨rfl, rfl⟩; rw [Z.out]
      rw [G.out]
      go_wp2
      go_ret
      exact ⟨rfl, HB.out⟩
    · subst ha
      have tb := u8_ne hb
      have tb' := u8_ne' hb
      have O' : Hid (overB (gm 0 b) b = (0, 0)) := Lib.hid (by rw [O.out, if_neg hb])
      have G : Hid (gm 0 b = 0) := Lib.hid (by first | exact zero_gm _ | exact gm_zero _)
      clear hb O
      go_enter Try.func5, Try.ntmps5
      go_wp2_with fail
      refine (awake_any _).mono ?_; rintro e w1 ⟨rfl, hb1⟩
      have HB := Lib.hid hb1
      clear hb1
      go_wp2_with fail
      refine (times_x _ _ 0 b (by first | rfl | simp) (by first | rfl | simp) _).mono ?_; rintro e w' ⟨rfl, rfl⟩
      go_wp2_with fail
      refine (over_x _ _ (gm 0 b) b (by first | rfl | simp) (by first | rfl | simp) _).mono ?_; rintro e w' ⟨rfl, rfl⟩; rw [O'.out, num]
      go_wp2_with fail
      refine (times_x _ _ 0 b (by first | rfl | simp) (by first | rfl | simp) _).mono ?_; rintro e w' ⟨rfl, rfl⟩
      go_wp2_with fail
      refine (times_x _ _ 0 c (by first | rfl | simp) (by first | rfl | simp) _).mono ?_; rintro e w' ⟨rfl, rfl⟩
      go_wp2_with fail
      refine (times_x _ _ b 0 (by first | rfl | simp) (by first | rfl | simp) _).mono ?_; rintro e w' ⟨rfl, rfl⟩; rw [gm_comm b 0]
      go_wp2_with fail
      refine (times_x _ _ (gm 0 b) c (by first | rfl | simp) (by first | rfl | simp) _).mono ?_; rintro e w' ⟨rfl, rfl⟩; rw [gm_assoc]
      go_wp2_with fail
      refine (times_x _ _ b c (by first | rfl | simp) (by first | rfl | simp) _).mono ?_; rintro e w' ⟨rfl, rfl⟩
      go_wp2_with fail
      refine (times_x _ _ 0 (gm b c) (by first | rfl | simp) (by first | rfl | simp) _).mono ?_; rintro e w' ⟨rfl, rfl⟩
      go_wp2_with fail
      refine (plus_x _ _ b c (by first | rfl | simp) (by first | rfl | simp) _).mono ?_; rintro e w' ⟨rfl, rfl⟩
      go_wp2_with fail
      refine (times_x _ _ 0 (b ^^^ c) (by first | rfl | simp) (by first | rfl | simp) _).mono ?_; rintro e w' ⟨rfl, rfl⟩; rw [gm_xor_right]
      go_wp2_with fail
      refine (plus_x _ _ (gm 0 b) (gm 0 c) (by first | rfl | simp) (by first | rfl | simp) _).mono ?_; rintro e w' ⟨rfl, rfl⟩
      go_wp2_with fail
      refine (times_x _ _ 0 1 (by first | rfl | simp) rfl _).mono ?_; rintro e w' ⟨rfl, rfl⟩; rw [gm_one]
      go_wp2_with fail
      refine (plus_x _ _ 0 0 (by first | rfl | simp) (by first | rfl | simp) _).mono ?_; rintro e w' ⟨rfl, rfl⟩; rw [Z.out]
      rw [G.out]
      go_wp2
      go_ret
      exact ⟨rfl, HB.out⟩
  · by_cases hb : b = 0
    · have ta := u8_ne ha
      have ta' := u8_ne' ha
      subst hb
      have O' : Hid (overB (gm a 0) 0 = (0, 1)) := Lib.hid (by rw [O.out, if_pos rfl])
      have G : Hid (gm a 0 = 0) := Lib.hid (by first | exact zero_gm _ | exact gm_zero _)
      have P := Lib.hid (powB_ne a ha)
      have S := Lib.hid (pw_sum a ha)
      clear ha O
      go_enter Try.func5, Try.ntmps5
      go_wp2_with fail
      refine (awake_any _).mono ?_; rintro e w1 ⟨rfl, hb1⟩
      have HB := Lib.hid hb1
      clear hb1
      go_wp2_with fail
      refine (times_x _ _ a 0 (by first | rfl | simp) (by first | rfl | simp) _).mono ?_; rintro e w' ⟨rfl, rfl⟩
      go_wp2_with fail
      refine (over_x _ _ (gm a 0) 0 (by first | rfl | simp) (by first | rfl | simp) _).mono ?_; rintro e w' ⟨rfl, rfl⟩; rw [O'.out, num]
      go_wp2_with fail
      refine (powG_any a (n.tmod 100000) (by omega) (by omega) _).mono ?_; rintro e w' ⟨rfl, rfl⟩; rw [P.out, num]
      go_wp2_with fail
      refine (powG_any a (m.tmod 100000) (by omega) (by omega) _).mono ?_; rintro e w' ⟨rfl, rfl⟩; rw [P.out, num]
      go_wp2_with fail
      refine (powG_any a (n.tmod 100000 + m.tmod 100000) (by omega) (by omega) _).mono ?_; rintro e w' ⟨rfl, rfl⟩; rw [P.out, num, S.out]
      go_wp2_with fail
      refine (times_x _ _ _ _ (by first | rfl | simp) (by first | rfl | simp) _).mono ?_; rintro e w' ⟨rfl, rfl⟩
      go_wp2_with fail
      refine (times_x _ _ a 0 (by first | rfl | simp) (by first | rfl | simp) _).mono ?_; rintro e w' ⟨rfl, rfl⟩
      go_wp2_with fail
      refine (times_x _ _ a c (by first | rfl | simp) (by first | rfl | simp) _).mono ?_; rintro e w' ⟨rfl, rfl⟩
      go_wp2_with fail
      refine (times_x _ _ 0 a (by first | rfl | simp) (by first | rfl | simp) _).mono ?_; rintro e w' ⟨rfl, rfl⟩; rw [gm_comm 0 a]
      go_wp2_with fail
      refine (times_x _ _ (gm a 0) c (by first | rfl | simp) (by first | rfl | simp) _).mono ?_; rintro e w' ⟨rfl, rfl⟩; rw [gm_assoc]
      go_wp2_with fail
      refine (times_x _ _ 0 c (by first | rfl | simp) (by first | rfl | simp) _).mono ?_; rintro e w' ⟨rfl, rfl⟩
      go_wp2_with fail
      refine (times_x _ _ a (gm 0 c) (by first | rfl | simp) (by first | rfl | simp) _).mono ?_; rintro e w' ⟨rfl, rfl⟩
      go_wp2_with fail
      refine (plus_x _ _ 0 c (by first | rfl | simp) (by first | rfl | simp) _).mono ?_; rintro e w' ⟨rfl, rfl⟩
      go_wp2_with fail
      refine (times_x _ _ a (0 ^^^ c) (by first | rfl | simp) (by first | rfl | simp) _).mono ?_; rintro e w' ⟨rfl, rfl⟩; rw [gm_xor_right]
      go_wp2_with fail
      refine (plus_x _ _ (gm a 0) (gm a c) (by first | rfl | simp) (by first | rfl | simp) _).mono ?_; rintro e w' ⟨rfl, rfl⟩
      go_wp2_with fail
      refine (times_x _ _ a 1 (by first | rfl | simp) rfl _).mono ?_; rintro e w' ⟨rfl, rfl⟩; rw [gm_one]
      go_wp2_with fail
      refine (plus_x _ _ a a (by first | rfl | simp) (by first | rfl | simp) _).mono ?_; rintro e w' ⟨rfl, rfl⟩; rw [Z.out]
      rw [G.out]
      go_wp2
      go_ret
      exact ⟨rfl, HB.out⟩
    · have ta := u8_ne ha
      have ta' := u8_ne' ha
      have tb := u8_ne hb
      have tb' := u8_ne' hb
      have O' : Hid (overB (gm a b) b = (a, 0)) := Lib.hid (by rw [O.out, if_neg hb])
      have G : Hid ((((gm a b).toNat : Int) == 0) = false) := Lib.hid (by
        have := HAB.out
        rw [ta, tb] at this
        simpa using this)
      have P := Lib.hid (powB_ne a ha)
      have S := Lib.hid (pw_sum a ha)
      clear ha hb O
      go_enter Try.func5, Try.ntmps5
      go_wp2_with fail
      refine (awake_any _).mono ?_; rintro e w1 ⟨rfl, hb1⟩
      have HB := Lib.hid hb1
      clear hb1
      go_wp2_with fail
      refine (times_any a b _).mono ?_; rintro e w' ⟨rfl, rfl⟩
      go_wp2_with fail
      refine (over_any (gm a b) b _).mono ?_; rintro e w' ⟨rfl, rfl⟩; rw [O'.out, num]
      go_wp2_with fail
      refine (powG_any a (n.tmod 100000) (by omega) (by omega) _).mono ?_; rintro e w' ⟨rfl, rfl⟩; rw [P.out, num]
      go_wp2_with fail
      refine (powG_any a (m.tmod 100000) (by omega) (by omega) _).mono ?_; rintro e w' ⟨rfl, rfl⟩; rw [P.out, num]
      go_wp2_with fail
      refine (powG_any a (n.tmod 100000 + m.tmod 100000) (by omega) (by omega) _).mono ?_; rintro e w' ⟨rfl, rfl⟩; rw [P.out, num, S.out]
      go_wp2_with fail
      refine (times_any _ _ _).mono ?_; rintro e w' ⟨rfl, rfl⟩
      go_wp2_with fail
      refine (times_any a b _).mono ?_; rintro e w' ⟨rfl, rfl⟩
      go_wp2_with fail
      refine (times_any a c _).mono ?_; rintro e w' ⟨rfl, rfl⟩
      go_wp2_with fail
      refine (times_any b a _).mono ?_; rintro e w' ⟨rfl, rfl⟩; rw [gm_comm b a]
      go_wp2_with fail
      refine (times_any (gm a b) c _).mono ?_; rintro e w' ⟨rfl, rfl⟩; rw [gm_assoc]
      go_wp2_with fail
      refine (times_any b c _).mono ?_; rintro e w' ⟨rfl, rfl⟩
      go_wp2_with fail
      refine (times_any a (gm b c) _).mono ?_; rintro e w' ⟨rfl, rfl⟩
      go_wp2_with fail
      refine (plus_any b c _).mono ?_; rintro e w' ⟨rfl, rfl⟩
      go_wp2_with fail
      refine (times_any a (b ^^^ c) _).mono ?_; rintro e w' ⟨rfl, rfl⟩; rw [gm_xor_right]
      go_wp2_with fail
      refine (plus_any (gm a b) (gm a c) _).mono ?_; rintro e w' ⟨rfl, rfl⟩
      go_wp2_with fail
      refine (times_x _ 1 a 1 rfl rfl _).mono ?_; rintro e w' ⟨rfl, rfl⟩; rw [gm_one]
      go_wp2_with fail
      refine (plus_any a a _).mono ?_; rintro e w' ⟨rfl, rfl⟩; rw [Z.out]
      have g := G.out
      go_wp2
      go_ret
      exact ⟨rfl, HB.out⟩
end Go.Proofs.Ythlnnclpfgokjaa
