/- Walk: the law FieldPowers returns true. -/
import Derived.Test.YthlnnclpfgokjaaFieldLawsW
namespace Go.Proofs.Ythlnnclpfgokjaa
open Go.RowKit Gf
set_option linter.unusedVariables false
theorem powG_x (x : Int) (a : UInt8) (hx : x = (a.toNat : Int)) (n : Int) (h1 : -9223372036854775808 ≤ n) (h2 : n ≤ 9223372036854775807) (r : UInt8) (hr : powB a n = (r, 0)) (w : World) :
    Calls Try.prog 20 #[.int .u8 x, .int .i64 n] w fun e w' => e = .returned (.tuple #[.int .u8 (r.toNat : Int), .int .i64 0]) ∧ w = w' := by
  subst hx
  have h := powG_any a n h1 h2 w
  rw [hr] at h
  exact h
theorem powB_small (a : UInt8) (k : Nat) (h1 : 1 ≤ k) (h2 : k < 255) : powB a (k : Int) = (pw a k, 0) := by
  by_cases ha : a = 0
  · subst ha
    unfold powB
    rw [if_neg (by omega), if_pos rfl, if_neg (by omega), zero_pw k (by omega)]
  · rw [powB_ne a ha]
    have : powE (k : Int) = k := by unfold powE; omega
    rw [this]
theorem powB_two (k : Nat) (h2 : k < 255) : powB 2 (k : Int) = (pw 2 k, 0) := by
  rw [powB_ne 2 (by decide)]
  have : powE (k : Int) = k := by unfold powE; omega
  rw [this]
theorem two_order : ((List.range 254).all fun d => sq 8 1 2 (d + 1) != 1) = true := by decide +kernel
theorem two_ne (d : Nat) (h1 : 1 ≤ d) (h2 : d < 255) : pw 2 d ≠ 1 := by
  have := List.all_eq_true.1 two_order (d - 1) (List.mem_range.2 (by omega))
  rw [show d - 1 + 1 = d from by omega, sq_pw 8 1 2 d (by omega), one_gm] at this
  simpa using this
theorem two_nz (k : Nat) : pw 2 k ≠ 0 := by
  induction k with
  | zero => decide
  | succ k ih =>
    intro h
    rw [pw, gm_eq_zero] at h
    rcases h with h | h
    · exact ih h
    · exact absurd h (by decide)
theorem two_inj (j k : Nat) (h1 : j < k) (h2 : k < 255) : pw 2 j ≠ pw 2 k := by
  intro h
  have e : pw 2 k = gm (pw 2 (k - j)) (pw 2 j) := by rw [← pw_add]; congr 1; omega
  have e2 : gm 1 (pw 2 j) = gm (pw 2 (k - j)) (pw 2 j) := by rw [one_gm, ← e, h]
  exact two_ne (k - j) (by omega) (by omega) (gm_cancel _ _ _ (two_nz j) e2).symm
/-- Which numbers were seen among the first k powers. -/
def seenF (k : Nat) : Nat → Value := fun i => .bool ((List.range k).any fun j => decide ((pw 2 j).toNat = i))
theorem seen_no (k : Nat) (h : k < 255) : seenF k (pw 2 k).toNat = .bool false := by
  unfold seenF
  congr 1
  rw [List.any_eq_false]
  intro j hj
  rw [List.mem_range] at hj
  simp only [decide_eq_true_eq]
  intro e
  exact two_inj j k hj h (UInt8.toNat_inj.1 e)
theorem seen_step (k i : Nat) : (if i = (pw 2 k).toNat then .bool true else seenF k i) = seenF (k + 1) i := by
  unfold seenF
  rw [List.range_succ, List.any_append]
  by_cases e : i = (pw 2 k).toNat
  · rw [if_pos e]; simp [e]
  · rw [if_neg e]
    have : ¬ (pw 2 k).toNat = i := fun h => e h.symm
    simp [this]

theorem pow_sums (a : UInt8) (ha : a ≠ 0) (n : Int) : powB a (n + 255) = powB a n ∧ powB a 255 = (1, 0) := by
  rw [powB_ne a ha, powB_ne a ha, powB_ne a ha]
  have e1 : powE (n + 255) = powE n := by unfold powE; omega
  rw [e1]
  exact ⟨rfl, rfl⟩

theorem zeros_bool : Try.zeroCells36 = Array.replicate 256 (.bool false) := by kernel_rfl

set_option maxRecDepth 100000 in
set_option maxHeartbeats 1000000 in
theorem fieldPowers_walk (a b : UInt8) (n : Int) (h1 : -9223372036854775808 ≤ n) (h2 : n ≤ 9223372036854775807) (w : World) :
    Calls Try.prog 6 #[.int .u8 (a.toNat : Int), .int .u8 (b.toNat : Int), .int .i64 n] w fun e w' => e = .returned (.bool true) ∧ Below w.heap.size w w' := by
  obtain ⟨b1, b2⟩ := tmod_bd n 100000 (by omega)
  by_cases ha : a = 0
  · subst ha
    go_enter Try.func6, Try.ntmps6
    go_wp2_with fail
    refine (awake_any _).mono ?_; rintro e w1 ⟨rfl, hb1⟩
    have HB := Lib.hid hb1
    clear hb1
    go_wp2
    go_loop [13, 14, 15, 16, 17, 18, 19] (fun t _ _ _ _ _ _ => ∃ j k : Nat, 1 ≤ j ∧ j ≤ 8 ∧ t = .int .i64 (k : Int) ∧ Hid (k = 2 ^ j)) (fun t _ _ _ _ _ _ => 256 - (intOf t).toNat)
    case atStart => exact ⟨1, 2, by omega, by omega, rfl, Lib.hid rfl⟩
    case round =>
      obtain ⟨j, k, hj1, hj2, rfl, K⟩ := hrel
      by_cases hlt : j < 8
      · have k1 : 1 ≤ k := by rw [K.out]; exact Nat.one_le_two_pow
        have k2 : k ≤ 128 := by rw [K.out]; exact Nat.pow_le_pow_right (n := 2) (by omega) (show j ≤ 7 by omega)
        have S : Hid (pw (0 ^^^ b) k = pw 0 k ^^^ pw b k) := Lib.hid (by rw [K.out]; exact pw2k_xor 0 b j)
        go_wp2_with fail
        refine (plus_x _ _ 0 b rfl rfl _).mono ?_; rintro e w' ⟨rfl, rfl⟩
        go_wp2_with fail
        refine (powG_x _ (0 ^^^ b) (by first | rfl | simp) k (by omega) (by omega) _ (powB_small _ k k1 (by omega)) _).mono ?_; rintro e w' ⟨rfl, rfl⟩; rw [S.out]
        go_wp2_with fail
        refine (powG_x _ 0 rfl k (by omega) (by omega) _ (powB_small _ k k1 (by omega)) _).mono ?_; rintro e w' ⟨rfl, rfl⟩
        go_wp2_with fail
        refine (powG_x _ b rfl k (by omega) (by omega) _ (powB_small _ k k1 (by omega)) _).mono ?_; rintro e w' ⟨rfl, rfl⟩
        go_wp2_with fail
        refine (plus_any (pw 0 k) (pw b k) _).mono ?_; rintro e w' ⟨rfl, rfl⟩
        go_wp2
        go_round
        case rel => exact ⟨j + 1, 2 * k, by omega, by omega, by go_num, Lib.hid (by rw [K.out, Nat.pow_succ]; omega)⟩
        case measure => simp [intOf]; omega
      · obtain rfl : j = 8 := by omega
        have k2 : 128 < k := by rw [K.out]; decide
        go_wp2
        have Z := Lib.hid (zeros_row w1 (T := 36) zeros_bool)
        have ZB : Hid (Below w.heap.size w (w1.alloc (.cells Try.zeroCells36 36))) := Lib.hid (HB.out.alloc HB.out.size _)
        have hge : w.heap.size ≤ w1.heap.size := HB.out.size
        go_loopw [21, 22, 23, 24] (fun x i _ _ wr => ∃ k : Nat, k ≤ 255 ∧ i = .int .i64 (k : Int) ∧ x = .int .u8 ((pw 2 k).toNat : Int) ∧ Hid (wr.rowIs w1.heap.size 36 256 (seenF k) ∧ Below w.heap.size w wr)) (fun _ i _ _ _ => 255 - (intOf i).toNat)
        case atStart => exact ⟨0, by omega, rfl, rfl, Lib.hid ⟨Z.out.congr fun i _ => by simp [seenF], ZB.out⟩⟩
        case round =>
          obtain ⟨k, hk, rfl, rfl, HR⟩ := hrel
          by_cases hlt : k < 255
          · have hx : (pw 2 k).toNat < 256 := (pw 2 k).toNat_lt
            have hx' : ((pw 2 k).toNat : Int) < 256 := by omega
            have hc1 : wr.cell? ⟨w1.heap.size, (pw 2 k).toNat, none⟩ = some (.bool false) := by rw [HR.out.1.cell hx, seen_no k hlt]
            have hf1 : wr.frozen? ⟨w1.heap.size, (pw 2 k).toNat, none⟩ = false := HR.out.1.frozen _
            have hnz := u8_ne (two_nz k)
            have hnz' := u8_ne' (two_nz k)
            go_wp2_with fail
            refine (powG_x 2 2 rfl k (by omega) (by omega) _ (powB_two k hlt) _).mono ?_; rintro e w' ⟨rfl, rfl⟩
            go_wp2_with fail
            refine (times_x _ 2 (pw 2 k) 2 rfl rfl _).mono ?_; rintro e w' ⟨rfl, rfl⟩
            go_wp2
            go_roundw
            case rel =>
              refine ⟨k + 1, by omega, by go_num, rfl, Lib.hid ⟨(HR.out.1.set (pw 2 k).toNat (.bool true)).congr fun i _ => seen_step k i, HR.out.2.setCell hge _⟩⟩
            case measure => simp [intOf]; omega
          · obtain rfl : k = 255 := by omega
            rw [show pw 2 255 = 1 from pw255 2 (by decide)]
            go_wp2
            go_ret
            exact ⟨rfl, HR.out.2⟩
  · have ta := u8_ne ha
    have ta' := u8_ne' ha
    have P : Hid (powB a (n.tmod 100000) = (pw a (powE (n.tmod 100000)), 0)) := Lib.hid (powB_ne a ha _)
    have P2 : Hid (powB a (n.tmod 100000 + 255) = (pw a (powE (n.tmod 100000)), 0)) := Lib.hid (by rw [(pow_sums a ha _).1]; exact powB_ne a ha _)
    have P3 : Hid (powB a 255 = (1, 0)) := Lib.hid (pow_sums a ha n).2
    clear ha
    go_enter Try.func6, Try.ntmps6
    go_wp2_with fail
    refine (awake_any _).mono ?_; rintro e w1 ⟨rfl, hb1⟩
    have HB := Lib.hid hb1
    clear hb1
    go_wp2_with fail
    refine (powG_x _ a rfl (n.tmod 100000) (by omega) (by omega) _ P.out _).mono ?_; rintro e w' ⟨rfl, rfl⟩
    go_wp2_with fail
    refine (powG_x _ a rfl (n.tmod 100000 + 255) (by omega) (by omega) _ P2.out _).mono ?_; rintro e w' ⟨rfl, rfl⟩
    go_wp2_with fail
    refine (powG_x _ a rfl 255 (by omega) (by omega) _ P3.out _).mono ?_; rintro e w' ⟨rfl, rfl⟩
    go_wp2
    go_loop [13, 14, 15, 16, 17, 18, 19] (fun t _ _ _ _ _ _ => ∃ j k : Nat, 1 ≤ j ∧ j ≤ 8 ∧ t = .int .i64 (k : Int) ∧ Hid (k = 2 ^ j)) (fun t _ _ _ _ _ _ => 256 - (intOf t).toNat)
    case atStart => exact ⟨1, 2, by omega, by omega, rfl, Lib.hid rfl⟩
    case round =>
      obtain ⟨j, k, hj1, hj2, rfl, K⟩ := hrel
      by_cases hlt : j < 8
      · have k1 : 1 ≤ k := by rw [K.out]; exact Nat.one_le_two_pow
        have k2 : k ≤ 128 := by rw [K.out]; exact Nat.pow_le_pow_right (n := 2) (by omega) (show j ≤ 7 by omega)
        have S : Hid (pw (a ^^^ b) k = pw a k ^^^ pw b k) := Lib.hid (by rw [K.out]; exact pw2k_xor a b j)
        go_wp2_with fail
        refine (plus_any a b _).mono ?_; rintro e w' ⟨rfl, rfl⟩
        go_wp2_with fail
        refine (powG_x _ (a ^^^ b) rfl k (by omega) (by omega) _ (powB_small _ k k1 (by omega)) _).mono ?_; rintro e w' ⟨rfl, rfl⟩; rw [S.out]
        go_wp2_with fail
        refine (powG_x _ a rfl k (by omega) (by omega) _ (powB_small _ k k1 (by omega)) _).mono ?_; rintro e w' ⟨rfl, rfl⟩
        go_wp2_with fail
        refine (powG_x _ b rfl k (by omega) (by omega) _ (powB_small _ k k1 (by omega)) _).mono ?_; rintro e w' ⟨rfl, rfl⟩
        go_wp2_with fail
        refine (plus_any (pw a k) (pw b k) _).mono ?_; rintro e w' ⟨rfl, rfl⟩
        go_wp2
        go_round
        case rel => exact ⟨j + 1, 2 * k, by omega, by omega, by go_num, Lib.hid (by rw [K.out, Nat.pow_succ]; omega)⟩
        case measure => simp [intOf]; omega
      · obtain rfl : j = 8 := by omega
        have k2 : 128 < k := by rw [K.out]; decide
        go_wp2
        have Z := Lib.hid (zeros_row w1 (T := 36) zeros_bool)
        have ZB : Hid (Below w.heap.size w (w1.alloc (.cells Try.zeroCells36 36))) := Lib.hid (HB.out.alloc HB.out.size _)
        have hge : w.heap.size ≤ w1.heap.size := HB.out.size
        go_loopw [21, 22, 23, 24] (fun x i _ _ wr => ∃ k : Nat, k ≤ 255 ∧ i = .int .i64 (k : Int) ∧ x = .int .u8 ((pw 2 k).toNat : Int) ∧ Hid (wr.rowIs w1.heap.size 36 256 (seenF k) ∧ Below w.heap.size w wr)) (fun _ i _ _ _ => 255 - (intOf i).toNat)
        case atStart => exact ⟨0, by omega, rfl, rfl, Lib.hid ⟨Z.out.congr fun i _ => by simp [seenF], ZB.out⟩⟩
        case round =>
          obtain ⟨k, hk, rfl, rfl, HR⟩ := hrel
          by_cases hlt : k < 255
          · have hx : (pw 2 k).toNat < 256 := (pw 2 k).toNat_lt
            have hx' : ((pw 2 k).toNat : Int) < 256 := by omega
            have hc1 : wr.cell? ⟨w1.heap.size, (pw 2 k).toNat, none⟩ = some (.bool false) := by rw [HR.out.1.cell hx, seen_no k hlt]
            have hf1 : wr.frozen? ⟨w1.heap.size, (pw 2 k).toNat, none⟩ = false := HR.out.1.frozen _
            have hnz := u8_ne (two_nz k)
            have hnz' := u8_ne' (two_nz k)
            go_wp2_with fail
            refine (powG_x 2 2 rfl k (by omega) (by omega) _ (powB_two k hlt) _).mono ?_; rintro e w' ⟨rfl, rfl⟩
            go_wp2_with fail
            refine (times_x _ 2 (pw 2 k) 2 rfl rfl _).mono ?_; rintro e w' ⟨rfl, rfl⟩
            go_wp2
            go_roundw
            case rel =>
              refine ⟨k + 1, by omega, by go_num, rfl, Lib.hid ⟨(HR.out.1.set (pw 2 k).toNat (.bool true)).congr fun i _ => seen_step k i, HR.out.2.setCell hge _⟩⟩
            case measure => simp [intOf]; omega
          · obtain rfl : k = 255 := by omega
            rw [show pw 2 255 = 1 from pw255 2 (by decide)]
            go_wp2
            go_ret
            exact ⟨rfl, HR.out.2⟩
end Go.Proofs.Ythlnnclpfgokjaa
