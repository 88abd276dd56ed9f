/- Walks: the reference's Times, Over, Power. -/
import Derived.Test.YthlnnclpfgokjaaFieldA
import Derived.Test.YthlnnclpfgokjaaGfR
namespace Go.Proofs.Ythlnnclpfgokjaa
open Go.RowKit Gf
theorem bit_test (B k : Nat) : (((B : Int) / 2 ^ k).tmod 2 == 1) = decide (B / 2 ^ k % 2 = 1) := by
  have e : ((B : Int) / 2 ^ k).tmod 2 = ((B / 2 ^ k % 2 : Nat) : Int) := by
    rw [Int.tmod_eq_emod_of_nonneg (Int.ediv_nonneg (by omega) (by simpa using Int.natCast_nonneg (2 ^ k)))]
    simp
  rw [e]
  by_cases h : B / 2 ^ k % 2 = 1
  · simp [h]
  · rw [decide_eq_false h, beq_eq_false_iff_ne]; omega

theorem rtimes_any (a b : UInt8) (w : World) :
    Calls Try.prog 23 #[.int .u8 (a.toNat : Int), .int .u8 (b.toNat : Int)] w fun e w' => e = .returned (.int .u8 ((gm a b).toNat : Int)) ∧ w = w' := by
  have ha : a.toNat < 256 := a.toNat_lt
  have hb : b.toNat < 256 := b.toNat_lt
  have Hr := Lib.hid (R_gm a b)
  obtain ⟨r, hr⟩ : ∃ r, r = gm a b := ⟨_, rfl⟩
  rw [← hr] at Hr ⊢
  clear hr
  generalize a.toNat = A at *
  generalize b.toNat = B at *
  go_enter Try.func23, Try.ntmps23
  go_wp2
  go_loop [5, 6] (fun x i => ∃ (k n : Nat), k ≤ 8 ∧ n < 65536 ∧ i = .int .i64 k ∧ x = .int .u32 n ∧ Hid (n = R1 A B k)) (fun _ i => 8 - (intOf i).toNat)
  case atStart => exact ⟨0, 0, by omega, by omega, rfl, rfl, Lib.hid rfl⟩
  case round =>
    obtain ⟨k, n, h1, h2, rfl, rfl, H⟩ := hrel
    by_cases hk : k < 8
    · have hlt := R1_lt A B (k + 1) ha (by omega)
      by_cases hbit : B / 2 ^ k % 2 = 1
      · have ht : (((B : Int) / 2 ^ k).tmod 2 == 1) = true := by rw [bit_test]; simpa using hbit
        have E : Hid (bits BinOp.xor IntKind.u32 (↑n) (↑A * 2 ^ k % 4294967296) = ((R1 A B (k + 1) : Nat) : Int)) := Lib.hid (by
          rw [shl_small A k (by omega) hk, u32_xor_nat n _ (by omega) (by
            have : 2 ^ k ≤ 2 ^ 7 := Nat.pow_le_pow_right (by omega) (by omega)
            have : A * 2 ^ k ≤ 286 * 2 ^ 7 := Nat.mul_le_mul (by omega) this
            omega), H.out, R1, if_pos hbit])
        clear hbit
        go_wp2
        go_round
        case rel => exact ⟨k + 1, R1 A B (k + 1), by omega, hlt, by go_num, by rw [E.out], Lib.hid rfl⟩
        case measure => simp [intOf]; omega
      · have ht : (((B : Int) / 2 ^ k).tmod 2 == 1) = false := by rw [bit_test]; simpa using hbit
        have E : Hid (n = R1 A B (k + 1)) := Lib.hid (by rw [R1, if_neg hbit]; exact H.out)
        clear hbit
        go_wp2
        go_round
        case rel => exact ⟨k + 1, n, by omega, h2, by go_num, rfl, E⟩
        case measure => simp [intOf]; omega
    · obtain rfl : k = 8 := by omega
      go_wp2
      clear h2
      go_loop [5, 7] (fun x i => ∃ (k n : Nat), k ≤ 7 ∧ n < 65536 ∧ i = .int .i64 (14 - (k : Int)) ∧ x = .int .u32 n ∧ Hid (n = R2 (R1 A B 8) k)) (fun _ i => (intOf i - 7).toNat)
      case atStart => exact ⟨0, n, by omega, by rw [H.out]; exact R1_lt A B 8 ha (by omega), rfl, rfl, Lib.hid (by rw [R2]; exact H.out)⟩
      case round =>
        obtain ⟨k, m, h1, h2, rfl, rfl, H2⟩ := hrel
        by_cases hk : k < 7
        · have hlt := R2_lt (R1 A B 8) (k + 1) (R1_lt A B 8 ha (by omega))
          by_cases hbit : m / 2 ^ (14 - k) % 2 = 1
          · have ht : (((m : Int) / 2 ^ (14 - k)).tmod 2 == 1) = true := by rw [bit_test]; simpa using hbit
            have E : Hid (bits BinOp.xor IntKind.u32 (↑m) (285 * 2 ^ (14 - k - 8) % 4294967296) = ((R2 (R1 A B 8) (k + 1) : Nat) : Int)) := Lib.hid (by
              have e := shl_small 285 (14 - k - 8) (by omega) (by omega)
              have : 2 ^ (14 - k - 8) ≤ 2 ^ 7 := Nat.pow_le_pow_right (by omega) (by omega)
              have h3 : 285 * 2 ^ (14 - k - 8) ≤ 286 * 2 ^ 7 := Nat.mul_le_mul (by omega) this
              have e' : (285 : Int) * 2 ^ (14 - k - 8) % 4294967296 = ((285 * 2 ^ (14 - k - 8) : Nat) : Int) := e
              rw [e', u32_xor_nat m _ (by omega) (by omega), R2, ← H2.out, if_pos hbit])
            clear hbit
            go_wp2
            go_round
            case rel => exact ⟨k + 1, R2 (R1 A B 8) (k + 1), by omega, hlt, by go_num, by rw [E.out], Lib.hid rfl⟩
            case measure => simp [intOf]; omega
          · have ht : (((m : Int) / 2 ^ (14 - k)).tmod 2 == 1) = false := by rw [bit_test]; simpa using hbit
            have E : Hid (m = R2 (R1 A B 8) (k + 1)) := Lib.hid (by rw [R2, ← H2.out, if_neg hbit])
            clear hbit
            go_wp2
            go_round
            case rel => exact ⟨k + 1, m, by omega, h2, by go_num, rfl, E⟩
            case measure => simp [intOf]; omega
        · obtain rfl : k = 7 := by omega
          have E : Hid ((m : Int) % 256 = ((r.toNat : Nat) : Int)) := Lib.hid (by rw [← Hr.out, ← H2.out]; omega)
          go_wp2
          go_ret
          exact ⟨by rw [← E.out]; rfl, rfl⟩

theorem rtimes_k (k : Nat) (hk : k < 256) (b : UInt8) (w : World) :
    Calls Try.prog 23 #[.int .u8 (k : Int), .int .u8 (b.toNat : Int)] w fun e w' => e = .returned (.int .u8 ((gm (UInt8.ofNat k) b).toNat : Int)) ∧ w = w' := by
  have h := rtimes_any (UInt8.ofNat k) b w
  have e : (UInt8.ofNat k).toNat = k := by rw [UInt8.toNat_ofNat']; omega
  rw [e] at h
  exact h

theorem u8_eq {a b : UInt8} : (((a.toNat : Int) == (b.toNat : Int)) = true) ↔ a = b := by
  rw [beq_iff_eq]
  constructor
  · intro h; exact UInt8.toNat_inj.1 (by omega)
  · intro h; rw [h]

theorem rover_any (a b : UInt8) (w : World) :
    Calls Try.prog 17 #[.int .u8 (a.toNat : Int), .int .u8 (b.toNat : Int)] w fun e w' => e = .returned (num (overB a b)) ∧ w = w' := by
  by_cases h : b = 0
  · subst h
    go_enter Try.func17, Try.ntmps17
    go_wp2
    go_ret2
    exact ⟨rfl, rfl⟩
  · have ht := u8_ne h
    have X : Hid (overB a b = (gm a (inv b), 0)) := Lib.hid (by unfold overB; rw [if_neg h])
    have Y : Hid (∀ x, gm x b = a ↔ x = gm a (inv b)) := Lib.hid (over_find a b h)
    clear h
    obtain ⟨r, hr⟩ : ∃ r, r = gm a (inv b) := ⟨_, rfl⟩
    rw [← hr] at X Y
    clear hr
    have hr : r.toNat < 256 := r.toNat_lt
    go_enter Try.func17, Try.ntmps17
    go_wp2
    go_loop [6] (fun x => ∃ k : Nat, k ≤ r.toNat ∧ x = .int .i64 k) (fun x => r.toNat - (intOf x).toNat)
    case atStart => exact ⟨0, by omega, rfl⟩
    case round =>
      obtain ⟨k, hk, rfl⟩ := hrel
      by_cases hlt : k < r.toNat
      · have tt : (((gm (UInt8.ofNat k) b).toNat : Int) != (a.toNat : Int)) = true := by
          rw [bne, Bool.not_eq_true', ← Bool.not_eq_true, u8_eq, Y.out]
          intro h2
          rw [← h2, UInt8.toNat_ofNat'] at hlt
          omega
        go_wp2_with (go_at_call 23; refine (rtimes_k _ (by omega) _ _).mono ?_; rintro e w' ⟨rfl, rfl⟩)
        go_round
        case rel => exact ⟨k + 1, by omega, by go_num⟩
        case measure => simp [intOf]; omega
      · have ek : k = r.toNat := by omega
        have tt : (((gm (UInt8.ofNat k) b).toNat : Int) != (a.toNat : Int)) = false := by
          rw [bne, Bool.not_eq_false', u8_eq, Y.out, ek, UInt8.ofNat_toNat]
        have Ek := Lib.hid ek
        clear ek
        go_wp2_with (go_at_call 23; refine (rtimes_k _ (by omega) _ _).mono ?_; rintro e w' ⟨rfl, rfl⟩)
        go_ret2
        exact ⟨by rw [X.out, num]; rw [← Ek.out]; rfl, rfl⟩

theorem rpower_any (a : UInt8) (n : Int) (h1 : -9223372036854775808 ≤ n) (h2 : n ≤ 9223372036854775807) (w : World) :
    Calls Try.prog 19 #[.int .u8 (a.toNat : Int), .int .i64 n] w fun e w' => e = .returned (num (powB a n)) ∧ w = w' := by
  by_cases h0 : n = 0
  · subst h0
    go_enter Try.func19, Try.ntmps19
    go_wp2
    go_ret2
    exact ⟨rfl, rfl⟩
  · have hn : (n == 0) = false := by rw [beq_eq_false_iff_ne]; exact h0
    by_cases ha : a = 0
    · subst ha
      by_cases hneg : n < 0
      · have X : Hid (powB 0 n = (0, 1)) := Lib.hid (by unfold powB; rw [if_neg h0, if_pos rfl, if_pos hneg])
        clear h0
        go_enter Try.func19, Try.ntmps19
        go_wp2
        go_ret2
        exact ⟨by rw [X.out]; rfl, rfl⟩
      · have X : Hid (powB 0 n = (0, 0)) := Lib.hid (by unfold powB; rw [if_neg h0, if_pos rfl, if_neg hneg])
        clear h0
        go_enter Try.func19, Try.ntmps19
        go_wp2
        go_ret2
        exact ⟨by rw [X.out]; rfl, rfl⟩
    · have ht := u8_ne ha
      have X : Hid (powB a n = (pw a (powE n), 0)) := Lib.hid (by unfold powB; rw [if_neg h0, if_neg ha])
      clear h0 ha
      have b1 : -255 < n.tmod 255 := by rw [Int.tmod_eq_emod]; split <;> omega
      have b2 : n.tmod 255 < 255 := by rw [Int.tmod_eq_emod]; split <;> omega
      have hp : powE n < 256 := by unfold powE; omega
      obtain ⟨m, hm⟩ : ∃ m, m = powE n := ⟨_, rfl⟩
      rw [← hm] at X hp
      by_cases hneg : n.tmod 255 < 0
      · have e : Hid (n.tmod 255 + 255 = (m : Int)) := Lib.hid (by
          rw [hm]; unfold powE
          rw [Int.tmod_eq_emod] at hneg ⊢; split at hneg <;> (split <;> omega))
        clear hm
        go_enter Try.func19, Try.ntmps19
        go_wp2
        rw [e.out]
        clear e hneg b1 b2
        go_loop [7, 8] (fun p i => ∃ k : Nat, k ≤ m ∧ i = .int .i64 k ∧ p = .int .u8 ((pw a k).toNat : Int)) (fun _ i => m - (intOf i).toNat)
        case atStart => exact ⟨0, by omega, rfl, rfl⟩
        case round =>
          obtain ⟨k, hk, rfl, rfl⟩ := hrel
          by_cases hlt : k < m
          · go_wp2_with (go_at_call 23; refine (rtimes_any _ _ _).mono ?_; rintro e w' ⟨rfl, rfl⟩)
            go_round
            case rel => exact ⟨k + 1, by omega, by go_num, rfl⟩
            case measure => simp [intOf]; omega
          · obtain rfl : k = m := by omega
            go_wp2
            go_ret2
            exact ⟨by rw [X.out]; rfl, rfl⟩
      · have e : Hid (n.tmod 255 = (m : Int)) := Lib.hid (by
          rw [hm]; unfold powE
          rw [Int.tmod_eq_emod] at hneg ⊢; split at hneg <;> (split <;> omega))
        clear hm
        go_enter Try.func19, Try.ntmps19
        go_wp2
        rw [e.out]
        clear e hneg b1 b2
        go_loop [7, 8] (fun p i => ∃ k : Nat, k ≤ m ∧ i = .int .i64 k ∧ p = .int .u8 ((pw a k).toNat : Int)) (fun _ i => m - (intOf i).toNat)
        case atStart => exact ⟨0, by omega, rfl, rfl⟩
        case round =>
          obtain ⟨k, hk, rfl, rfl⟩ := hrel
          by_cases hlt : k < m
          · go_wp2_with (go_at_call 23; refine (rtimes_any _ _ _).mono ?_; rintro e w' ⟨rfl, rfl⟩)
            go_round
            case rel => exact ⟨k + 1, by omega, by go_num, rfl⟩
            case measure => simp [intOf]; omega
          · obtain rfl : k = m := by omega
            go_wp2
            go_ret2
            exact ⟨by rw [X.out]; rfl, rfl⟩
end Go.Proofs.Ythlnnclpfgokjaa
