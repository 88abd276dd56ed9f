/- Walk: wire.short: the short number at the front of a text. -/
import Derived.Test.YtpfccicahfncbaaDoorPut
namespace Go.Proofs.YtpfccicahfncbaaDoor
open Go.RowKit Wir
set_option linter.unusedVariables false
theorem and127 (b : UInt8) : bits .and .u8 (b.toNat : Int) 127 = ((b.toNat % 128 : Nat) : Int) := by
  have := u8_and_nat b.toNat 127 b.toNat_lt (by omega)
  rw [nat_mask7] at this
  exact this
theorem or_step (a x k : Nat) (ha : a < 2 ^ (7 * k)) (hx : x < 256) (hk : k ≤ 8 ∨ (k = 9 ∧ x ≤ 1)) :
    bits .or .u64 (a : Int) (IntKind.u64.wrap (IntKind.u64.wrap (bits .and .u8 (x : Int) 127) * 2 ^ (7 * k))) = ((a + x % 128 * 2 ^ (7 * k) : Nat) : Int) := by
  have e1 : bits .and .u8 (x : Int) 127 = ((x % 128 : Nat) : Int) := by
    have := u8_and_nat x 127 hx (by omega)
    rw [nat_mask7] at this
    exact this
  have hy : x % 128 * 2 ^ (7 * k) ≤ 9223372036854775808 := by
    rcases hk with hk | ⟨rfl, hx1⟩
    · have h1 : 2 ^ (7 * k) ≤ 2 ^ 56 := Nat.pow_le_pow_right (by omega) (by omega)
      have h2 : x % 128 * 2 ^ (7 * k) ≤ 127 * 2 ^ 56 := Nat.mul_le_mul (by omega) h1
      have e : 127 * 2 ^ 56 ≤ 9223372036854775808 := by decide
      omega
    · have h2 : x % 128 * 2 ^ (7 * 9) ≤ 1 * 2 ^ (7 * 9) := Nat.mul_le_mul (by omega) (Nat.le_refl _)
      have e : 1 * 2 ^ (7 * 9) = 9223372036854775808 := by decide
      omega
  have ha2 : a < 18446744073709551616 := by
    have h1 : 2 ^ (7 * k) ≤ 2 ^ 63 := Nat.pow_le_pow_right (by omega) (by omega)
    have e : 2 ^ 63 = 9223372036854775808 := by decide
    omega
  have e2 : ((x % 128 : Nat) : Int) * 2 ^ (7 * k) = ((x % 128 * 2 ^ (7 * k) : Nat) : Int) := by simp
  have wz : ∀ n : Nat, n < 18446744073709551616 → IntKind.u64.wrap (n : Int) = (n : Int) := fun n h => by rw [IntKind.wrap_u64]; omega
  rw [e1, wz _ (by omega), e2, wz _ (by omega), u64_or_nat _ _ ha2 (by omega)]
  congr 1
  rw [Nat.or_comm, Nat.mul_comm, ← Nat.two_pow_add_eq_or_of_lt ha, Nat.add_comm]
theorem acc_step (a x k : Nat) (ha : a < 2 ^ (7 * k)) : a + x % 128 * 2 ^ (7 * k) < 2 ^ (7 * (k + 1)) := by
  rw [Nat.mul_add, Nat.pow_add]
  have h : x % 128 * 2 ^ (7 * k) ≤ 127 * 2 ^ (7 * k) := Nat.mul_le_mul_right _ (by omega)
  show _ < 2 ^ (7 * k) * 128
  omega
theorem ret_short {n n' : Nat} {k k' : Int} (h : (n, k) = (n', k')) : Ending.returned (.tuple #[.int .u64 (n : Int), .int .i64 k]) = .returned (.tuple #[.int .u64 (n' : Int), .int .i64 k']) := by
  injection h with h1 h2
  rw [h1, h2]
set_option maxHeartbeats 1000000 in
set_option maxRecDepth 100000 in
theorem short_any (s : ByteArray) (w : World) (hs : s.size ≤ 9223372036854775807) :
    Calls Tryd.prog 52 #[.string s] w fun e w' => e = .returned (.tuple #[.int .u64 ((short (byteAt s) s.size).1 : Int), .int .i64 (short (byteAt s) s.size).2]) ∧ w = w' := by
  by_cases h10 : s.size ≤ 10
  all_goals
    go_enter Tryd.func52, Tryd.ntmps52
    go_wp2
    go_loop [2, 9] (fun acc i => ∃ k a : Nat, k ≤ s.size ∧ k ≤ 10 ∧ i = .int .i64 k ∧ acc = .int .u64 a ∧ Hid (a < 2 ^ (7 * k) ∧ short (byteAt s) s.size = shG (byteAt s) s.size (11 - k) k a)) (fun _ i => 10 - (intOf i).toNat)
    case atStart => exact ⟨0, 0, by omega, by omega, rfl, rfl, Lib.hid ⟨by decide, rfl⟩⟩
    case round =>
      obtain ⟨k, a, hk1, hk2, rfl, rfl, H⟩ := hrel
      by_cases hlt : k < s.size ∧ k < 10
      · obtain ⟨l1, l2⟩ := hlt
        obtain ⟨x, hx⟩ : ∃ x, (s[k]'l1).toNat = x := ⟨_, rfl⟩
        have EX : Hid ((byteAt s k).toNat = x) := Lib.hid (by rw [← byteAt_get s k l1]; exact hx)
        have hx256 : x < 256 := by rw [← hx]; exact (s[k]'l1).toNat_lt
        have ST : Hid (short (byteAt s) s.size = if (k = 9 ∧ 1 < x) ∨ (0 < k ∧ x = 0) then (0, -1) else if x < 128 then (a + x % 128 * 2 ^ (7 * k), (k : Int) + 1) else shG (byteAt s) s.size (10 - k) (k + 1) (a + x % 128 * 2 ^ (7 * k))) := Lib.hid (by
          rw [H.out.2, show 11 - k = (10 - k) + 1 from by omega, shG, if_pos ⟨l1, l2⟩, EX.out])
        by_cases h9 : k = 9
        · by_cases x1 : 1 < x
          · have X : Hid (short (byteAt s) s.size = (0, -1)) := Lib.hid (by rw [ST.out, if_pos (by omega)])
            have t1 : ((k : Int) == 9) = true := by rw [beq_iff_eq]; omega
            have x1i : (1 : Int) < (x : Int) := by omega
            clear h9
            go_wp2
            go_ret2
            exact ⟨ret_short X.out.symm, rfl⟩
          · by_cases x0 : x = 0
            · have X : Hid (short (byteAt s) s.size = (0, -1)) := Lib.hid (by rw [ST.out, if_pos (by omega)])
              have t1 : ((k : Int) == 9) = true := by rw [beq_iff_eq]; omega
              have t2 : 0 < k := by omega
              have t3 : ((x : Int) == 0) = true := by rw [beq_iff_eq]; omega
              have x1i : ¬ (1 : Int) < (x : Int) := by omega
              clear h9 x0 x1
              go_wp2
              go_ret2
              exact ⟨ret_short X.out.symm, rfl⟩
            · have X : Hid (short (byteAt s) s.size = (a + x % 128 * 2 ^ (7 * k), (k : Int) + 1)) := Lib.hid (by rw [ST.out, if_neg (by omega), if_pos (by omega)])
              have O := Lib.hid (or_step a x k H.out.1 hx256 (by omega))
              have t1 : ((k : Int) == 9) = true := by rw [beq_iff_eq]; omega
              have t2 : 0 < k := by omega
              have t3 : ((x : Int) == 0) = false := by rw [beq_eq_false_iff_ne]; omega
              have x1i : ¬ (1 : Int) < (x : Int) := by omega
              have x3 : x < 128 := by omega
              clear h9 x0 x1
              go_wp2
              go_ret2
              refine ⟨?_, rfl⟩
              rw [X.out, ← O.out]; rfl
        · by_cases h0 : k = 0
          · by_cases x128 : x < 128
            · have X : Hid (short (byteAt s) s.size = (a + x % 128 * 2 ^ (7 * k), (k : Int) + 1)) := Lib.hid (by rw [ST.out, if_neg (by omega), if_pos (by omega)])
              have O := Lib.hid (or_step a x k H.out.1 hx256 (by omega))
              have t1 : ((k : Int) == 9) = false := by rw [beq_eq_false_iff_ne]; omega
              have t2 : k ≤ 0 := by omega
              clear h9 h0
              go_wp2
              go_ret2
              refine ⟨?_, rfl⟩
              rw [X.out, ← O.out]; rfl
            · have X : Hid (short (byteAt s) s.size = shG (byteAt s) s.size (11 - (k + 1)) (k + 1) (a + x % 128 * 2 ^ (7 * k))) := Lib.hid (by rw [ST.out, if_neg (by omega), if_neg (by omega), show 11 - (k + 1) = 10 - k from by omega])
              have O := Lib.hid (or_step a x k H.out.1 hx256 (by omega))
              have AS := Lib.hid (acc_step a x k H.out.1)
              have t1 : ((k : Int) == 9) = false := by rw [beq_eq_false_iff_ne]; omega
              have t2 : k ≤ 0 := by omega
              clear h9 h0
              go_wp2
              go_round
              case rel => exact ⟨k + 1, _, by omega, by omega, by go_num, by rw [O.out], Lib.hid ⟨AS.out, X.out⟩⟩
              case measure => simp [intOf]; omega
          · by_cases x0 : x = 0
            · have X : Hid (short (byteAt s) s.size = (0, -1)) := Lib.hid (by rw [ST.out, if_pos (by omega)])
              have t1 : ((k : Int) == 9) = false := by rw [beq_eq_false_iff_ne]; omega
              have t2 : 0 < k := by omega
              have t3 : ((x : Int) == 0) = true := by rw [beq_iff_eq]; omega
              clear h9 h0 x0
              go_wp2
              go_ret2
              exact ⟨ret_short X.out.symm, rfl⟩
            · by_cases x128 : x < 128
              · have X : Hid (short (byteAt s) s.size = (a + x % 128 * 2 ^ (7 * k), (k : Int) + 1)) := Lib.hid (by rw [ST.out, if_neg (by omega), if_pos (by omega)])
                have O := Lib.hid (or_step a x k H.out.1 hx256 (by omega))
                have t1 : ((k : Int) == 9) = false := by rw [beq_eq_false_iff_ne]; omega
                have t2 : 0 < k := by omega
                have t3 : ((x : Int) == 0) = false := by rw [beq_eq_false_iff_ne]; omega
                clear h9 h0 x0
                go_wp2
                go_ret2
                refine ⟨?_, rfl⟩
                rw [X.out, ← O.out]; rfl
              · have X : Hid (short (byteAt s) s.size = shG (byteAt s) s.size (11 - (k + 1)) (k + 1) (a + x % 128 * 2 ^ (7 * k))) := Lib.hid (by rw [ST.out, if_neg (by omega), if_neg (by omega), show 11 - (k + 1) = 10 - k from by omega])
                have O := Lib.hid (or_step a x k H.out.1 hx256 (by omega))
                have AS := Lib.hid (acc_step a x k H.out.1)
                have t1 : ((k : Int) == 9) = false := by rw [beq_eq_false_iff_ne]; omega
                have t2 : 0 < k := by omega
                have t3 : ((x : Int) == 0) = false := by rw [beq_eq_false_iff_ne]; omega
                clear h9 h0 x0
                go_wp2
                go_round
                case rel => exact ⟨k + 1, _, by omega, by omega, by go_num, by rw [O.out], Lib.hid ⟨AS.out, X.out⟩⟩
                case measure => simp [intOf]; omega
      · have X : Hid (short (byteAt s) s.size = (0, -1)) := Lib.hid (by rw [H.out.2, shG_end _ _ _ _ _ hlt])
        have hlt2 : s.size ≤ k ∨ 10 ≤ k := by omega
        clear hlt
        rcases hlt2 with hlt2 | hlt2
        · first
            | (exfalso; omega)
            | (go_wp2
               go_ret2
               exact ⟨ret_short X.out.symm, rfl⟩)
        · go_wp2
          go_ret2
          exact ⟨ret_short X.out.symm, rfl⟩
end Go.Proofs.YtpfccicahfncbaaDoor
