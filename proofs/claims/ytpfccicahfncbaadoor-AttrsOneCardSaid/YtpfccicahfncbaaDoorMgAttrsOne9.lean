/- Several texts of the claim joined into one (part 9): plain facts and walks. No conditions but those that each theorem tells. -/
import Derived.Test.YtpfccicahfncbaaDoorPut
import Derived.Test.YtpfccicahfncbaaDoorMgAttrsOne2
import Derived.Test.YtpfccicahfncbaaDoorMgAttrsOne4
import Derived.Test.YtpfccicahfncbaaDoorMgAttrsOne6
import Derived.Test.YtpfccicahfncbaaDoorMgAttrsOne8
import Derived.Test.YtpfccicahfncbaaDoorMgAttrsOne3
namespace Go.Proofs.YtpfccicahfncbaaDoor
open Go.RowKit Wir
set_option linter.unusedVariables false
/-- A short number behind a text, a byte a round. -/
def rputF : Nat → ByteArray → Nat → ByteArray
  | 0, s, n => s ++ bs [UInt8.ofNat n]
  | f + 1, s, n => if n < 128 then s ++ bs [UInt8.ofNat n] else rputF f (s ++ bs [UInt8.ofNat (n % 128 + 128)]) (n / 128)
theorem rputF_is (f : Nat) (s : ByteArray) (n : Nat) : rputF f s n = s ++ bs (putN f n) := by
  induction f generalizing s n with
  | zero => rfl
  | succ f ih =>
    unfold rputF putN
    by_cases h : n < 128
    · rw [if_pos h, if_pos h]
    · rw [if_neg h, if_neg h, ih, ByteArray.append_assoc]
      congr 1
theorem byte128 (n : Nat) : IntKind.u8.wrap ((n : Int) % 128 + 128) = ((UInt8.ofNat (n % 128 + 128)).toNat : Int) := by
  rw [UInt8.toNat_ofNat', IntKind.wrap_u8]; omega
theorem byte_conv (wr : World) (u : UInt8) (x : Int) (hx : x = (u.toNat : Int)) (j : Nat) (hj : j < 1) : (wr.alloc (.cells #[.int .u8 x] 5)).cell? (({ block := wr.heap.size, off := 0 } : Addr).add j) = some (.int .u8 (([u].getD j 0).toNat : Int)) := by
  obtain rfl : j = 0 := by omega
  rw [add0, hx]
  exact (World.rowIs_alloc wr #[.int .u8 (u.toNat : Int)] 5 (fun _ => .int .u8 (u.toNat : Int)) (fun i hi => by
    have : i = 0 := by simpa using hi
    subst this; rfl)).cell (i := 0) (by simp)
set_option maxRecDepth 100000 in
theorem rput_any (s : ByteArray) (n : Nat) (w : World) (hn : n < 18446744073709551616) (hs : s.size ≤ 4611686018427387904) :
    Calls Tryd.prog 27 #[.string s, .int .u64 (n : Int)] w fun e w' => e = .returned (.string (s ++ bs (putL n))) ∧ Below w.heap.size w w' := by
  have E0 : Hid (s ++ bs (putL n) = rputF 9 s n) := Lib.hid (rputF_is 9 s n).symm
  go_enter Tryd.func27, Tryd.ntmps27
  go_wp2
  go_loopw [0, 1] (fun t x wr => ∃ (f : Nat) (u : ByteArray) (m : Nat), f ≤ 9 ∧ u.size + f ≤ s.size + 9 ∧ m < 18446744073709551616 ∧ m < 2 ^ (7 * f + 7) ∧ t = .string u ∧ x = .int .u64 (m : Int) ∧ Hid (rputF f u m = rputF 9 s n ∧ Below w.heap.size w wr)) (fun _ x _ => (intOf x).toNat)
  case atStart => exact ⟨9, s, n, by omega, by omega, hn, by omega, rfl, rfl, Lib.hid ⟨rfl, Below.refl _ _⟩⟩
  case round =>
    obtain ⟨f, u, m, hf, hu, hm, hmf, rfl, rfl, HR⟩ := hrel
    by_cases hlt : m < 128
    · have E1 : Hid (rputF f u m = u ++ bs [UInt8.ofNat m]) := Lib.hid (by
        cases f with
        | zero => rfl
        | succ f => rw [rputF, if_pos hlt])
      have hb : (m : Int) = ((UInt8.ofNat m).toNat : Int) := by rw [UInt8.toNat_ofNat']; omega
      have HBV := Lib.hid hb
      have hz1 : (bs [UInt8.ofNat m]).size = 1 := rfl
      clear hmf hb
      go_wp2_with (with_reducible refine conv_str_wp (e := 5) (by kernel_rfl) (by kernel_rfl) (by kernel_rfl) rfl _ rfl ⟨wr.heap.size, 0, none⟩ 1 1 rfl [UInt8.ofNat m] rfl (byte_conv wr (UInt8.ofNat m) _ HBV.out) ?_)
      go_ret
      exact ⟨by rw [E0.out, ← HR.out.1, E1.out]; rfl, HR.out.2.alloc HR.out.2.size _⟩
    · have hf0 : f ≠ 0 := by
        intro e
        subst e
        have : (2 : Nat) ^ (7 * 0 + 7) = 128 := by decide
        omega
      obtain ⟨g, rfl⟩ : ∃ g, f = g + 1 := ⟨f - 1, by omega⟩
      have E1 : Hid (rputF (g + 1) u m = rputF g (u ++ bs [UInt8.ofNat (m % 128 + 128)]) (m / 128)) := Lib.hid (by rw [rputF, if_neg hlt])
      have hmg : Hid (m / 128 < 2 ^ (7 * g + 7)) := Lib.hid (by
        rw [show 7 * (g + 1) + 7 = 7 * g + 7 + 7 by omega, Nat.pow_add] at hmf
        exact Nat.div_lt_of_lt_mul (by rw [Nat.mul_comm]; exact hmf))
      obtain ⟨c, hc⟩ : ∃ c, UInt8.ofNat (m % 128 + 128) = c := ⟨_, rfl⟩
      have HBV : Hid ((m : Int) % 128 + 128 = (c.toNat : Int)) := Lib.hid (by rw [← hc, UInt8.toNat_ofNat']; omega)
      rw [hc] at E1
      have hz1 : (bs [c]).size = 1 := rfl
      clear hc
      clear hmf
      go_wp2_with (with_reducible refine conv_str_wp (e := 5) (by kernel_rfl) (by kernel_rfl) (by kernel_rfl) rfl _ rfl ⟨wr.heap.size, 0, none⟩ 1 1 rfl [c] rfl (byte_conv wr c _ HBV.out) ?_)
      · go_roundw
        case rel => exact ⟨g, u ++ bs [c], m / 128, by omega, by rw [ByteArray.size_append]; omega, by omega, hmg.out, rfl, by first | rfl | go_num, Lib.hid ⟨by rw [← E1.out]; exact HR.out.1, HR.out.2.alloc HR.out.2.size _⟩⟩
        case measure => simp [intOf]; omega
end Go.Proofs.YtpfccicahfncbaaDoor
namespace Go.Proofs.YtpfccicahfncbaaDoor
open Go.RowKit Wir
set_option linter.unusedVariables false
theorem shG_fail (F : Nat → UInt8) (L : Nat) : ∀ f i acc, (shG F L f i acc).2 < 0 → (shG F L f i acc).1 = 0
  | 0, _, _, _ => rfl
  | f + 1, i, acc, h => by
    unfold shG at h ⊢
    by_cases h1 : i < L ∧ i < 10
    · rw [if_pos h1] at h ⊢
      by_cases h2 : (i = 9 ∧ 1 < (F i).toNat) ∨ (0 < i ∧ (F i).toNat = 0)
      · rw [if_pos h2]
      · rw [if_neg h2] at h ⊢
        by_cases h3 : (F i).toNat < 128
        · rw [if_pos h3] at h
          simp at h
          omega
        · rw [if_neg h3] at h ⊢
          exact shG_fail F L f (i + 1) _ h
    · rw [if_neg h1]
theorem shG_pos (F : Nat → UInt8) (L : Nat) : ∀ f i acc, (shG F L f i acc).2 < 0 ∨ 1 ≤ (shG F L f i acc).2
  | 0, _, _ => .inl (by simp [shG])
  | f + 1, i, acc => by
    unfold shG
    by_cases h1 : i < L ∧ i < 10
    · rw [if_pos h1]
      by_cases h2 : (i = 9 ∧ 1 < (F i).toNat) ∨ (0 < i ∧ (F i).toNat = 0)
      · rw [if_pos h2]; exact .inl (by simp)
      · rw [if_neg h2]
        by_cases h3 : (F i).toNat < 128
        · rw [if_pos h3]; exact .inr (by simp; omega)
        · rw [if_neg h3]; exact shG_pos F L f (i + 1) _
    · rw [if_neg h1]; exact .inl (by simp)
/-- How many bytes it has; 0: there is none. -/
def rk (s : ByteArray) : Int := if (short (byteAt s) s.size).2 < 0 then 0 else (short (byteAt s) s.size).2
theorem pow7 (i b : Nat) (hi : i < 10) (hb : b < 256) (h9 : ¬ (i = 9 ∧ 1 < b)) : b % 128 * 2 ^ (7 * i) ≤ 9223372036854775808 := by
  by_cases h : i = 9
  · subst h
    have h2 : b % 128 * 2 ^ (7 * 9) ≤ 1 * 2 ^ (7 * 9) := Nat.mul_le_mul (by omega) (Nat.le_refl _)
    have e : 1 * 2 ^ (7 * 9) = 9223372036854775808 := by decide
    omega
  · have h1 : 2 ^ (7 * i) ≤ 2 ^ 56 := Nat.pow_le_pow_right (by omega) (by omega)
    have h2 : b % 128 * 2 ^ (7 * i) ≤ 127 * 2 ^ 56 := Nat.mul_le_mul (by omega) h1
    have e : 127 * 2 ^ 56 ≤ 9223372036854775808 := by decide
    omega
theorem acc63 (i acc : Nat) (hi : i < 10) (h : acc < 2 ^ (7 * i)) : acc < 9223372036854775808 := by
  have h1 : 2 ^ (7 * i) ≤ 2 ^ 63 := Nat.pow_le_pow_right (by omega) (by omega)
  have e : 2 ^ 63 = 9223372036854775808 := by decide
  omega
theorem acc_next (a x k : Nat) (ha : a < 2 ^ (7 * k)) : a + x % 128 * 2 ^ (7 * k) < 2 ^ (7 * (k + 1)) := by
  rw [Nat.mul_add, Nat.pow_add]
  have h : x % 128 * 2 ^ (7 * k) ≤ 127 * 2 ^ (7 * k) := Nat.mul_le_mul_right _ (by omega)
  show _ < 2 ^ (7 * k) * 128
  omega
set_option maxRecDepth 100000 in
set_option maxHeartbeats 0 in
theorem rshort_any (s : ByteArray) (w : World) (hs : s.size ≤ 9223372036854775807) :
    Calls Tryd.prog 54 #[.string s] w fun e w' => e = .returned (.tuple #[.int .u64 ((short (byteAt s) s.size).1 : Int), .int .i64 (rk s)]) ∧ w = w' := by
  go_enter Tryd.func54, Tryd.ntmps54
  go_wp2
  go_loopw [4, 5, 6] (fun n i _ wr => ∃ k acc : Nat, k ≤ 10 ∧ k ≤ s.size ∧ i = .int .i64 (k : Int) ∧ n = .int .u64 (acc : Int) ∧ Hid (acc < 2 ^ (7 * k) ∧ short (byteAt s) s.size = shG (byteAt s) s.size (11 - k) k acc) ∧ w = wr) (fun _ i _ _ => 10 - (intOf i).toNat)
  case atStart => exact ⟨0, 0, by omega, by omega, rfl, rfl, Lib.hid ⟨by decide, rfl⟩, rfl⟩
  case round =>
    obtain ⟨k, acc, hk, hks, rfl, rfl, HS, rfl⟩ := hrel
    by_cases h1 : k < s.size
    · by_cases h2 : k < 10
      · have h1i : (k : Int) < (s.size : Int) := by omega
        have h2i : (k : Int) < 10 := by omega
        obtain ⟨b, hb⟩ : ∃ b, byteAt s k = b := ⟨_, rfl⟩
        have gk : s[k] = b := (byteAt_get s k h1).trans hb
        have hbl := b.toNat_lt
        have ST : Hid (short (byteAt s) s.size = if (k = 9 ∧ 1 < b.toNat) ∨ (0 < k ∧ b.toNat = 0) then (0, -1) else if b.toNat < 128 then (acc + b.toNat % 128 * 2 ^ (7 * k), (k : Int) + 1) else shG (byteAt s) s.size (11 - (k + 1)) (k + 1) (acc + b.toNat % 128 * 2 ^ (7 * k))) := Lib.hid (by
          rw [HS.out.2, show 11 - k = (11 - (k + 1)) + 1 by omega, shG, if_pos ⟨h1, h2⟩, hb])
        clear hb
        have hvl : b.toNat < 256 := by omega
        by_cases hk9 : k = 9
        · subst hk9
          rw [show ((9 : Nat) : Int) = 9 from rfl]
          have ha63 := acc63 9 acc h2 HS.out.1
          have V2 : IntKind.u64.wrap ((acc : Int) + 9223372036854775808) = (acc : Int) + 9223372036854775808 := by rw [IntKind.wrap_u64]; omega
          have W2 : ((acc : Int) + 9223372036854775808) % 18446744073709551616 = (acc : Int) + 9223372036854775808 := by omega
          have V0 : IntKind.u64.wrap (acc : Int) = (acc : Int) := by rw [IntKind.wrap_u64]; omega
          have W0 : (acc : Int) % 18446744073709551616 = (acc : Int) := by omega
          have h1i' : (9 : Int) < (s.size : Int) := by omega
          by_cases hb1 : 1 < b.toNat
          · have X : Hid (short (byteAt s) s.size = (0, -1)) := Lib.hid (by rw [ST.out, if_pos (.inl ⟨rfl, hb1⟩)])
            have XK : Hid (rk s = 0) := Lib.hid (by unfold rk; rw [X.out]; rfl)
            have e2 : (1 : Int) < (b.toNat : Int) := by omega
            have V3 : IntKind.u64.wrap (b.toNat : Int) = (b.toNat : Int) := by rw [IntKind.wrap_u64]; omega
            have W3 : (b.toNat : Int) % 18446744073709551616 = (b.toNat : Int) := by omega
            clear hb1
            go_wp2
            go_ret2
            exact ⟨by rw [X.out, XK.out]; rfl, rfl⟩
          · by_cases hb0 : b.toNat = 0
            · have X : Hid (short (byteAt s) s.size = (0, -1)) := Lib.hid (by rw [ST.out, if_pos (.inr ⟨by omega, hb0⟩)])
              have XK : Hid (rk s = 0) := Lib.hid (by unfold rk; rw [X.out]; rfl)
              have e0 : (b.toNat : Int) = 0 := by omega
              clear hb1
              go_wp2
              go_ret2
              exact ⟨by rw [X.out, XK.out]; rfl, rfl⟩
            · have hb : b.toNat = 1 := by omega
              have X : Hid (short (byteAt s) s.size = (acc + 9223372036854775808, 10)) := Lib.hid (by rw [ST.out, if_neg (by omega), if_pos (by omega), hb]; rfl)
              have XK : Hid (rk s = 10) := Lib.hid (by unfold rk; rw [X.out]; rfl)
              have e0 : (b.toNat : Int) = 1 := by omega
              clear hb1 hb0
              go_wp2
              go_ret2
              exact ⟨by rw [X.out, XK.out]; first | rfl | simp, rfl⟩
        · have h9 : ¬ (k = 9 ∧ 1 < b.toNat) := fun h => hk9 h.1
          have e9 : ¬ (k : Int) = 9 := by omega
          obtain ⟨m, hm⟩ : ∃ m, 7 * k = m := ⟨_, rfl⟩
          have hm64 : m < 64 := by omega
          have hmi : 7 * (k : Int) = (m : Int) := by omega
          obtain ⟨r, hr⟩ : ∃ r, b.toNat % 128 = r := ⟨_, rfl⟩
          obtain ⟨x, hx⟩ : ∃ x, r * 2 ^ m = x := ⟨_, rfl⟩
          obtain ⟨y, hy⟩ : ∃ y, acc + x = y := ⟨_, rfl⟩
          have hx63 : x ≤ 9223372036854775808 := by rw [← hx, ← hr, ← hm]; exact pow7 k b.toNat h2 hvl h9
          have ha63 := acc63 k acc h2 HS.out.1
          have E1 : (b.toNat : Int) % 128 = (r : Int) := by omega
          have E2 : (r : Int) * 2 ^ m = (x : Int) := by rw [← hx]; simp
          have E3 : (acc : Int) + (x : Int) = (y : Int) := by omega
          have W1 : (x : Int) % 18446744073709551616 = (x : Int) := by omega
          have W2 : (y : Int) % 18446744073709551616 = (y : Int) := by omega
          have V1 : IntKind.u64.wrap (x : Int) = (x : Int) := by rw [IntKind.wrap_u64]; omega
          have V2 : IntKind.u64.wrap (y : Int) = (y : Int) := by rw [IntKind.wrap_u64]; omega
          have V3 : IntKind.u64.wrap (b.toNat : Int) = (b.toNat : Int) := by rw [IntKind.wrap_u64]; omega
          have W3 : (b.toNat : Int) % 18446744073709551616 = (b.toNat : Int) := by omega
          have HY : Hid (acc + b.toNat % 128 * 2 ^ (7 * k) = y ∧ y < 2 ^ (7 * (k + 1))) := Lib.hid (by
            have e : acc + b.toNat % 128 * 2 ^ (7 * k) = y := by rw [hr, hm, hx, hy]
            exact ⟨e, by rw [← e]; exact acc_next acc b.toNat k HS.out.1⟩)
          have HY0 : Hid (b.toNat = 0 → y = acc) := Lib.hid (fun h => by rw [← hy, ← hx, ← hr, h]; simp)
          clear hr hx hy hm hx63 ha63
          by_cases h128 : b.toNat < 128
          · have e128 : (b.toNat : Int) < 128 := by omega
            by_cases h0 : b.toNat = 0
            · by_cases hk0 : k = 0
              · have X : Hid (short (byteAt s) s.size = (y, (k : Int) + 1)) := Lib.hid (by rw [ST.out, if_neg (by omega), if_pos h128, HY.out.1])
                have XK : Hid (rk s = (k : Int) + 1) := Lib.hid (by unfold rk; rw [X.out, if_neg (by show ¬ (k : Int) + 1 < 0; omega)])
                subst hk0
                have e0 : (b.toNat : Int) = 0 := by omega
                go_wp2
                go_ret2
                exact ⟨by rw [X.out, XK.out]; first | rfl | (rw [HY0.out h0]; first | rfl | simp) | simp, rfl⟩
              · have X : Hid (short (byteAt s) s.size = (0, -1)) := Lib.hid (by rw [ST.out, if_pos (.inr ⟨by omega, h0⟩)])
                have XK : Hid (rk s = 0) := Lib.hid (by unfold rk; rw [X.out]; rfl)
                have e0 : (b.toNat : Int) = 0 := by omega
                have ek : (0 : Int) < (k : Int) := by omega
                go_wp2
                go_ret2
                exact ⟨by rw [X.out, XK.out]; rfl, rfl⟩
            · have X : Hid (short (byteAt s) s.size = (y, (k : Int) + 1)) := Lib.hid (by rw [ST.out, if_neg (by omega), if_pos h128, HY.out.1])
              have XK : Hid (rk s = (k : Int) + 1) := Lib.hid (by unfold rk; rw [X.out, if_neg (by show ¬ (k : Int) + 1 < 0; omega)])
              have e0 : ¬ (b.toNat : Int) = 0 := by omega
              go_wp2
              go_ret2
              exact ⟨by rw [X.out, XK.out]; first | rfl | simp, rfl⟩
          · have e128 : ¬ (b.toNat : Int) < 128 := by omega
            have HN : Hid (y < 2 ^ (7 * (k + 1)) ∧ short (byteAt s) s.size = shG (byteAt s) s.size (11 - (k + 1)) (k + 1) y) := Lib.hid ⟨HY.out.2, by rw [ST.out, if_neg (by omega), if_neg h128, HY.out.1]⟩
            go_wp2
            go_roundw
            case rel => exact ⟨k + 1, y, by omega, by omega, by go_num, by first | rfl | go_num, HN, by first | rfl | trivial⟩
            case measure => simp [intOf]; omega
      · have h1i : (k : Int) < (s.size : Int) := by omega
        have h2i : ¬ (k : Int) < 10 := by omega
        have X : Hid (short (byteAt s) s.size = (0, -1)) := Lib.hid (by rw [HS.out.2, shG_end _ _ _ _ _ (by omega)])
        have XK : Hid (rk s = 0) := Lib.hid (by unfold rk; rw [X.out]; rfl)
        go_wp2
        go_ret2
        exact ⟨by rw [X.out, XK.out]; rfl, rfl⟩
    · have h1i : ¬ (k : Int) < (s.size : Int) := by omega
      have X : Hid (short (byteAt s) s.size = (0, -1)) := Lib.hid (by rw [HS.out.2, shG_end _ _ _ _ _ (by omega)])
      have XK : Hid (rk s = 0) := Lib.hid (by unfold rk; rw [X.out]; rfl)
      go_wp2
      go_ret2
      exact ⟨by rw [X.out, XK.out]; rfl, rfl⟩
def RRdr (w : World) (R : Nat) (s : ByteArray) : Prop := Blk w R 74 #[.string s]
set_option maxRecDepth 100000 in
set_option maxHeartbeats 0 in
theorem ruint_any (s : ByteArray) (R : Nat) (w : World) (h : RRdr w R s) (hs : s.size ≤ 9223372036854775807) :
    Calls Tryd.prog 35 #[.pointer (some ⟨R, 0, none⟩)] w
      fun e w' => e = .returned (.tuple #[.int .u64 ((short (byteAt s) s.size).1 : Int), .int .i64 (uintE s)]) ∧ RRdr w' R (uintS s) ∧ ∀ B, B ≤ R → Below B w w' := by
  have c0 : w.cell? ⟨R, 0, none⟩ = some (.string s) := h.cell 0
  have f0 : w.frozen? ⟨R, 0, none⟩ = false := h.frozen 0
  have HR := Lib.hid h
  have SB := Lib.hid (shG_bound (byteAt s) s.size 11 0 0 (by decide) (by omega))
  have SP := Lib.hid (shG_pos (byteAt s) s.size 11 0 0)
  have SF := Lib.hid (shG_fail (byteAt s) s.size 11 0 0)
  clear h
  by_cases hneg : (short (byteAt s) s.size).2 < 0
  · have EK : Hid (rk s = 0) := Lib.hid (if_pos hneg)
    have EE : Hid (uintE s = 4) := Lib.hid (if_pos hneg)
    have ES : Hid (uintS s = s) := Lib.hid (if_pos hneg)
    have EN : Hid ((short (byteAt s) s.size).1 = 0) := Lib.hid (SF.out hneg)
    clear hneg
    go_enter Tryd.func35, Tryd.ntmps35
    go_wp2_with fail
    refine (rshort_any s _ hs).mono ?_; rintro e w' ⟨rfl, rfl⟩
    rw [EK.out, EN.out]
    go_wp2
    go_ret2
    exact ⟨by rw [EE.out, EN.out]; rfl, by rw [ES.out]; exact HR.out, fun B _ => Below.refl _ _⟩
  · obtain ⟨k, hk⟩ : ∃ k : Nat, (short (byteAt s) s.size).2 = (k : Int) := ⟨(short (byteAt s) s.size).2.toNat, by omega⟩
    have hk1 : 1 ≤ k := by have h := SP.out; have : (short (byteAt s) s.size).2 = (shG (byteAt s) s.size 11 0 0).2 := rfl; rw [← this, hk] at h; omega
    have hkl : k ≤ s.size := by have h := SB.out.2.2; have : (short (byteAt s) s.size).2 = (shG (byteAt s) s.size 11 0 0).2 := rfl; rw [← this, hk] at h; omega
    have EK : Hid (rk s = (k : Int)) := Lib.hid (by unfold rk; rw [if_neg hneg, hk])
    have EE : Hid (uintE s = 0) := Lib.hid (if_neg hneg)
    have ES : Hid (uintS s = s.extract k s.size) := Lib.hid (by unfold uintS; rw [if_neg hneg, hk]; rfl)
    have hk0 : ¬ (k : Int) = 0 := by omega
    have hkli : (k : Int) ≤ (s.size : Int) := by omega
    obtain ⟨N, hN⟩ : ∃ N, (short (byteAt s) s.size).1 = N := ⟨_, rfl⟩
    have HN := Lib.hid hN
    clear hneg hk hN
    go_enter Tryd.func35, Tryd.ntmps35
    go_wp2_with fail
    refine (rshort_any s _ hs).mono ?_; rintro e w' ⟨rfl, rfl⟩
    rw [EK.out, HN.out]
    go_wp2
    go_ret2
    refine ⟨by rw [EE.out, HN.out]; rfl, ?_, fun B hB => (Below.refl _ _).setCell (by show B ≤ R; exact hB) _⟩
    rw [ES.out]
    exact HR.out.set_ 0 _
end Go.Proofs.YtpfccicahfncbaaDoor
namespace Go.Proofs.YtpfccicahfncbaaDoor
open Go.RowKit Wir
set_option linter.unusedVariables false
set_option maxRecDepth 100000 in
set_option maxHeartbeats 0 in
theorem ruint_g (s : ByteArray) (R : Nat) (w : World) (h : RRdr w R s) (hs : s.size ≤ 9223372036854775807) :
    Calls Tryd.prog 35 #[.pointer (some ⟨R, 0, none⟩)] w
      fun e w' => e = .returned (.tuple #[.int .u64 ((short (byteAt s) s.size).1 : Int), .int .i64 (uintE s)]) ∧ RRdr w' R (uintS s) ∧ w.grownBy w' (some R) := by
  have c0 : w.cell? ⟨R, 0, none⟩ = some (.string s) := h.cell 0
  have f0 : w.frozen? ⟨R, 0, none⟩ = false := h.frozen 0
  have HR := Lib.hid h
  have SB := Lib.hid (shG_bound (byteAt s) s.size 11 0 0 (by decide) (by omega))
  have SP := Lib.hid (shG_pos (byteAt s) s.size 11 0 0)
  have SF := Lib.hid (shG_fail (byteAt s) s.size 11 0 0)
  clear h
  by_cases hneg : (short (byteAt s) s.size).2 < 0
  · have EK : Hid (rk s = 0) := Lib.hid (if_pos hneg)
    have EE : Hid (uintE s = 4) := Lib.hid (if_pos hneg)
    have ES : Hid (uintS s = s) := Lib.hid (if_pos hneg)
    have EN : Hid ((short (byteAt s) s.size).1 = 0) := Lib.hid (SF.out hneg)
    clear hneg
    go_enter Tryd.func35, Tryd.ntmps35
    go_wp2_with fail
    refine (rshort_any s _ hs).mono ?_; rintro e w' ⟨rfl, rfl⟩
    rw [EK.out, EN.out]
    go_wp2
    go_ret2
    exact ⟨by rw [EE.out, EN.out]; rfl, by rw [ES.out]; exact HR.out, ⟨rfl, rfl, rfl, Nat.le_refl _, fun _ _ _ => rfl⟩⟩
  · obtain ⟨k, hk⟩ : ∃ k : Nat, (short (byteAt s) s.size).2 = (k : Int) := ⟨(short (byteAt s) s.size).2.toNat, by omega⟩
    have hk1 : 1 ≤ k := by have h := SP.out; have : (short (byteAt s) s.size).2 = (shG (byteAt s) s.size 11 0 0).2 := rfl; rw [← this, hk] at h; omega
    have hkl : k ≤ s.size := by have h := SB.out.2.2; have : (short (byteAt s) s.size).2 = (shG (byteAt s) s.size 11 0 0).2 := rfl; rw [← this, hk] at h; omega
    have EK : Hid (rk s = (k : Int)) := Lib.hid (by unfold rk; rw [if_neg hneg, hk])
    have EE : Hid (uintE s = 0) := Lib.hid (if_neg hneg)
    have ES : Hid (uintS s = s.extract k s.size) := Lib.hid (by unfold uintS; rw [if_neg hneg, hk]; rfl)
    have hk0 : ¬ (k : Int) = 0 := by omega
    have hkli : (k : Int) ≤ (s.size : Int) := by omega
    obtain ⟨N, hN⟩ : ∃ N, (short (byteAt s) s.size).1 = N := ⟨_, rfl⟩
    have HN := Lib.hid hN
    clear hneg hk hN
    go_enter Tryd.func35, Tryd.ntmps35
    go_wp2_with fail
    refine (rshort_any s _ hs).mono ?_; rintro e w' ⟨rfl, rfl⟩
    rw [EK.out, HN.out]
    go_wp2
    go_ret2
    refine ⟨by rw [EE.out, HN.out]; rfl, ?_, only_setCell ⟨rfl, rfl, rfl, Nat.le_refl _, fun _ _ _ => rfl⟩ (p := ⟨R, 0, none⟩) (.inl rfl) _⟩
    rw [ES.out]
    exact HR.out.set_ 0 _
end Go.Proofs.YtpfccicahfncbaaDoor
namespace Go.Proofs.YtpfccicahfncbaaDoor
open Go.RowKit Wir
set_option linter.unusedVariables false
set_option linter.unusedSimpArgs false
set_option maxRecDepth 100000 in
theorem rputText_any (s t : ByteArray) (w : World) (hs : s.size ≤ 2305843009213693952) (ht : t.size ≤ 2305843009213693952) :
    Calls Tryd.prog 28 #[.string s, .string t] w fun e w' => e = .returned (.string (s ++ txL t)) ∧ Below w.heap.size w w' := by
  have C := Lib.hid (rput_any s t.size w (by omega) (by omega))
  have hl := (putN_length 9 t.size).2
  have hz : (s ++ bs (putL t.size)).size ≤ s.size + 10 := by rw [ByteArray.size_append, bs_size]; unfold putL; omega
  have E : Hid (s ++ txL t = s ++ bs (putL t.size) ++ t) := Lib.hid (by unfold txL; rw [ByteArray.append_assoc])
  clear hl
  generalize s ++ bs (putL t.size) = u at *
  go_enter Tryd.func28, Tryd.ntmps28
  go_wp2_with fail
  (with_reducible refine C.out.mono ?_)
  rintro e w1 ⟨rfl, hb⟩
  have HB := Lib.hid hb
  clear hb C
  go_wp2
  go_ret
  exact ⟨by rw [E.out]; rfl, HB.out⟩
theorem rrend_any (s : ByteArray) (R : Nat) (w : World) (h : RRdr w R s) :
    Calls Tryd.prog 37 #[.pointer (some ⟨R, 0, none⟩)] w fun e w' => e = .returned (.int .i64 (endE s)) ∧ w = w' := by
  have c0 : w.cell? ⟨R, 0, none⟩ = some (.string s) := h.cell 0
  clear h
  by_cases hz : s.size = 0
  · have E : Hid (endE s = 0) := Lib.hid (if_pos hz)
    have hi : (s.size : Int) = 0 := by omega
    clear hz
    go_enter Tryd.func37, Tryd.ntmps37
    go_wp2
    go_ret
    exact ⟨by rw [E.out]; rfl, rfl⟩
  · have E : Hid (endE s = 4) := Lib.hid (if_neg hz)
    have hi : 0 < (s.size : Int) := by omega
    clear hz
    go_enter Tryd.func37, Tryd.ntmps37
    go_wp2
    go_ret
    exact ⟨by rw [E.out]; rfl, rfl⟩
set_option maxRecDepth 100000 in
set_option maxHeartbeats 1000000 in
theorem rfix1_g (s : ByteArray) (R : Nat) (w : World) (h : RRdr w R s) (hs : s.size ≤ 140737488355328) :
    Calls Tryd.prog 42 #[.pointer (some ⟨R, 0, none⟩), .int .i64 1] w
      fun e w' => e = .returned (.tuple #[.int .u64 (fixV s 1 : Int), .int .i64 (takeE s 1)]) ∧ RRdr w' R (takeS s 1) ∧ w.grownBy w' (some R) := by
  have c0 : w.cell? ⟨R, 0, none⟩ = some (.string s) := h.cell 0
  have f0 : w.frozen? ⟨R, 0, none⟩ = false := h.frozen 0
  have HR := Lib.hid h
  clear h
  by_cases hlt : s.size < 1
  · have E1 : Hid (takeE s 1 = 4) := Lib.hid (takeE_off hlt)
    have E2 : Hid (takeS s 1 = s) := Lib.hid (by rw [takeS, if_pos hlt])
    have E3 : Hid (fixV s 1 = 0) := Lib.hid (by rw [fixV, if_pos hlt])
    have hi : (s.size : Int) < 1 := by omega
    clear hlt
    go_enter Tryd.func42, Tryd.ntmps42
    go_wp2
    go_ret2
    exact ⟨by rw [E1.out, E3.out]; rfl, by rw [E2.out]; exact HR.out, grown_refl _ _⟩
  · have E1 : Hid (takeE s 1 = 0) := Lib.hid (takeE_on (by omega))
    have E2 : Hid (takeS s 1 = s.extract 1 s.size) := Lib.hid (takeS_on (by omega))
    have E3 : Hid (fixV s 1 = beN (byteAt s) 1) := Lib.hid (by rw [fixV, if_neg hlt])
    have hi : ¬ (s.size : Int) < 1 := by omega
    have hi4 : (1 : Int) ≤ (s.size : Int) := by omega
    have h4 : 1 ≤ s.size := by omega
    clear hlt
    go_enter Tryd.func42, Tryd.ntmps42
    go_wp2_with fail
    go_loopw [6, 7] (fun nv i wr => ∃ (k N : Nat), k ≤ 1 ∧ i = .int .i64 k ∧ nv = .int .u64 N ∧ Hid (N = beN (byteAt s) k) ∧ wr = w) (fun _ i _ => 1 - (intOf i).toNat)
    case atStart => exact ⟨0, 0, by omega, rfl, rfl, Lib.hid rfl, rfl⟩
    case round =>
      obtain ⟨k, N, hk, rfl, rfl, HN, rfl⟩ := hrel
      by_cases hk4 : k < 1
      · have hks : k < s.size := by omega
        have hb := (byteAt s k).toNat_lt
        have hN : N < 72057594037927936 := by rw [HN.out]; exact beN_small _ _ (by omega)
        have E := byteAt_get s k hks
        have hki : (k : Int) < 1 := by omega
        have hk0 : (0 : Int) ≤ (k : Int) := by omega
        have hkl : (k : Int) < (s.size : Int) := by omega
        have HS : Hid (beN (byteAt s) (k + 1) = N * 256 + (byteAt s k).toNat) := Lib.hid (by rw [beN, ← HN.out])
        generalize byteAt s k = b at *
        go_wp2
        go_roundw
        case rel => exact ⟨k + 1, N * 256 + b.toNat, by omega, by go_num, by congr 1, Lib.hid HS.out.symm, trivial⟩
        case measure => simp [intOf]; omega
      · obtain rfl : k = 1 := by omega
        rw [show ((1 : Nat) : Int) = 1 from rfl]
        have HF : Hid (fixV s 1 = N) := Lib.hid (by rw [E3.out, HN.out])
        go_wp2
        go_ret2
        refine ⟨by rw [E1.out, HF.out]; rfl, ?_, only_setCell (grown_refl _ _) (p := ⟨R, 0, none⟩) (.inl rfl) _⟩
        rw [E2.out]
        exact HR.out.set_ 0 _
set_option maxRecDepth 100000 in
set_option maxHeartbeats 1000000 in
theorem rtext_g (s : ByteArray) (R m : Nat) (w : World) (h : RRdr w R s) (hs : s.size ≤ 9223372036854775807) (hm : m ≤ 9223372036854775807) :
    Calls Tryd.prog 36 #[.pointer (some ⟨R, 0, none⟩), .int .i64 (m : Int)] w
      fun e w' => e = .returned (.tuple #[.string (txT s m), .int .i64 (txE s m)]) ∧ RRdr w' R (txS s m) ∧ w.grownBy w' (some R) := by
  have c0 : w.cell? ⟨R, 0, none⟩ = some (.string s) := h.cell 0
  have f0 : w.frozen? ⟨R, 0, none⟩ = false := h.frozen 0
  have HR := Lib.hid h
  have SB := Lib.hid (shG_bound (byteAt s) s.size 11 0 0 (by decide) (by omega))
  have SP := Lib.hid (shG_pos (byteAt s) s.size 11 0 0)
  have SF := Lib.hid (shG_fail (byteAt s) s.size 11 0 0)
  have S64 := Lib.hid (short_64 s)
  have CS := Lib.hid (rshort_any s w hs)
  have EB : Hid (txB s m = decide (0 ≤ (short (byteAt s) s.size).2 ∧ (short (byteAt s) s.size).1 ≤ m ∧ (short (byteAt s) s.size).1 + (short (byteAt s) s.size).2.toNat ≤ s.size)) := Lib.hid rfl
  have ET : Hid (txT s m = if txB s m = true then s.extract (short (byteAt s) s.size).2.toNat ((short (byteAt s) s.size).2.toNat + (short (byteAt s) s.size).1) else ByteArray.empty) := Lib.hid rfl
  have EE : Hid (txE s m = if txB s m = true then 0 else 4) := Lib.hid rfl
  have ES : Hid (txS s m = if txB s m = true then s.extract ((short (byteAt s) s.size).2.toNat + (short (byteAt s) s.size).1) s.size else s) := Lib.hid rfl
  clear h
  by_cases hneg : (short (byteAt s) s.size).2 < 0
  · have EK : Hid (rk s = 0) := Lib.hid (if_pos hneg)
    have EN : Hid ((short (byteAt s) s.size).1 = 0) := Lib.hid (SF.out hneg)
    have hb : ¬ txB s m = true := by rw [EB.out, decide_eq_true_eq]; omega
    rw [if_neg hb] at ET EE ES
    clear hneg hb EB SB SP SF
    rw [EK.out, EN.out] at CS
    go_enter Tryd.func36, Tryd.ntmps36
    go_wp2_with fail
    refine CS.out.mono ?_; rintro e w' ⟨rfl, rfl⟩
    go_wp2
    go_ret2
    exact ⟨by rw [ET.out, EE.out]; rfl, by rw [ES.out]; exact HR.out, grown_refl _ _⟩
  · obtain ⟨k, hk⟩ : ∃ k : Nat, (short (byteAt s) s.size).2 = (k : Int) := ⟨(short (byteAt s) s.size).2.toNat, by omega⟩
    have hk1 : 1 ≤ k := by have h := SP.out; have : (short (byteAt s) s.size).2 = (shG (byteAt s) s.size 11 0 0).2 := rfl; rw [← this, hk] at h; omega
    have hkl : k ≤ s.size := by have h := SB.out.2.2; have : (short (byteAt s) s.size).2 = (shG (byteAt s) s.size 11 0 0).2 := rfl; rw [← this, hk] at h; omega
    have EK : Hid (rk s = (k : Int)) := Lib.hid (by unfold rk; rw [if_neg hneg, hk])
    rw [EK.out] at CS
    rw [hk] at EB ET ES
    obtain ⟨N, hN⟩ : ∃ N, (short (byteAt s) s.size).1 = N := ⟨_, rfl⟩
    rw [hN] at EB ET ES CS S64
    rw [Int.toNat_natCast] at EB ET ES
    have hN64 : N < 18446744073709551616 := S64.out
    clear hneg hk hN SB SP SF S64
    have hk0 : ((k : Int) == 0) = false := by rw [beq_eq_false_iff_ne]; omega
    have hkli : (k : Int) ≤ (s.size : Int) := by omega
    by_cases h1 : N ≤ m
    · by_cases h2 : N + k ≤ s.size
      · have hb : txB s m = true := by rw [EB.out, decide_eq_true_eq]; exact ⟨by omega, h1, h2⟩
        rw [if_pos hb] at ET EE ES
        have g1 : decide (m < N) = false := by rw [decide_eq_false_iff_not]; omega
        have g2 : decide (((s.size : Int) - (k : Int)) < (N : Int)) = false := by rw [decide_eq_false_iff_not]; omega
        have hNi : (N : Int) ≤ 9223372036854775807 := by omega
        clear hb EB h1
        go_enter Tryd.func36, Tryd.ntmps36
        go_wp2_with fail
        refine CS.out.mono ?_; rintro e w' ⟨rfl, rfl⟩
        go_wp2
        go_ret2
        refine ⟨by rw [ET.out, EE.out]; rfl, ?_, only_setCell (grown_refl _ _) (p := ⟨R, 0, none⟩) (.inl rfl) _⟩
        rw [ES.out]
        exact HR.out.set_ 0 _
      · have hb : ¬ txB s m = true := by rw [EB.out, decide_eq_true_eq]; omega
        rw [if_neg hb] at ET EE ES
        have g1 : decide (m < N) = false := by rw [decide_eq_false_iff_not]; omega
        have g2 : decide (((s.size : Int) - (k : Int)) < (N : Int)) = true := by rw [decide_eq_true_eq]; omega
        clear hb EB h1
        go_enter Tryd.func36, Tryd.ntmps36
        go_wp2_with fail
        refine CS.out.mono ?_; rintro e w' ⟨rfl, rfl⟩
        go_wp2
        go_ret2
        exact ⟨by rw [ET.out, EE.out]; rfl, by rw [ES.out]; exact HR.out, grown_refl _ _⟩
    · have hb : ¬ txB s m = true := by rw [EB.out, decide_eq_true_eq]; omega
      rw [if_neg hb] at ET EE ES
      have g1 : decide (m < N) = true := by rw [decide_eq_true_eq]; omega
      clear hb EB h1
      go_enter Tryd.func36, Tryd.ntmps36
      go_wp2_with fail
      refine CS.out.mono ?_; rintro e w' ⟨rfl, rfl⟩
      go_wp2
      go_ret2
      exact ⟨by rw [ET.out, EE.out]; rfl, by rw [ES.out]; exact HR.out, grown_refl _ _⟩
end Go.Proofs.YtpfccicahfncbaaDoor
namespace Go.Proofs.YtpfccicahfncbaaDoor
open Go.RowKit Wir
set_option linter.unusedVariables false
set_option linter.unusedSimpArgs false
theorem put_small (n : Nat) : (bs (putL n)).size ≤ 10 := by
  have := (putN_length 9 n).2; rw [bs_size]; unfold putL; omega
theorem numsB_one (n : Nat) : numsB [n] = bs (putL n) := by
  show bs (putL n) ++ ByteArray.empty = _
  exact ByteArray.append_empty
theorem numsB_four (a b c d : Nat) : numsB [a, b, c, d] = bs (putL a) ++ (bs (putL b) ++ (bs (putL c) ++ bs (putL d))) := by
  show bs (putL a) ++ (bs (putL b) ++ (bs (putL c) ++ (bs (putL d) ++ ByteArray.empty))) = _
  rw [ByteArray.append_empty]
set_option maxRecDepth 100000 in
set_option maxHeartbeats 4000000 in
theorem rattLaid_any (a : Att) (A : Option Addr) (n c : Nat) (w : World) (B : Nat) (hr : Reads w B 2 A n (xtV a.xs)) (hB : B ≤ w.heap.size) (hch : chkA a = 0) :
    Calls Tryd.prog 29 #[.agg (attV a A n c)] w fun e w' => e = .returned (.string (layA a)) ∧ Below w.heap.size w w' := by
  have HR := Lib.hid hr
  have HL := Lib.hid hr.xtLen
  have HB0 : Hid (Blk (w.alloc (.cells (attV a A n c) 31)) w.heap.size 31 (attV a A n c) ∧ Below w.heap.size w (w.alloc (.cells (attV a A n c) 31))) := Lib.hid ⟨Blk.new _ _ _, (Below.refl _ _).alloc (Nat.le_refl _) _⟩
  obtain ⟨k1, k2, k3⟩ := chkA_zero hch
  obtain ⟨j1, j2, j3, j4, j5⟩ := chk1_false k1
  obtain ⟨j6, j7, j8, j9⟩ := chk2_false k2
  have K3 := Lib.hid k3
  have hmt : ∃ mt : Nat, a.mt = (mt : Int) ∧ mt ≤ 1099511627776 := ⟨a.mt.toNat, by omega, by omega⟩
  obtain ⟨mt, hmt1, hmt2⟩ := hmt
  have LA : Hid (layA a = bs [a.nd] ++ bs (putL a.md.toNat) ++ bs (putL a.ui.toNat) ++ bs (putL a.gi.toNat) ++ bs (putL mt) ++ (if a.nd.toNat = 3 then txL a.tg else ByteArray.empty) ++ bs (putL n) ++ layX a.xs) := Lib.hid (by
    rw [layA, HL.out, hmt1, numsB_one, Int.toNat_natCast, numsB_four]
    simp only [ByteArray.append_assoc]
    rfl)
  have HMT := Lib.hid hmt1
  have hn16 : n ≤ 16 := by have := HL.out; omega
  have b2 := a.md.toNat_lt
  have b3 := a.ui.toNat_lt
  have b4 := a.gi.toNat_lt
  clear hr k1 k2 k3 j1 j2 j3 j4 j5 j6 j8 j9 hmt1 hch
  go_enter Tryd.func29, Tryd.ntmps29
  go_upto_region 1 with fail
  generalize w.alloc (.cells (attV a A n c) 31) = w1 at HB0 ⊢
  obtain ⟨c0, c1, c2, c3, c4, c5, c6⟩ := ratt_cells a A n c w1 _ HB0.out.1
  have RC := Lib.hid (fun j hj => byte_cv w1 a.nd (a.nd.toNat : Int) rfl j hj)
  go_upto_region 2 with (with_reducible refine conv_str_wp (e := 5) (by kernel_rfl) (by kernel_rfl) (by kernel_rfl) rfl _ rfl ⟨w1.heap.size, 0, none⟩ 1 1 rfl [a.nd] rfl RC.out ?_)
  have HB1 : Hid (Blk (w1.alloc (.cells #[.int .u8 (a.nd.toNat : Int)] 5)) w.heap.size 31 (attV a A n c) ∧ Below w.heap.size w (w1.alloc (.cells #[.int .u8 (a.nd.toNat : Int)] 5))) := Lib.hid ⟨HB0.out.1.alloc _, HB0.out.2.alloc HB0.out.2.size _⟩
  have NX : Hid (∀ x y : World, (Blk x w.heap.size 31 (attV a A n c) ∧ Below w.heap.size w x) → Below x.heap.size x y → (Blk y w.heap.size 31 (attV a A n c) ∧ Below w.heap.size w y)) := Lib.hid (fun x y h hb => ⟨h.1.below hb h.1.lt, h.2.trans (hb.mono h.2.size)⟩)
  generalize w1.alloc (.cells #[.int .u8 (a.nd.toNat : Int)] 5) = w2 at HB1 ⊢
  obtain ⟨s0, hs0⟩ : ∃ s0, bs [a.nd] = s0 := ⟨_, rfl⟩
  have hz0 : s0.size = 1 := by rw [← hs0, bs_size]; rfl
  rw [hs0] at LA ⊢
  clear hs0 RC HB0 c0 c1 c2 c3 c4 c5 c6
  have c1 : w2.cell? ⟨w.heap.size, 1, none⟩ = some (.int .u32 (a.md.toNat : Int)) := HB1.out.1.cell 1
  have P1 := Lib.hid (rput_any s0 a.md.toNat w2 (by omega) (by omega))
  have hp := put_small a.md.toNat
  obtain ⟨s1, hs1⟩ : ∃ s, s0 ++ bs (putL a.md.toNat) = s := ⟨_, rfl⟩
  have hz1 : s1.size ≤ 11 := by rw [← hs1, ByteArray.size_append]; omega
  rw [hs1] at LA P1
  clear hs1 hp hz0
  go_wp2_with fail
  (with_reducible refine P1.out.mono ?_)
  rintro e w3 ⟨rfl, hb⟩
  have HB2 := Lib.hid (NX.out _ _ HB1.out hb)
  clear hb P1 HB1 c1
  have c2 : w3.cell? ⟨w.heap.size, 2, none⟩ = some (.int .u32 (a.ui.toNat : Int)) := HB2.out.1.cell 2
  have P1 := Lib.hid (rput_any s1 a.ui.toNat w3 (by omega) (by omega))
  have hp := put_small a.ui.toNat
  obtain ⟨s2, hs2⟩ : ∃ s, s1 ++ bs (putL a.ui.toNat) = s := ⟨_, rfl⟩
  have hz2 : s2.size ≤ 21 := by rw [← hs2, ByteArray.size_append]; omega
  rw [hs2] at LA P1
  clear hs2 hp hz1
  go_wp2_with fail
  (with_reducible refine P1.out.mono ?_)
  rintro e w4 ⟨rfl, hb⟩
  have HB3 := Lib.hid (NX.out _ _ HB2.out hb)
  clear hb P1 HB2 c2
  have c3 : w4.cell? ⟨w.heap.size, 3, none⟩ = some (.int .u32 (a.gi.toNat : Int)) := HB3.out.1.cell 3
  have P1 := Lib.hid (rput_any s2 a.gi.toNat w4 (by omega) (by omega))
  have hp := put_small a.gi.toNat
  obtain ⟨s3, hs3⟩ : ∃ s, s2 ++ bs (putL a.gi.toNat) = s := ⟨_, rfl⟩
  have hz3 : s3.size ≤ 31 := by rw [← hs3, ByteArray.size_append]; omega
  rw [hs3] at LA P1
  clear hs3 hp hz2
  go_wp2_with fail
  (with_reducible refine P1.out.mono ?_)
  rintro e w5 ⟨rfl, hb⟩
  have HB4 := Lib.hid (NX.out _ _ HB3.out hb)
  clear hb P1 HB3 c3
  have c4 : w5.cell? ⟨w.heap.size, 4, none⟩ = some (.int .i64 (mt : Int)) := by rw [← HMT.out]; exact HB4.out.1.cell 4
  have P1 := Lib.hid (rput_any s3 mt w5 (by omega) (by omega))
  have hp := put_small mt
  obtain ⟨s4, hs4⟩ : ∃ s, s3 ++ bs (putL mt) = s := ⟨_, rfl⟩
  have hz4 : s4.size ≤ 41 := by rw [← hs4, ByteArray.size_append]; omega
  rw [hs4] at LA P1
  clear hs4 hp hz3 b2 b3 b4
  go_wp2_with fail
  (with_reducible refine P1.out.mono ?_)
  rintro e w6 ⟨rfl, hb⟩
  have HB5 := Lib.hid (NX.out _ _ HB4.out hb)
  clear hb P1 HB4 c4
  have c0 : w6.cell? ⟨w.heap.size, 0, none⟩ = some (.int .u8 (a.nd.toNat : Int)) := HB5.out.1.cell 0
  have c5 : w6.cell? ⟨w.heap.size, 5, none⟩ = some (.string a.tg) := HB5.out.1.cell 5
  obtain ⟨s5, hs5⟩ : ∃ s5, (s4 ++ if a.nd.toNat = 3 then txL a.tg else ByteArray.empty) = s5 := ⟨_, rfl⟩
  rw [hs5] at LA
  have HS5 := Lib.hid hs5
  clear hs5
  go_upto_if 31 with fail
  go_cut [3] (fun v wx => v = .string s5 ∧ Hid (Blk wx w.heap.size 31 (attV a A n c) ∧ Below w.heap.size w wx))
  case first =>
    by_cases h3 : a.nd.toNat = 3
    · have q3 : ((a.nd.toNat : Int) == 3) = true := by rw [beq_iff_eq]; omega
      have E2 : Hid (s4 ++ txL a.tg = s5) := Lib.hid (by rw [← HS5.out, if_pos h3])
      have PT := Lib.hid (rputText_any s4 a.tg w6 (by omega) (by omega))
      rw [E2.out] at PT
      clear h3
      go_wp2_with fail
      (with_reducible refine PT.out.mono ?_)
      rintro e w7 ⟨rfl, hb⟩
      have HB6 := Lib.hid (NX.out _ _ HB5.out hb)
      clear hb PT
      go_wp2
      go_meet
      exact ⟨rfl, HB6⟩
    · have q3 : ((a.nd.toNat : Int) == 3) = false := by rw [beq_eq_false_iff_ne]; omega
      have E2 : Hid (s4 = s5) := Lib.hid (by rw [← HS5.out, if_neg h3, ByteArray.append_empty])
      clear h3
      go_wp2
      go_meet
      exact ⟨by rw [E2.out], HB5⟩
  case rest =>
    obtain ⟨rfl, HB6⟩ := hcut
    have hz5 : s5.size ≤ 2000 := by
      rw [← HS5.out]
      split
      · have := putN_length 9 a.tg.size
        rw [txL, ByteArray.size_append, ByteArray.size_append, bs_size]
        show _ + ((putN 9 a.tg.size).length + _) ≤ _
        omega
      · rw [ByteArray.append_empty]; omega
    clear HS5 HB5 c0 c5 hz4
    have c6 : wc.cell? ⟨w.heap.size, 6, none⟩ = some (.slice A n c) := HB6.out.1.cell 6
    have P1 := Lib.hid (rput_any s5 n wc (by omega) (by omega))
    have hp := put_small n
    obtain ⟨s6, hs6⟩ : ∃ s, s5 ++ bs (putL n) = s := ⟨_, rfl⟩
    have hz6 : s6.size ≤ 2010 := by rw [← hs6, ByteArray.size_append]; omega
    rw [hs6] at LA P1
    clear hs6 hp hz5
    go_wp2_with fail
    (with_reducible refine P1.out.mono ?_)
    rintro e w8 ⟨rfl, hb⟩
    have HB7 := Lib.hid (NX.out _ _ HB6.out hb)
    clear hb P1 HB6 c6
    have SZ := Lib.hid (chkX_sizes a.xs _ K3.out)
    go_wp2_with fail
    go_loopw [3, 4] (fun v i wr => ∃ k : Nat, k ≤ n ∧ i = .int .i64 k ∧ v = .string (s6 ++ layX (a.xs.take k)) ∧ Hid (Blk wr w.heap.size 31 (attV a A n c) ∧ Below w.heap.size w wr)) (fun _ i _ => n - (intOf i).toNat)
    case atStart => exact ⟨0, by omega, rfl, by rw [List.take_zero, layX, ByteArray.append_empty], HB7⟩
    case round =>
      obtain ⟨k, hk, rfl, rfl, HK⟩ := hrel
      have c6 : wr.cell? ⟨w.heap.size, 6, none⟩ = some (.slice A n c) := HK.out.1.cell 6
      by_cases hlt : k < n
      · obtain ⟨ad, hkl, rfl, hbl, x0, x1⟩ := xt_cells HR.out k hlt
        have HT := Lib.hid (layX_take a.xs k hkl)
        obtain ⟨z1, z2⟩ := SZ.out _ (List.getElem_mem hkl)
        have hzl : (layX (a.xs.take k)).size ≤ 4371 * 16 := by
          have h1 := layX_size (a.xs.take k) (fun p hp => SZ.out p (List.mem_of_mem_take hp))
          have h2 : (a.xs.take k).length ≤ 16 := by rw [List.length_take]; omega
          omega
        have KS : Hid (∀ W, (Blk W w.heap.size 31 (attV a (some ad) n c) ∧ Below w.heap.size w W) → W.cell? ⟨w.heap.size, 6, none⟩ = some (.slice (some ad) n c) ∧ W.cell? (ad.add (k * 2)) = some (.string (a.xs[k]).1) ∧ W.cell? ⟨(ad.add (k * 2)).block, (ad.add (k * 2)).off + 1, none⟩ = some (.string (a.xs[k]).2)) := Lib.hid (fun W hW => by
          refine ⟨hW.1.cell 6, ?_, ?_⟩
          · rw [hW.2.cell (by rw [block_of_add]; omega)]; exact x0
          · show W.cell? ((ad.add (k * 2)).add 1) = _
            rw [hW.2.cell (by rw [block_of_add, block_of_add]; omega)]; exact x1)
        obtain ⟨x, hx⟩ : ∃ x, a.xs[k] = x := ⟨_, rfl⟩
        rw [hx] at HT z1 z2 KS
        obtain ⟨t, htt⟩ : ∃ t, s6 ++ layX (a.xs.take k) = t := ⟨_, rfl⟩
        have HT2 : Hid (s6 ++ layX (a.xs.take (k + 1)) = t ++ txL x.1 ++ txL x.2) := Lib.hid (by rw [HT.out, ← htt]; simp only [ByteArray.append_assoc])
        have hzt : t.size ≤ 100000 := by rw [← htt, ByteArray.size_append]; omega
        rw [htt]
        clear hx x0 x1 htt HT hzl
        have hki : (k : Int) < (n : Int) := by omega
        have hk0 : (0 : Int) ≤ (k : Int) := by omega
        have T1 := Lib.hid (fun W => rputText_any t x.1 W (by omega) (by omega))
        have zt := txL_size x.1
        have T2 := Lib.hid (fun W => rputText_any (t ++ txL x.1) x.2 W (by rw [ByteArray.size_append]; omega) (by omega))
        rw [← HT2.out] at T2
        obtain ⟨t1, ht1⟩ : ∃ t1, t ++ txL x.1 = t1 := ⟨_, rfl⟩
        rw [ht1] at T1 T2
        obtain ⟨t2, ht2⟩ : ∃ t2, s6 ++ layX (a.xs.take (k + 1)) = t2 := ⟨_, rfl⟩
        rw [ht2] at T2
        have HT3 := Lib.hid ht2
        clear zt ht1 ht2 HT2
        go_upto_region 12 with fail
        have HK1 : Hid (Blk wr.drew w.heap.size 31 (attV a (some ad) n c) ∧ Below w.heap.size w wr.drew) := Lib.hid ⟨HK.out.1.drew, HK.out.2.drew⟩
        have SA := KS.out _ HK1.out
        clear c6
        refine wp_region_held_drew (S := fun w' => w'.cell? ⟨w.heap.size, 6, none⟩ = some (.slice (some ad) n c) ∧ w'.cell? (ad.add (k * 2)) = some (.string x.1) ∧ w'.cell? ⟨(ad.add (k * 2)).block, (ad.add (k * 2)).off + 1, none⟩ = some (.string x.2)) (by kernel_rfl) (by first | exact SA | exact SB | exact SC) (fun hHeld => ?_)
        refine wpAnyH_take (i := 0) (oi := { dst := some 49, op := .move (.tmp 3), type := 9, pos := "ref.go:75", after := #[], guard := none }) (v := _) rfl (by as_aux_lemma => kernel_rfl) (by as_aux_lemma => kernel_rfl) (by as_aux_lemma => kernel_rfl) (fun _ _ _ h => h) (Or.inl ⟨by kernel_rfl, by (intro w hSw; (try dsimp only at hSw); go_simp; first | done | with_reducible rfl)⟩) (by assumption) ?_
        (try simp only [List.getElem_toArray, List.getElem_cons_succ, List.getElem_cons_zero, Act.put, List.setIfInBounds_toArray, List.set_cons_zero, List.set_cons_succ])
        refine wpAnyH_take (i := 1) (oi := { dst := some 50, op := .fieldAddr 31 (.tmp 1) 6, type := 0, pos := "ref.go:75", after := #[], guard := none }) (v := _) rfl (by as_aux_lemma => kernel_rfl) (by as_aux_lemma => kernel_rfl) (by as_aux_lemma => kernel_rfl) (fun _ _ _ h => h) (Or.inl ⟨by kernel_rfl, by (intro w hSw; (try dsimp only at hSw); go_simp; first | done | with_reducible rfl)⟩) (by assumption) ?_
        (try simp only [List.getElem_toArray, List.getElem_cons_succ, List.getElem_cons_zero, Act.put, List.setIfInBounds_toArray, List.set_cons_zero, List.set_cons_succ])
        refine wpAnyH_take (i := 2) (oi := { dst := some 51, op := .load 29 (.tmp 50), type := 29, pos := "ref.go:75", after := #[{ on := 1, ground := .data }], guard := none }) (v := _) rfl (by as_aux_lemma => kernel_rfl) (by as_aux_lemma => kernel_rfl) (by as_aux_lemma => kernel_rfl) (fun _ _ _ h => h) (Or.inl ⟨by kernel_rfl, by (intro w hSw; (try dsimp only at hSw); go_simp; first | done | with_reducible rfl)⟩) (by assumption) ?_
        (try simp only [List.getElem_toArray, List.getElem_cons_succ, List.getElem_cons_zero, Act.put, List.setIfInBounds_toArray, List.set_cons_zero, List.set_cons_succ])
        refine wpAnyH_take (i := 3) (oi := { dst := some 52, op := .move (.tmp 4), type := 3, pos := "ref.go:75", after := #[], guard := none }) (v := _) rfl (by as_aux_lemma => kernel_rfl) (by as_aux_lemma => kernel_rfl) (by as_aux_lemma => kernel_rfl) (fun _ _ _ h => h) (Or.inl ⟨by kernel_rfl, by (intro w hSw; (try dsimp only at hSw); go_simp; first | done | with_reducible rfl)⟩) (by assumption) ?_
        (try simp only [List.getElem_toArray, List.getElem_cons_succ, List.getElem_cons_zero, Act.put, List.setIfInBounds_toArray, List.set_cons_zero, List.set_cons_succ])
        refine wpAnyH_take (i := 4) (oi := { dst := some 53, op := .indexAddr 29 (.tmp 51) (.tmp 52), type := 0, pos := "ref.go:75", after := #[{ on := 2, ground := .data }, { on := 3, ground := .data }], guard := none }) (v := _) rfl (by as_aux_lemma => kernel_rfl) (by as_aux_lemma => kernel_rfl) (by as_aux_lemma => kernel_rfl) (fun _ _ _ h => h) (Or.inl ⟨by kernel_rfl, by (intro w hSw; (try dsimp only at hSw); go_simp; first | done | with_reducible rfl)⟩) (by assumption) ?_
        (try simp only [List.getElem_toArray, List.getElem_cons_succ, List.getElem_cons_zero, Act.put, List.setIfInBounds_toArray, List.set_cons_zero, List.set_cons_succ])
        refine wpAnyH_take (i := 5) (oi := { dst := some 54, op := .fieldAddr 60 (.tmp 53) 0, type := 0, pos := "ref.go:75", after := #[{ on := 4, ground := .data }], guard := none }) (v := _) rfl (by as_aux_lemma => kernel_rfl) (by as_aux_lemma => kernel_rfl) (by as_aux_lemma => kernel_rfl) (fun _ _ _ h => h) (Or.inl ⟨by kernel_rfl, by (intro w hSw; (try dsimp only at hSw); go_simp; first | done | with_reducible rfl)⟩) (by assumption) ?_
        (try simp only [List.getElem_toArray, List.getElem_cons_succ, List.getElem_cons_zero, Act.put, List.setIfInBounds_toArray, List.set_cons_zero, List.set_cons_succ])
        refine wpAnyH_take (i := 6) (oi := { dst := some 55, op := .load 9 (.tmp 54), type := 9, pos := "ref.go:75", after := #[{ on := 5, ground := .data }], guard := none }) (v := _) rfl (by as_aux_lemma => kernel_rfl) (by as_aux_lemma => kernel_rfl) (by as_aux_lemma => kernel_rfl) (fun _ _ _ h => h) (Or.inl ⟨by kernel_rfl, by (intro w hSw; (try dsimp only at hSw); go_simp; first | done | with_reducible rfl)⟩) (by assumption) ?_
        (try simp only [List.getElem_toArray, List.getElem_cons_succ, List.getElem_cons_zero, Act.put, List.setIfInBounds_toArray, List.set_cons_zero, List.set_cons_succ])
        refine wpAnyH_take (i := 8) (oi := { dst := some 57, op := .fieldAddr 31 (.tmp 1) 6, type := 0, pos := "ref.go:75", after := #[], guard := none }) (v := _) rfl (by as_aux_lemma => kernel_rfl) (by as_aux_lemma => kernel_rfl) (by as_aux_lemma => kernel_rfl) (fun _ _ _ h => h) (Or.inl ⟨by kernel_rfl, by (intro w hSw; (try dsimp only at hSw); go_simp; first | done | with_reducible rfl)⟩) (by assumption) ?_
        (try simp only [List.getElem_toArray, List.getElem_cons_succ, List.getElem_cons_zero, Act.put, List.setIfInBounds_toArray, List.set_cons_zero, List.set_cons_succ])
        refine wpAnyH_take (i := 9) (oi := { dst := some 58, op := .load 29 (.tmp 57), type := 29, pos := "ref.go:75", after := #[{ on := 8, ground := .data }], guard := none }) (v := _) rfl (by as_aux_lemma => kernel_rfl) (by as_aux_lemma => kernel_rfl) (by as_aux_lemma => kernel_rfl) (fun _ _ _ h => h) (Or.inl ⟨by kernel_rfl, by (intro w hSw; (try dsimp only at hSw); go_simp; first | done | with_reducible rfl)⟩) (by assumption) ?_
        (try simp only [List.getElem_toArray, List.getElem_cons_succ, List.getElem_cons_zero, Act.put, List.setIfInBounds_toArray, List.set_cons_zero, List.set_cons_succ])
        refine wpAnyH_take (i := 10) (oi := { dst := some 59, op := .move (.tmp 4), type := 3, pos := "ref.go:75", after := #[], guard := none }) (v := _) rfl (by as_aux_lemma => kernel_rfl) (by as_aux_lemma => kernel_rfl) (by as_aux_lemma => kernel_rfl) (fun _ _ _ h => h) (Or.inl ⟨by kernel_rfl, by (intro w hSw; (try dsimp only at hSw); go_simp; first | done | with_reducible rfl)⟩) (by assumption) ?_
        (try simp only [List.getElem_toArray, List.getElem_cons_succ, List.getElem_cons_zero, Act.put, List.setIfInBounds_toArray, List.set_cons_zero, List.set_cons_succ])
        refine wpAnyH_take (i := 11) (oi := { dst := some 60, op := .indexAddr 29 (.tmp 58) (.tmp 59), type := 0, pos := "ref.go:75", after := #[{ on := 9, ground := .data }, { on := 10, ground := .data }], guard := none }) (v := _) rfl (by as_aux_lemma => kernel_rfl) (by as_aux_lemma => kernel_rfl) (by as_aux_lemma => kernel_rfl) (fun _ _ _ h => h) (Or.inl ⟨by kernel_rfl, by (intro w hSw; (try dsimp only at hSw); go_simp; first | done | with_reducible rfl)⟩) (by assumption) ?_
        (try simp only [List.getElem_toArray, List.getElem_cons_succ, List.getElem_cons_zero, Act.put, List.setIfInBounds_toArray, List.set_cons_zero, List.set_cons_succ])
        refine wpAnyH_take (i := 12) (oi := { dst := some 61, op := .fieldAddr 60 (.tmp 60) 1, type := 0, pos := "ref.go:75", after := #[{ on := 11, ground := .data }], guard := none }) (v := _) rfl (by as_aux_lemma => kernel_rfl) (by as_aux_lemma => kernel_rfl) (by as_aux_lemma => kernel_rfl) (fun _ _ _ h => h) (Or.inl ⟨by kernel_rfl, by (intro w hSw; (try dsimp only at hSw); go_simp; first | done | with_reducible rfl)⟩) (by assumption) ?_
        (try simp only [List.getElem_toArray, List.getElem_cons_succ, List.getElem_cons_zero, Act.put, List.setIfInBounds_toArray, List.set_cons_zero, List.set_cons_succ])
        refine wpAnyH_take (i := 13) (oi := { dst := some 62, op := .load 9 (.tmp 61), type := 9, pos := "ref.go:75", after := #[{ on := 12, ground := .data }], guard := none }) (v := _) rfl (by as_aux_lemma => kernel_rfl) (by as_aux_lemma => kernel_rfl) (by as_aux_lemma => kernel_rfl) (fun _ _ _ h => h) (Or.inl ⟨by kernel_rfl, by (intro w hSw; (try dsimp only at hSw); go_simp; first | done | with_reducible rfl)⟩) (by assumption) ?_
        (try simp only [List.getElem_toArray, List.getElem_cons_succ, List.getElem_cons_zero, Act.put, List.setIfInBounds_toArray, List.set_cons_zero, List.set_cons_succ])
        refine wpAnyH_ready (rs := [7]) (by as_aux_lemma => kernel_rfl) (by simp) (AllReadyH.cons rfl (fun K hK => ?_) AllReadyH.nil)
        try simp only [List.getElem_toArray, List.getElem_cons_succ, List.getElem_cons_zero]
        go_simp
        go_at_call 28
        refine (T1.out _).mono ?_
        rintro e wn ⟨rfl, hbn⟩
        have HKn := Lib.hid (NX.out _ _ HK1.out hbn)
        have SB := KS.out _ HKn.out
        clear hbn
        go_simp
        refine hK.out _ _ (by first | exact SA | exact SB | exact SC) (fun hHeld => ?_)
        clear hK K
        (try simp only [List.getElem_toArray, List.getElem_cons_succ, List.getElem_cons_zero, Act.put, List.setIfInBounds_toArray, List.set_cons_zero, List.set_cons_succ])
        refine wpAnyH_ready (rs := [14]) (by as_aux_lemma => kernel_rfl) (by simp) (AllReadyH.cons rfl (fun K hK => ?_) AllReadyH.nil)
        try simp only [List.getElem_toArray, List.getElem_cons_succ, List.getElem_cons_zero]
        go_simp
        go_at_call 28
        refine (T2.out _).mono ?_
        rintro e wm ⟨rfl, hbm⟩
        have HKm := Lib.hid (NX.out _ _ HKn.out hbm)
        have SC := KS.out _ HKm.out
        clear hbm
        go_simp
        refine hK.out _ _ (by first | exact SA | exact SB | exact SC) (fun hHeld => ?_)
        clear hK K
        (try simp only [List.getElem_toArray, List.getElem_cons_succ, List.getElem_cons_zero, Act.put, List.setIfInBounds_toArray, List.set_cons_zero, List.set_cons_succ])
        refine wpAnyH_take (i := 15) (oi := { dst := some 3, op := .assign (.tmp 63), type := 9, pos := "ref.go:75", after := #[{ on := 14, ground := .data }, { on := 14, ground := .chain }, { on := 0, ground := .phase }, { on := 1, ground := .phase }, { on := 2, ground := .phase }, { on := 3, ground := .phase }, { on := 4, ground := .phase }, { on := 5, ground := .phase }, { on := 6, ground := .phase }, { on := 7, ground := .phase }, { on := 8, ground := .phase }, { on := 9, ground := .phase }, { on := 10, ground := .phase }, { on := 11, ground := .phase }, { on := 12, ground := .phase }, { on := 13, ground := .phase }, { on := 14, ground := .phase }], guard := none }) (v := _) rfl (by as_aux_lemma => kernel_rfl) (by as_aux_lemma => kernel_rfl) (by as_aux_lemma => kernel_rfl) (fun _ _ _ h => h) (Or.inl ⟨by kernel_rfl, by (intro w hSw; (try dsimp only at hSw); go_simp; first | done | with_reducible rfl)⟩) (by assumption) ?_
        (try simp only [List.getElem_toArray, List.getElem_cons_succ, List.getElem_cons_zero, Act.put, List.setIfInBounds_toArray, List.set_cons_zero, List.set_cons_succ])
        refine wpAnyH_done (by as_aux_lemma => kernel_rfl) ?_ _
        clear SA SB SC
        go_wp2
        go_roundw
        case rel => exact ⟨k + 1, by omega, by go_num, by rw [HT3.out], HKm⟩
        case measure => simp [intOf]; omega
      · obtain rfl : k = n := by omega
        have HE : Hid (layA a = s6 ++ layX (a.xs.take k)) := Lib.hid (by rw [LA.out, List.take_of_length_le (by rw [HL.out]; exact Nat.le_refl _)])
        go_wp2
        go_ret
        exact ⟨by rw [HE.out]; rfl, HK.out.2⟩
end Go.Proofs.YtpfccicahfncbaaDoor
namespace Go.Proofs.YtpfccicahfncbaaDoor
open Go.RowKit Wir
set_option linter.unusedVariables false
set_option linter.unusedSimpArgs false
theorem strF_step (s : ByteArray) (l : List Att) (k : Nat) (h : k < l.length) : strF s (l.drop k) = if chkA l[k] = 0 then strF (s ++ txL (layA l[k])) (l.drop (k + 1)) else (ByteArray.empty, 1) := by
  rw [List.drop_eq_getElem_cons h, strF]
/-- The seven cells of an element, as a walk spells them. -/
theorem seven_cells {w : World} {ad : Addr} {q : AttM} {i : Nat} (h : ∀ j, j < 7 → w.cell? ((ad.add (i * 7)).add j) = q.v[j]?) :
    w.cell? (ad.add (i * 7)) = some (.int .u8 (q.a.nd.toNat : Int)) ∧ w.cell? ⟨(ad.add (i * 7)).block, (ad.add (i * 7)).off + 1, none⟩ = some (.int .u32 (q.a.md.toNat : Int)) ∧ w.cell? ⟨(ad.add (i * 7)).block, (ad.add (i * 7)).off + 2, none⟩ = some (.int .u32 (q.a.ui.toNat : Int)) ∧ w.cell? ⟨(ad.add (i * 7)).block, (ad.add (i * 7)).off + 3, none⟩ = some (.int .u32 (q.a.gi.toNat : Int)) ∧ w.cell? ⟨(ad.add (i * 7)).block, (ad.add (i * 7)).off + 4, none⟩ = some (.int .i64 q.a.mt) ∧ w.cell? ⟨(ad.add (i * 7)).block, (ad.add (i * 7)).off + 5, none⟩ = some (.string q.a.tg) ∧ w.cell? ⟨(ad.add (i * 7)).block, (ad.add (i * 7)).off + 6, none⟩ = some (.slice q.A q.n q.c) := by
  refine ⟨?_, h 1 (by omega), h 2 (by omega), h 3 (by omega), h 4 (by omega), h 5 (by omega), h 6 (by omega)⟩
  have := h 0 (by omega)
  rw [show (ad.add (i * 7)).add 0 = ad.add (i * 7) from by rw [add_of_add, Nat.add_zero]] at this
  exact this
set_option maxRecDepth 100000 in
set_option maxHeartbeats 1000000 in
theorem attStrm_any (A : Option Addr) (n c : Nat) (M : List AttM) (w : World) (B : Nat) (hr : Reads w B 7 A n (attsV M)) (hM : AllRd w B M) (hz : ∀ q ∈ M, q.a.sized ∧ q.n ≤ 4611686018427387904) (hB : B ≤ w.heap.size) (hn : n ≤ 4611686018427387904) :
    Calls Tryd.prog 7 #[.slice A n c] w fun e w' => e = .returned (.tuple #[.string (strR (M.map (·.a))).1, .int .i64 (strR (M.map (·.a))).2]) ∧ Below w.heap.size w w' := by
  have HR := Lib.hid hr
  have HM := Lib.hid hM
  have HZ := Lib.hid hz
  have HL := Lib.hid hr.attLen
  have HLm : Hid ((M.map (·.a)).length = n) := Lib.hid (by rw [List.length_map]; exact hr.attLen)
  clear hr hM hz
  by_cases hbad : n < 1 ∨ 257 < n
  · have E : Hid (strR (M.map (·.a)) = (ByteArray.empty, 1)) := Lib.hid (by rw [strR, HLm.out, if_pos hbad])
    have hb' : n < 1 ∨ (1 ≤ n ∧ 257 < n) := by omega
    clear hbad
    go_enter Tryd.func7, Tryd.ntmps7
    rcases hb' with h | ⟨h, h'⟩
    all_goals
      go_wp2
      go_ret2
      exact ⟨by rw [E.out]; rfl, Below.refl _ _⟩
  · have h1 : 1 ≤ n := by omega
    have h2 : n ≤ 257 := by omega
    have E : Hid (strR (M.map (·.a)) = strF (bs (putL n)) (M.map (·.a))) := Lib.hid (by rw [strR, HLm.out, if_neg hbad])
    clear hbad
    have PU := Lib.hid (put_any ⟨#[]⟩ n w (by omega) (by decide))
    have ep : (⟨#[]⟩ : ByteArray) ++ bs (putL n) = bs (putL n) := ByteArray.empty_append
    rw [ep] at PU
    have hz0 : (bs (putL n)).size ≤ 10 := by have := putN_length 9 n; rw [bs_size]; show (putN 9 n).length ≤ _; omega
    obtain ⟨s0, hs0⟩ : ∃ s0, bs (putL n) = s0 := ⟨_, rfl⟩
    rw [hs0] at PU E hz0
    clear ep hs0
    have g1 : decide ((n : Int) < 1) = false := by rw [decide_eq_false_iff_not]; omega
    have g2 : decide (257 < (n : Int)) = false := by rw [decide_eq_false_iff_not]; omega
    go_enter Tryd.func7, Tryd.ntmps7
    go_wp2_with fail
    (with_reducible refine PU.out.mono ?_)
    rintro e w1 ⟨rfl, hb1⟩
    have HB1 := Lib.hid hb1
    clear hb1 PU
    go_wp2_with fail
    go_loopw [4, 23] (fun v i wr => ∃ (k : Nat) (t : ByteArray), k ≤ n ∧ i = .int .i64 k ∧ v = .string t ∧ t.size ≤ 10 + 80010 * k ∧ Hid (strR (M.map (·.a)) = strF t ((M.map (·.a)).drop k)) ∧ Hid (Below w.heap.size w wr)) (fun _ i _ => n - (intOf i).toNat)
    case atStart => exact ⟨0, s0, by omega, rfl, rfl, by omega, Lib.hid (by rw [List.drop_zero]; exact E.out), HB1⟩
    case round =>
      obtain ⟨k, t, hk, rfl, rfl, ht, HX, HK⟩ := hrel
      by_cases hlt : k < n
      · obtain ⟨ad, hkl, rfl, hbl, hcl⟩ := atts_cells HR.out k hlt
        have hcl2 : ∀ j, j < 7 → wr.cell? ((ad.add (k * 7)).add j) = (M[k]).v[j]? := fun j hj => by
          rw [HK.out.cell (by rw [block_of_add, block_of_add]; omega)]; exact hcl j hj
        obtain ⟨c0, c1, c2, c3, c4, c5, c6⟩ := seven_cells hcl2
        have hkm : k < (M.map (·.a)).length := by rw [HLm.out]; exact hlt
        have HS := Lib.hid (HX.out.trans (strF_step t (M.map (·.a)) k hkm))
        rw [List.getElem_map] at HS
        obtain ⟨⟨sz1, sz2, sz3⟩, sz4⟩ := HZ.out _ (List.getElem_mem hkl)
        have hrd := HM.out _ (List.getElem_mem hkl)
        have HRD := Lib.hid (hrd.below (HK.out.mono hB))
        obtain ⟨q, hq⟩ : ∃ q, M[k] = q := ⟨_, rfl⟩
        rw [hq] at c0 c1 c2 c3 c4 c5 c6 HS sz1 sz2 sz3 sz4 HRD
        have SZ3 := Lib.hid sz3
        have SZ1 := Lib.hid sz1
        clear hq hcl hcl2 hkm hrd sz3 sz1 HX
        have hki : (k : Int) < (n : Int) := by omega
        go_upto_region 7 with fail
        have BN : Hid (Blk (wr.alloc (.cells (attV q.a q.A q.n q.c) 27)) wr.heap.size 27 (attV q.a q.A q.n q.c) ∧ Below w.heap.size w (wr.alloc (.cells (attV q.a q.A q.n q.c) 27)) ∧ Reads (wr.alloc (.cells (attV q.a q.A q.n q.c) 27)) B 2 q.A q.n (xtV q.a.xs) ∧ B ≤ (wr.alloc (.cells (attV q.a q.A q.n q.c) 27)).heap.size) := Lib.hid (by
          have hs := HK.out.size
          exact ⟨Blk.new _ _ _, HK.out.alloc HK.out.size _, HRD.out.alloc (by omega) _, by simp; omega⟩)
        change Code.wp _ _ _ _ (wr.alloc (.cells (attV q.a q.A q.n q.c) 27))
        generalize wr.alloc (.cells (attV q.a q.A q.n q.c) 27) = w2 at BN ⊢
        generalize wr.heap.size = xb at BN ⊢
        clear c0 c1 c2 c3 c4 c5 c6 HRD
        obtain ⟨c0, c1, c2, c3, c4, c5, c6⟩ := att_cells q.a q.A q.n q.c w2 _ BN.out.1
        have P2 := Lib.hid (attPut_any q.a q.A q.n q.c w2 B BN.out.2.2.1 BN.out.2.2.2 SZ1.out sz4 (by omega) (fun p hp => ⟨Nat.le_trans (SZ3.out p hp).1 (by omega), Nat.le_trans (SZ3.out p hp).2 (by omega)⟩))
        go_wp2_with fail
        change Calls _ _ #[.agg (attV q.a q.A q.n q.c)] _ _
        (with_reducible refine P2.out.mono ?_)
        rintro e w3 ⟨rfl, hb3⟩
        have HB3 : Hid (Below w.heap.size w w3) := Lib.hid (BN.out.2.1.trans (hb3.mono BN.out.2.1.size))
        clear hb3 P2 BN c0 c1 c2 c3 c4 c5 c6
        by_cases hch : chkA q.a = 0
        · have HY : Hid (strR (M.map (·.a)) = strF (t ++ txL (layA q.a)) ((M.map (·.a)).drop (k + 1))) := Lib.hid (by rw [HS.out, if_pos hch])
          have hl := layA_size hch
          have hpr : putR q.a = layA q.a := by rw [putR, if_pos hch]
          rw [hch, hpr]
          clear hpr hch HS
          generalize layA q.a = u at *
          have T := Lib.hid (fun W => putText_any t u W (by omega) (by omega))
          have hx := txL_size u
          have hz2 : (t ++ txL u).size ≤ 10 + 80010 * (k + 1) := by rw [ByteArray.size_append]; omega
          clear hx
          go_wp2_with fail
          (with_reducible refine (T.out _).mono ?_)
          rintro e w4 ⟨rfl, hb4⟩
          have HB4 := Lib.hid (HB3.out.trans (hb4.mono HB3.out.size))
          clear hb4 T
          go_wp2
          go_roundw
          case rel => exact ⟨k + 1, t ++ txL u, by omega, by go_num, rfl, hz2, HY, HB4⟩
          case measure => simp [intOf]; omega
        · have HY : Hid (strR (M.map (·.a)) = (ByteArray.empty, 1)) := Lib.hid (by rw [HS.out, if_neg hch])
          have hc1 : chkA q.a = 1 := by rcases chkA_or q.a with h | h; exact absurd h hch; exact h
          rw [hc1]
          clear hch hc1 HS
          go_wp2
          go_ret2
          exact ⟨by rw [HY.out]; rfl, HB3.out⟩
      · obtain rfl : k = n := by omega
        have HY : Hid (strR (M.map (·.a)) = (t, 0)) := Lib.hid (by rw [HX.out, List.drop_of_length_le (by rw [HLm.out]; exact Nat.le_refl _)]; rfl)
        go_wp2
        go_ret2
        exact ⟨by rw [HY.out]; rfl, HK.out⟩
end Go.Proofs.YtpfccicahfncbaaDoor
