/- Walks: the reference's digit and Unhex. Conditions: the text can be held. -/
import Derived.Test.YtbfmdingbgdflaaUnhex
namespace Go.Proofs.Ytbfmdingbgdflaa
open Go.RowKit
set_option linter.unusedVariables false
/-- What a digit says; 16: it is none. -/
def dgB (c : UInt8) : Nat := if 48 ≤ c.toNat ∧ c.toNat ≤ 57 then c.toNat - 48 else if 97 ≤ c.toNat ∧ c.toNat ≤ 102 then c.toNat - 87 else 16
theorem dg_dv : ∀ c : UInt8, dvB c = if dgB c = 16 then -1 else (dgB c : Int) := by
  have h : ∀ n : Nat, n < 256 → dvB (UInt8.ofNat n) = if dgB (UInt8.ofNat n) = 16 then -1 else (dgB (UInt8.ofNat n) : Int) := by decide +kernel
  intro c
  have := h c.toNat c.toNat_lt
  rwa [UInt8.ofNat_toNat] at this
theorem dgB_le (c : UInt8) : dgB c ≤ 16 := by
  have := c.toNat_lt
  unfold dgB
  split
  · omega
  · split <;> omega
theorem rdigit_any (c : UInt8) (w : World) :
    Calls Try.prog 96 #[.int .u8 (c.toNat : Int)] w fun e w' => e = .returned (.int .u8 ((dgB c : Nat) : Int)) ∧ w = w' := by
  have hc := c.toNat_lt
  obtain ⟨n, hn⟩ : ∃ n, c.toNat = n := ⟨_, rfl⟩
  obtain ⟨d, hd⟩ : ∃ d, dgB c = d := ⟨_, rfl⟩
  have hd' : d = if 48 ≤ n ∧ n ≤ 57 then n - 48 else if 97 ≤ n ∧ n ≤ 102 then n - 87 else 16 := by rw [← hd, ← hn]; rfl
  rw [hn, hd]
  rw [hn] at hc
  clear hn hd
  by_cases h1 : 48 ≤ n
  · by_cases h2 : n ≤ 57
    · have e1 : (48 : Int) ≤ (n : Int) := by omega
      have e2 : (n : Int) ≤ 57 := by omega
      have ED : Hid (d = n - 48) := Lib.hid (by rw [hd', if_pos ⟨h1, h2⟩])
      clear hd'
      go_enter Try.func96, Try.ntmps96
      go_wp2
      go_ret
      refine ⟨?_, rfl⟩
      rw [ED.out]
      show Ending.returned (.int .u8 _) = _
      congr 2
      omega
    · have e1 : (48 : Int) ≤ (n : Int) := by omega
      have e2 : ¬ (n : Int) ≤ 57 := by omega
      by_cases h3 : 97 ≤ n
      · by_cases h4 : n ≤ 102
        · have e3 : (97 : Int) ≤ (n : Int) := by omega
          have e4 : (n : Int) ≤ 102 := by omega
          have ED : Hid (d = n - 87) := Lib.hid (by rw [hd', if_neg (by omega), if_pos ⟨h3, h4⟩])
          clear hd'
          go_enter Try.func96, Try.ntmps96
          go_wp2
          go_ret
          refine ⟨?_, rfl⟩
          rw [ED.out]
          show Ending.returned (.int .u8 _) = _
          congr 2
          omega
        · have e3 : (97 : Int) ≤ (n : Int) := by omega
          have e4 : ¬ (n : Int) ≤ 102 := by omega
          have ED : Hid (d = 16) := Lib.hid (by rw [hd', if_neg (by omega), if_neg (by omega)])
          clear hd'
          go_enter Try.func96, Try.ntmps96
          go_wp2
          go_ret
          exact ⟨by rw [ED.out]; rfl, rfl⟩
      · have e3 : ¬ (97 : Int) ≤ (n : Int) := by omega
        have ED : Hid (d = 16) := Lib.hid (by rw [hd', if_neg (by omega), if_neg (by omega)])
        clear hd'
        go_enter Try.func96, Try.ntmps96
        go_wp2
        go_ret
        exact ⟨by rw [ED.out]; rfl, rfl⟩
  · have e1 : ¬ (48 : Int) ≤ (n : Int) := by omega
    have e3 : ¬ (97 : Int) ≤ (n : Int) := by omega
    have ED : Hid (d = 16) := Lib.hid (by rw [hd', if_neg (by omega), if_neg (by omega)])
    clear hd'
    go_enter Try.func96, Try.ntmps96
    go_wp2
    go_ret
    exact ⟨by rw [ED.out]; rfl, rfl⟩
set_option maxRecDepth 100000 in
set_option maxHeartbeats 0 in
theorem runhex_any (s : ByteArray) (w : World) (hs : s.size ≤ 140737488351232) :
    Calls Try.prog 78 #[.string s] w fun e w' => (∃ u k, e = .returned (.tuple #[.string u, .int .i64 k]) ∧ UhR s u k) ∧ Below w.heap.size w w' := by
  by_cases hodd : s.size % 2 = 1
  · have hG : Hid (¬ uhG s) := Lib.hid (fun h => by have := h.1; omega)
    have ho1 : (s.size : Int) % 2 = 1 := by omega
    have ho2 : Int.tmod (s.size : Int) 2 = 1 := by rw [Int.tmod_eq_emod_of_nonneg (by omega)]; exact ho1
    go_enter Try.func78, Try.ntmps78
    go_wp2
    go_ret2
    exact ⟨⟨_, _, rfl, .inr ⟨hG.out, rfl, rfl⟩⟩, Below.refl _ _⟩
  obtain ⟨m, hm⟩ : ∃ m, s.size = 2 * m := ⟨s.size / 2, by omega⟩
  have HN := Lib.hid hm
  have ho1 : (s.size : Int) % 2 = 0 := by omega
  have ho2 : Int.tmod (s.size : Int) 2 = 0 := by rw [Int.tmod_eq_emod_of_nonneg (by omega)]; exact ho1
  have hm2 : m ≤ 70368744175616 := by omega
  clear hodd hm
  go_enter Try.func78, Try.ntmps78
  go_wp2
  clear ho1 ho2
  go_loopw [4, 5, 6, 7] (fun v i _ _ wr => ∃ k : Nat, k ≤ m ∧ i = .int .i64 ((2 * k : Nat) : Int) ∧ Hid (wr.ownsRow w.heap.size 5 1 v k (u8s (unL s k)) ∧ Below w.heap.size w wr) ∧ Hid (∀ j, j < 2 * k → 0 ≤ dvB (byteAt s j))) (fun _ i _ _ _ => 2 * m - (intOf i).toNat)
  case atStart => exact ⟨0, by omega, rfl, Lib.hid ⟨World.ownsRow_nil _ _ _ _, Below.refl _ _⟩, Lib.hid (fun j hj => absurd hj (by omega))⟩
  case round =>
    obtain ⟨k, hk, rfl, HR, HJ⟩ := hrel
    obtain ⟨q, hq⟩ : ∃ q, 2 * k = q := ⟨_, rfl⟩
    rw [hq]
    by_cases hlt : k < m
    · have hsz2 := HN.out
      have hqs : q < s.size := by omega
      have hqs1 : q + 1 < s.size := by omega
      have hqi : (q : Int) < (s.size : Int) := by omega
      have hqi1 : (q : Int) + 1 < (s.size : Int) := by omega
      have hq2 : (q : Int) + 2 = ((2 * (k + 1) : Nat) : Int) := by omega
      obtain ⟨x, hx⟩ : ∃ x, byteAt s q = x := ⟨_, rfl⟩
      obtain ⟨y, hy⟩ : ∃ y, byteAt s (q + 1) = y := ⟨_, rfl⟩
      have g1 : s[q] = x := (byteAt_get s q hqs).trans hx
      have g2 : s[q + 1] = y := (byteAt_get s (q + 1) hqs1).trans hy
      have z1 := dgB_le x
      have z2 := dgB_le y
      have p1 := dg_dv x
      have p2 := dg_dv y
      rw [← hx] at p1
      rw [← hy] at p2
      rw [hx] at p1
      rw [hy] at p2
      have HX : Hid ((dvB (byteAt s q) = if dgB x = 16 then -1 else (dgB x : Int)) ∧ dvB (byteAt s (q + 1)) = if dgB y = 16 then -1 else (dgB y : Int)) := Lib.hid ⟨by rw [hx]; exact p1, by rw [hy]; exact p2⟩
      clear hsz2 p1 p2 hx hy
      go_wp2_with fail
      refine (rdigit_any x _).mono ?_; rintro e w' ⟨rfl, rfl⟩
      go_wp2_with fail
      refine (rdigit_any y _).mono ?_; rintro e w' ⟨rfl, rfl⟩
      generalize dgB x = d1 at z1 HX ⊢
      generalize dgB y = d2 at z2 HX ⊢
      by_cases hb1 : d1 = 16
      · have hG : Hid (¬ uhG s) := Lib.hid (fun h => by have := h.2 q hqs; rw [HX.out.1, if_pos hb1] at this; omega)
        have BL := Lib.hid HR.out.2
        subst hb1
        rw [show ((16 : Nat) : Int) = 16 from rfl]
        go_wp2
        go_ret2
        exact ⟨⟨_, _, rfl, .inr ⟨hG.out, rfl, rfl⟩⟩, BL.out⟩
      have hd1 : ¬ (15 : Int) < (d1 : Int) := by omega
      by_cases hb2 : d2 = 16
      · have hG : Hid (¬ uhG s) := Lib.hid (fun h => by have := h.2 (q + 1) hqs1; rw [HX.out.2, if_pos hb2] at this; omega)
        have BL := Lib.hid HR.out.2
        subst hb2
        rw [show ((16 : Nat) : Int) = 16 from rfl]
        go_wp2
        go_ret2
        exact ⟨⟨_, _, rfl, .inr ⟨hG.out, rfl, rfl⟩⟩, BL.out⟩
      have hd2 : ¬ (15 : Int) < (d2 : Int) := by omega
      have h16 : d1 < 16 := by omega
      have l16 : d2 < 16 := by omega
      have HV : Hid (unL s (k + 1) = unL s k ++ [UInt8.ofNat (16 * d1 + d2)]) := Lib.hid (by
        rw [unL_succ, hq]; unfold hv; rw [HX.out.1, HX.out.2, if_neg hb1, if_neg hb2]; rfl)
      have HJ' : Hid (∀ j, j < 2 * (k + 1) → 0 ≤ dvB (byteAt s j)) := Lib.hid (fun j hj => by
        rcases Nat.lt_or_ge j (2 * k) with h | h
        · exact HJ.out j h
        · have : j = q ∨ j = q + 1 := by omega
          rcases this with rfl | rfl
          · rw [HX.out.1, if_neg hb1]; omega
          · rw [HX.out.2, if_neg hb2]; omega)
      have hle := HR.out.2.size
      have hk1 : k ≤ 4611686018427387904 := by omega
      have hk2 : (k + 1) * 1 ≤ 140737488355328 := by omega
      have W1 : IntKind.u8.wrap (16 * (d1 : Int)) = 16 * (d1 : Int) := by rw [IntKind.wrap_u8]; omega
      have W2 : IntKind.u8.wrap (16 * (d1 : Int) + (d2 : Int)) = 16 * (d1 : Int) + (d2 : Int) := by rw [IntKind.wrap_u8]; omega
      have W3 : (16 * (d1 : Int)) % 256 = 16 * (d1 : Int) := by omega
      have W4 : (16 * (d1 : Int) + (d2 : Int)) % 256 = 16 * (d1 : Int) + (d2 : Int) := by omega
      clear z1 z2 hb1 hb2
      go_wp2_with (with_reducible refine append1_at elemByte rfl _ _ rfl w.heap.size u4 k (u8s (unL s k)) rfl HR.out.1 _ wr.heap.size rfl rfl rfl hk1 hk2 hle ?_; intro v' w' ho' hg')
      have HR' : Hid (w'.ownsRow w.heap.size 5 1 v' (k + 1) (u8s (unL s (k + 1))) ∧ Below w.heap.size w w') := Lib.hid (by
        refine ⟨?_, below_grown HR.out.2 hg' (fun g hg => own_ge HR.out.1 _ hg)⟩
        rw [HV.out]
        have e : u8s (unL s k ++ [UInt8.ofNat (16 * d1 + d2)]) = u8s (unL s k) ++ [.int .u8 (16 * (d1 : Int) + (d2 : Int))] := by
          simp only [u8s, List.map_append, List.map_cons, List.map_nil]
          congr 3 <;> (rw [UInt8.toNat_ofNat']; omega)
        rw [e]
        exact ho')
      clear ho' hg'
      go_wp2
      go_roundw
      case rel => exact ⟨k + 1, by omega, by have := hq2; first | (congr 1; omega) | congr 1, HR', HJ'⟩
      case measure => simp [intOf]; omega
    · obtain rfl : k = m := by omega
      have hG : Hid (uhG s) := Lib.hid ⟨by have := HN.out; omega, fun j hj => HJ.out j (by have := HN.out; omega)⟩
      have EU : Hid (bs (unL s (s.size / 2)) = bs (unL s k)) := Lib.hid (by rw [HN.out, Nat.mul_div_cancel_left _ (by omega)])
      obtain ⟨A, c, rfl, hrd⟩ := own_reads HR.out.1
      have BL := Lib.hid HR.out.2
      have ULN := Lib.hid (unL_len s k)
      have hqe : (q : Int) = (s.size : Int) := by have := HN.out; omega
      rw [hqe]
      by_cases h0 : k = 0
      · subst h0
        have HE : Hid (unL s 0 = []) := Lib.hid rfl
        rcases A with _ | ad
        · have hcn : ∀ W, (convert 48 9 (.slice none 0 c)).run Try.prog W = .ok (.string { data := #[] }) W := fun W => by
            simp [convert, Conv.bytesToString, go_sem]; rfl
          go_wp2
          go_ret2
          exact ⟨⟨_, _, rfl, .inl ⟨hG.out, by rw [EU.out, HE.out]; rfl, rfl⟩⟩, BL.out⟩
        · go_wp2_with (with_reducible refine conv_str_wp (e := 5) (by kernel_rfl) (by kernel_rfl) (by kernel_rfl) rfl _ rfl ad 0 c rfl [] rfl (fun j hj => absurd hj (by omega)) ?_)
          go_ret2
          exact ⟨⟨_, _, rfl, .inl ⟨hG.out, by rw [EU.out, HE.out], rfl⟩⟩, BL.out⟩
      · obtain ⟨ad, rfl, _, hcell⟩ := reads_u8 hrd (by omega)
        have HC := Lib.hid hcell
        clear hcell
        go_wp2_with (with_reducible refine conv_str_wp (e := 5) (by kernel_rfl) (by kernel_rfl) (by kernel_rfl) rfl _ rfl ad k c rfl (unL s k) ULN.out HC.out ?_)
        go_ret2
        exact ⟨⟨_, _, rfl, .inl ⟨hG.out, by rw [EU.out], rfl⟩⟩, BL.out⟩
end Go.Proofs.Ytbfmdingbgdflaa
