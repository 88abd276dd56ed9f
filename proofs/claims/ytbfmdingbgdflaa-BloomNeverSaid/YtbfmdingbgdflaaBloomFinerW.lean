/- Walk: the law BloomFiner returns true. -/
import Derived.Test.YtbfmdingbgdflaaBloAwake
namespace Go.Proofs.Ytbfmdingbgdflaa
open Go.RowKit Blo
set_option linter.unusedVariables false
theorem made_x (w : World) (B : Nat) (A : Option Addr) (cnt c n H m N : Nat) (l : List ByteArray) (h : Reads w B 1 A cnt (strV l)) (hB : B ≤ w.heap.size) (hc : cnt ≤ 9223372036854775807) (hz : ∀ s ∈ l, s.size ≤ 9223372036854775807) (hN : 8 * n = N) (hn : 8 * n = 2 ^ m) (h6 : 6 ≤ m) (hm : m ≤ 24) (h1 : 1 ≤ H) (hH : H ≤ 8) :
    Calls Try.prog 14 #[.int .i64 (N : Int), .int .i64 (H : Int), .slice A cnt c] w fun e w' => e = .returned (.pointer (some ⟨w.heap.size + 1, 0, none⟩)) ∧
      Flt w' (w.heap.size + 1) w.heap.size n n H (addL n H (fun _ => 0) (l.map byteAt)) ∧ Below w.heap.size w w' := by
  subst hN
  exact made_any w B A cnt c n H m l h hB hc hz hn h6 hm h1 hH
theorem reads_strs_take {w : World} {B n k : Nat} {A : Option Addr} {l : List ByteArray} (h : Reads w B 1 A n (strV l)) (hk : k ≤ n) : Reads w B 1 A k (strV (l.take k)) := by
  have hl := h.len
  refine ⟨by rw [strV_length, List.length_take]; omega, fun h0 => ?_⟩
  obtain ⟨ad, e, hb, hc⟩ := h.2 (by omega)
  refine ⟨ad, e, hb, fun j u hj => hc j u ?_⟩
  simp only [strV, List.map_take] at hj ⊢
  rw [List.getElem?_take] at hj
  split at hj
  · exact hj
  · cases hj
theorem shl_wrap (N x a : Nat) (hx : N ≤ 1048576) (ha : a ≤ 8) : wrap64 ((N : Int) * 2 ^ a) = ((N * 2 ^ a : Nat) : Int) := by
  have h : 2 ^ a ≤ 2 ^ 8 := Nat.pow_le_pow_right (by omega) ha
  have h2 : N * 2 ^ a ≤ 1048576 * 2 ^ 8 := Nat.mul_le_mul hx h
  have e : (N : Int) * 2 ^ a = ((N * 2 ^ a : Nat) : Int) := by simp
  rw [e]
  exact IntWalk.wrap64_in _ (by omega)
set_option maxRecDepth 100000 in
set_option maxHeartbeats 1000000 in
theorem bloomFiner_walk (size more hashes : Int) (A : Option Addr) (n c : Nat) (l : List ByteArray) (A' : Option Addr) (n' c' : Nat) (l' : List ByteArray) (h1 : -9223372036854775808 ≤ size) (h2 : size ≤ 9223372036854775807) (h3 : -9223372036854775808 ≤ more) (h4 : more ≤ 9223372036854775807) (h5 : -9223372036854775808 ≤ hashes) (h6 : hashes ≤ 9223372036854775807)
    (w : World) (hr : Reads w w.heap.size 1 A n (strV l)) (hn : n * 16 ≤ 140737488351232) (hz : ∀ s ∈ l, s.size ≤ 9223372036854775807) (hcap : n ≤ c) (hr' : Reads w w.heap.size 1 A' n' (strV l')) (hn' : n' * 16 ≤ 140737488351232) (hz' : ∀ s ∈ l', s.size ≤ 9223372036854775807) (hcap' : n' ≤ c') :
    Calls Try.prog 3 #[.int .i64 size, .int .i64 more, .int .i64 hashes, .slice A n c, .slice A' n' c'] w fun e w' => e = .returned (.bool true) ∧ Below w.heap.size w w' := by
  obtain ⟨b1, b2⟩ := tmod_bd size 5 (by omega)
  obtain ⟨b3, b4⟩ := tmod_bd more 4 (by omega)
  obtain ⟨b5, b6⟩ := tmod_bd hashes 8 (by omega)
  obtain ⟨H, hH⟩ : ∃ R : Nat, 1 + hashes.tmod 8 % 8 = (R : Int) := ⟨(1 + hashes.tmod 8 % 8).toNat, by omega⟩
  have H1 : 1 ≤ H := by omega
  have H8 : H ≤ 8 := by omega
  obtain ⟨a, ha⟩ : ∃ a, (size.tmod 5 % 5).toNat = a := ⟨_, rfl⟩
  obtain ⟨b, hb⟩ : ∃ b, (more.tmod 4 % 4).toNat = b := ⟨_, rfl⟩
  have ha4 : a ≤ 4 := by omega
  have hb3 : b ≤ 3 := by omega
  have hpa : 2 ^ a ≤ 2 ^ 4 := Nat.pow_le_pow_right (by omega) ha4
  obtain ⟨N, hN⟩ : ∃ N, 64 * 2 ^ a = N := ⟨_, rfl⟩
  obtain ⟨M, hM⟩ : ∃ M, N * 2 ^ b = M := ⟨_, rfl⟩
  have hB : wrap64 (64 * 2 ^ (size.tmod 5 % 5).toNat) = (N : Int) := by
    rw [ha, ← hN]; exact shl_wrap 64 0 a (by omega) (by omega)
  have hW : wrap64 ((N : Int) * 2 ^ (more.tmod 4 % 4).toNat) = (M : Int) := by
    rw [hb, ← hM]; exact shl_wrap N 0 b (by omega) (by omega)
  have EN1 : Hid (8 * (8 * 2 ^ a) = N) := Lib.hid (by omega)
  have EN2 : Hid (8 * (8 * 2 ^ a) = 2 ^ (6 + a)) := Lib.hid (by rw [Nat.pow_add]; omega)
  have EM1 : Hid (8 * (8 * 2 ^ a * 2 ^ b) = M) := Lib.hid (by rw [← hM, ← EN1.out]; simp only [Nat.mul_assoc])
  have EM2 : Hid (8 * (8 * 2 ^ a * 2 ^ b) = 2 ^ (6 + a + b)) := Lib.hid (by rw [← Nat.mul_assoc, EN2.out, ← Nat.pow_add])
  have HNM := Lib.hid (And.intro hN hM)
  have HAB := Lib.hid (And.intro ha hb)
  clear hN hM ha hb hpa
  have HA := Lib.hid hr'
  have HZ' := Lib.hid hz'
  have P1 : Hid (∃ m U, (if 100 < n then 100 else n) = m ∧ Reads w w.heap.size 1 A m (strV U) ∧ m ≤ 100 ∧ ∀ s ∈ U, s.size ≤ 9223372036854775807) := Lib.hid (by
    by_cases h : 100 < n
    · rw [if_pos h]
      exact ⟨100, l.take 100, rfl, reads_strs_take hr (by omega), by omega, fun s hs => hz s (List.mem_of_mem_take hs)⟩
    · rw [if_neg h]
      exact ⟨n, l, rfl, hr, by omega, hz⟩)
  clear hr hr' hz hz'
  obtain ⟨m, U, hm, hRU, hm100, hzU⟩ := P1.out
  have HU := Lib.hid hRU
  have HZ := Lib.hid hzU
  clear hRU hzU P1
  by_cases h100 : 100 < n
  all_goals
    first | rw [if_pos h100] at hm | rw [if_neg h100] at hm
    subst hm
    go_enter Try.func3, Try.ntmps3
    go_wp2_with fail
    refine (bawake_any _).mono ?_; rintro e w1 ⟨rfl, hb1⟩
    have B1 := Lib.hid hb1
    have s1 := hb1.size
    clear hb1
    go_wp2_with fail
    refine (made_x w1 w.heap.size A _ _ (8 * 2 ^ a) H (6 + a) N U (HU.out.below B1.out) s1 (by omega) HZ.out EN1.out EN2.out (by omega) (by omega) H1 H8).mono ?_
    rintro e w2 ⟨rfl, hf2, hb2⟩
    have F2 := Lib.hid hf2
    have B2 := Lib.hid (B1.out.trans (hb2.mono s1))
    have s2 := hb2.size
    clear hf2 hb2
    go_wp2_with fail
    clear hB hW hH
    refine (made_x w2 w.heap.size A _ _ (8 * 2 ^ a * 2 ^ b) H (6 + a + b) M U (HU.out.below B2.out) (by omega) (by omega) HZ.out EM1.out EM2.out (by omega) (by omega) H1 H8).mono ?_
    rintro e w3 ⟨rfl, hf3, hb3'⟩
    have F3 := Lib.hid (And.intro hf3 (F2.out.below hb3'))
    have B3 := Lib.hid (B2.out.trans (hb3'.mono (Nat.le_trans s1 s2)))
    have s3 := hb3'.size
    clear hf3 hb3'
    have FIN : Hid (∀ I, hasF (addL (8 * 2 ^ a * 2 ^ b) H (fun _ => 0) (U.map byteAt)) I (8 * 2 ^ a * 2 ^ b) H = true → hasF (addL (8 * 2 ^ a) H (fun _ => 0) (U.map byteAt)) I (8 * 2 ^ a) H = true) := Lib.hid (fun I => finer (8 * 2 ^ a) (2 ^ b) H (U.map byteAt) I)
    generalize addL (8 * 2 ^ a * 2 ^ b) H (fun _ => 0) (U.map byteAt) = FW at F3 FIN
    generalize addL (8 * 2 ^ a) H (fun _ => 0) (U.map byteAt) = FN at F3 FIN
    go_wp2
    go_loopw [10, 15] (fun _ i wr => ∃ k : Nat, k ≤ n' ∧ i = .int .i64 k ∧ Hid (Below w3.heap.size w3 wr)) (fun _ i _ => n' - (intOf i).toNat)
    case atStart => exact ⟨0, by omega, rfl, Lib.hid (Below.refl _ _)⟩
    case round =>
      obtain ⟨k, hk, rfl, HR⟩ := hrel
      by_cases hlt : k < n'
      · obtain ⟨ad, rfl, hbk, hck⟩ := HA.out.str hlt
        have RC : Hid (∀ w', Below w3.heap.size w3 w' → w'.cell? (ad.add k) = some (.string (sAt l' k))) := Lib.hid (fun w' hb' => ((B3.out.trans (hb'.mono B3.out.size)).cell (by rw [block_of_add]; exact hbk)).trans (hck k hlt))
        have HLA := HA.out.len
        have hsz : (sAt l' k).size ≤ 9223372036854775807 := HZ'.out _ (sAt_mem (by omega))
        clear hck HLA
        generalize sAt l' k = s at *
        have hck1 := RC.out _ HR.out
        by_cases hF : hasF FW (byteAt s) (8 * 2 ^ a * 2 ^ b) H = true
        · have hG := FIN.out _ hF
          have HF := Lib.hid hF
          have HG := Lib.hid hG
          clear hF hG
          go_wp2_with fail
          refine (id_any s _ hsz).mono ?_
          rintro e w4 ⟨rfl, hb4⟩
          have B4 := Lib.hid (HR.out.trans (hb4.mono HR.out.size))
          clear hb4
          go_wp2_with fail
          refine (has_any w4 _ _ _ _ H (6 + a + b) _ _ (F3.out.1.below B4.out) EM2.out (by omega) H8).mono ?_
          rintro e w5 ⟨rfl, hb5⟩
          rw [HF.out]
          have B5 := Lib.hid (B4.out.trans (hb5.mono B4.out.size))
          have hck2 := RC.out _ B5.out
          clear hb5
          go_wp2_with fail
          refine (id_any s _ hsz).mono ?_
          rintro e w6 ⟨rfl, hb6⟩
          have B6 := Lib.hid (B5.out.trans (hb6.mono B5.out.size))
          clear hb6
          go_wp2_with fail
          refine (has_any w6 _ _ _ _ H (6 + a) _ _ (F3.out.2.below B6.out) EN2.out (by omega) H8).mono ?_
          rintro e w7 ⟨rfl, hb7⟩
          rw [HG.out]
          have B7 := Lib.hid (B6.out.trans (hb7.mono B6.out.size))
          clear hb7
          go_wp2
          go_roundw
          case rel => exact ⟨k + 1, by omega, by go_num, B7⟩
          case measure => simp [intOf]; omega
        · rw [Bool.not_eq_true] at hF
          have HF := Lib.hid hF
          clear hF
          go_wp2_with fail
          refine (id_any s _ hsz).mono ?_
          rintro e w4 ⟨rfl, hb4⟩
          have B4 := Lib.hid (HR.out.trans (hb4.mono HR.out.size))
          clear hb4
          go_wp2_with fail
          refine (has_any w4 _ _ _ _ H (6 + a + b) _ _ (F3.out.1.below B4.out) EM2.out (by omega) H8).mono ?_
          rintro e w5 ⟨rfl, hb5⟩
          rw [HF.out]
          have B5 := Lib.hid (B4.out.trans (hb5.mono B4.out.size))
          clear hb5
          go_wp2
          go_roundw
          case rel => exact ⟨k + 1, by omega, by go_num, B5⟩
          case measure => simp [intOf]; omega
      · obtain rfl : k = n' := by omega
        have BE := Lib.hid (B3.out.trans (HR.out.mono B3.out.size))
        go_wp2
        go_ret
        exact ⟨rfl, BE.out⟩
end Go.Proofs.Ytbfmdingbgdflaa
