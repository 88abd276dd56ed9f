/- Several texts of the claim joined into one (part 2): plain facts and walks. No conditions but those that each theorem tells. -/
import Derived.Test.YtpfccicahfncbaaMgPackBack1
import Derived.BigQuiet
import Derived.Deep.DeepCutAuto
import Derived.Test.YtpfccicahfncbaaBuf2
import Derived.Test.YtpfccicahfncbaaPut
import Derived.Test.YtpfccicahfncbaaRefFix
import Derived.Test.YtpfccicahfncbaaRefS
import Derived.Test.YtpfccicahfncbaaRefK
import Derived.Test.YtpfccicahfncbaaDig4
import Derived.Test.YtpfccicahfncbaaGen
namespace Go.Proofs.Ytpfccicahfncbaa
open Go.RowKit Wir
set_option linter.unusedVariables false
/-- The payload of the frame at the front, and what stands behind it. -/
def unF (s : ByteArray) : Option (ByteArray × ByteArray) :=
  if s.size < 8 ∨ 67108864 < fixV s 4 then none
  else if (s.extract 8 s.size).size < fixV s 4 then none
  else if (onC (onC 0 (s.extract 0 4)) ((s.extract 8 s.size).extract 0 (fixV s 4))).toNat ≠ fixV (s.extract 4 s.size) 4 then none
  else some ((s.extract 8 s.size).extract 0 (fixV s 4), s.extract (8 + fixV s 4) s.size)
def unV (s : ByteArray) : Value := match unF s with
  | none => .tuple #[.string ByteArray.empty, .string ByteArray.empty, .int .i64 4]
  | some q => .tuple #[.string q.1, .string q.2, .int .i64 0]
theorem unV_none {s : ByteArray} (h : unF s = none) : unV s = .tuple #[.string ByteArray.empty, .string ByteArray.empty, .int .i64 4] := by unfold unV; rw [h]
theorem unV_some {s p r : ByteArray} (h : unF s = some (p, r)) : unV s = .tuple #[.string p, .string r, .int .i64 0] := by unfold unV; rw [h]
theorem takeS_on {s : ByteArray} {k : Nat} (h : k ≤ s.size) : takeS s k = s.extract k s.size := by rw [takeS, if_neg (by omega)]
theorem takeE_on {s : ByteArray} {k : Nat} (h : k ≤ s.size) : takeE s k = 0 := by rw [takeE, if_neg (by omega)]
theorem takeE_off {s : ByteArray} {k : Nat} (h : s.size < k) : takeE s k = 4 := by rw [takeE, if_pos h]
theorem byteAt_part (s : ByteArray) (f t i : Nat) (hi : i < t - f) (ht : t ≤ s.size) : byteAt (s.extract f t) i = byteAt s (f + i) := by
  have h1 : i < (s.extract f t).size := by rw [ByteArray.size_extract]; omega
  rw [← byteAt_get _ _ h1, ← byteAt_get _ _ (show f + i < s.size by omega), ByteArray.getElem_extract]
theorem extract_extract4 (s : ByteArray) (h : 8 ≤ s.size) : (s.extract 4 s.size).extract 4 (s.extract 4 s.size).size = s.extract 8 s.size := by
  have e : (s.extract 4 s.size).size = s.size - 4 := by rw [ByteArray.size_extract]; omega
  refine ext_byteAt (by simp only [ByteArray.size_extract]; omega) fun i hi => ?_
  have hi' : i < s.size - 8 := by simp only [ByteArray.size_extract] at hi; omega
  rw [byteAt_part _ _ _ _ (by rw [e]; omega) (Nat.le_refl _), byteAt_part _ _ _ _ (by omega) (Nat.le_refl _), byteAt_part _ _ _ _ (by omega) (Nat.le_refl _)]
  congr 1; omega
theorem takeS_le (s : ByteArray) (k : Nat) : (takeS s k).size ≤ s.size := by
  unfold takeS
  split
  · exact Nat.le_refl _
  · rw [ByteArray.size_extract]; omega
theorem fixed4_any (s : ByteArray) (R : Nat) (w : World) (h : Rdr w R s) (hs : s.size ≤ 9223372036854775807) :
    Calls Try.prog 55 #[.pointer (some ⟨R, 0, none⟩), .int .i64 4] w
      fun e w' => e = .returned (.tuple #[.int .u64 (fixV s 4 : Int), .int .i64 (takeE s 4)]) ∧ Rdr w' R (takeS s 4) ∧ ∀ B, B ≤ R → Below B w w' := fixed_any s R 4 w h hs (by omega) (by omega)
theorem fix4_lt (s : ByteArray) : fixV s 4 < 4294967296 := by
  unfold fixV
  split
  · omega
  · exact beN_lt _ 4
set_option maxRecDepth 100000 in
set_option maxHeartbeats 1000000 in
theorem unframe_any (s : ByteArray) (w : World) (hs : s.size ≤ 140737488355328) :
    Calls Try.prog 83 #[.string s] w fun e w' => e = .returned (unV s) ∧ Below w.heap.size w w' := by
  have N1 := Lib.hid (fun W => newReader_any s W)
  have F1 := Lib.hid (fun R W h => fixed4_any s R W h (by omega))
  have hz4 : (takeS s 4).size ≤ s.size := takeS_le s 4
  have F2 := Lib.hid (fun R W h => fixed4_any (takeS s 4) R W h (by omega))
  have U0 := Lib.hid (rfl : unF s = unF s)
  obtain ⟨n, hn⟩ : ∃ n, fixV s 4 = n := ⟨_, rfl⟩
  obtain ⟨c, hc⟩ : ∃ c, fixV (takeS s 4) 4 = c := ⟨_, rfl⟩
  rw [hn] at F1
  rw [hc] at F2
  have HN := Lib.hid hn
  have HC := Lib.hid hc
  have hn32 : n < 4294967296 := by rw [← hn]; exact fix4_lt s
  have hc32 : c < 4294967296 := by rw [← hc]; exact fix4_lt _
  clear hn hc U0
  go_enter Try.func83, Try.ntmps83
  go_wp2_with fail
  (with_reducible refine (N1.out _).mono ?_)
  rintro e w1 ⟨rfl, hr1, hb1⟩
  have R1 := Lib.hid hr1
  have B1 : Hid (Below w.heap.size w w1) := Lib.hid hb1
  clear hr1 hb1 N1
  go_wp2_with fail
  (with_reducible refine (F1.out _ _ R1.out).mono ?_)
  rintro e w2 ⟨rfl, hr2, hb2⟩
  have R2 := Lib.hid hr2
  have B2 : Hid (Below w.heap.size w w2) := Lib.hid (B1.out.trans (hb2 _ (Nat.le_refl _)))
  clear hr2 hb2 F1 R1 B1
  go_wp2_with fail
  (with_reducible refine (F2.out _ _ R2.out).mono ?_)
  rintro e w3 ⟨rfl, hr3, hb3⟩
  have R3 := Lib.hid hr3
  have B3 : Hid (Below w.heap.size w w3) := Lib.hid (B2.out.trans (hb3 _ (Nat.le_refl _)))
  clear hr3 hb3 F2 R2 B2
  by_cases h8 : s.size < 8
  · have E := Lib.hid (unV_none (show unF s = none by rw [unF, if_pos (Or.inl h8)]))
    go_wp2
    go_ret3
    exact ⟨by rw [E.out]; rfl, B3.out⟩
  by_cases hm : 67108864 < n
  · have E := Lib.hid (unV_none (show unF s = none by rw [unF, if_pos (Or.inr (by rw [HN.out]; exact hm))]))
    go_wp2
    go_ret3
    exact ⟨by rw [E.out]; rfl, B3.out⟩
  have e4 : takeS s 4 = s.extract 4 s.size := takeS_on (by omega)
  have e8 : takeS (takeS s 4) 4 = s.extract 8 s.size := by
    rw [e4, takeS_on (by rw [ByteArray.size_extract]; omega), extract_extract4 s (by omega)]
  rw [e8] at R3
  rw [e4] at HC
  have hr : (s.extract 8 s.size).size = s.size - 8 := by rw [ByteArray.size_extract]; omega
  have UN : Hid ((s.extract 8 s.size).size < n → unF s = none) := Lib.hid (fun h => by rw [unF, if_neg (by rw [HN.out]; omega), if_pos (by rw [HN.out]; exact h)])
  have UC : Hid (¬ (s.extract 8 s.size).size < n → (onC (onC 0 (s.extract 0 4)) ((s.extract 8 s.size).extract 0 n)).toNat ≠ c → unF s = none) := Lib.hid (fun h h' => by rw [unF, if_neg (by rw [HN.out]; omega), if_neg (by rw [HN.out]; exact h), if_pos (by rw [HN.out, HC.out]; exact h')])
  have US : Hid (¬ (s.extract 8 s.size).size < n → (onC (onC 0 (s.extract 0 4)) ((s.extract 8 s.size).extract 0 n)).toNat = c → unF s = some ((s.extract 8 s.size).extract 0 n, s.extract (8 + n) s.size)) := Lib.hid (fun h h' => by rw [unF, if_neg (by rw [HN.out]; omega), if_neg (by rw [HN.out]; exact h), if_neg (by rw [HN.out, HC.out]; exact not_not_intro h'), HN.out])
  obtain ⟨r, hrr⟩ : ∃ r, s.extract 8 s.size = r := ⟨_, rfl⟩
  rw [hrr] at R3 UN UC US hr
  have hcv := Lib.hid hrr
  have T6 := Lib.hid (fun R W h => take_any' r R n W h (by omega) (by omega))
  clear e4 e8 hrr hz4
  by_cases hrn : r.size < n
  · have E := Lib.hid (unV_none (UN.out hrn))
    rw [takeE_off hrn] at T6
    clear UN UC US hrn
    go_wp2_with fail
    (with_reducible refine (T6.out _ _ R3.out).mono ?_)
    rintro e w4 ⟨rfl, hr4, hb4⟩
    have B4 : Hid (Below w.heap.size w w4) := Lib.hid (B3.out.trans (hb4 _ (Nat.le_refl _)))
    clear hr4 hb4 T6
    go_wp2
    go_ret3
    exact ⟨by rw [E.out]; rfl, B4.out⟩
  · have hps : (r.extract 0 n).size = n := by rw [ByteArray.size_extract]; omega
    rw [takeE_on (by omega), show tkR r n = r.extract 0 n from by rw [tkR, if_neg hrn]] at T6
    have hC := UC.out hrn
    have hS := US.out hrn
    have UC' := Lib.hid hC
    have US' := Lib.hid hS
    clear UN UC US hC hS
    obtain ⟨p, hp⟩ : ∃ p, r.extract 0 n = p := ⟨_, rfl⟩
    rw [hp] at T6 UC' US' hps
    clear hp
    have C1 := Lib.hid (fun W => crc_any (s.extract 0 4) W (by rw [ByteArray.size_extract]; omega))
    have C2 := Lib.hid (fun x W => on_any x p W (by omega))
    obtain ⟨x, hx⟩ : ∃ x, onC 0 (s.extract 0 4) = x := ⟨_, rfl⟩
    rw [hx] at C1 UC' US'
    clear hx
    obtain ⟨y, hy⟩ : ∃ y, onC x p = y := ⟨_, rfl⟩
    have C2' := Lib.hid (fun W => C2.out x W)
    rw [hy] at C2' UC' US'
    have hy32 := y.toNat_lt
    clear hy C2
    have h4i : (4 : Int) ≤ (s.size : Int) := by omega
    go_wp2_with fail
    (with_reducible refine (T6.out _ _ R3.out).mono ?_)
    rintro e w4 ⟨rfl, hr4, hb4⟩
    have B4 : Hid (Below w.heap.size w w4) := Lib.hid (B3.out.trans (hb4 _ (Nat.le_refl _)))
    clear hr4 hb4 T6
    go_wp2_with fail
    (with_reducible refine (C1.out _).mono ?_)
    rintro e w5 ⟨rfl, hb5⟩
    have B5 : Hid (Below w.heap.size w w5) := Lib.hid (B4.out.trans (hb5.mono B4.out.size))
    clear hb5 C1
    go_wp2_with fail
    (with_reducible refine (C2'.out _).mono ?_)
    rintro e w6 ⟨rfl, hb6⟩
    have B6 : Hid (Below w.heap.size w w6) := Lib.hid (B5.out.trans (hb6.mono B5.out.size))
    clear hb6 C2'
    by_cases hyc : y.toNat = c
    · have E := Lib.hid (unV_some (US'.out hyc))
      have hyi : ((y.toNat : Int) != (c : Int)) = false := by rw [bne_eq_false_iff_eq]; omega
      have h8n : (8 : Int) + (n : Int) ≤ (s.size : Int) := by omega
      have v1 : IntKind.i64.wrap (8 + (n : Int)) = 8 + (n : Int) := by rw [IntKind.wrap_i64]; omega
      have v2 : IntKind.i64.wrap (8 + (p.size : Int)) = 8 + (n : Int) := by rw [hps]; exact v1
      clear hyc
      go_upto_region 9 with fail
      go_quiet (fail)
      go_wp2
      go_ret3
      exact ⟨by rw [E.out]; rfl, below_drewN B6.out _⟩
    · have E := Lib.hid (unV_none (UC'.out hyc))
      have hyi : ((y.toNat : Int) != (c : Int)) = true := by rw [bne_iff_ne]; omega
      clear hyc
      go_wp2
      go_ret3
      exact ⟨by rw [E.out]; rfl, B6.out⟩
end Go.Proofs.Ytpfccicahfncbaa
namespace Go.Proofs.Ytpfccicahfncbaa
open Go.RowKit
set_option linter.unusedVariables false
theorem cut_four (W : World) (N : Nat) : (Instr.sliceAt 138 (.pointer (some ⟨N, 0, none⟩)) (some (.int .i64 4)) none none).run Try.prog W = .ok (.slice (some ⟨N, 4, none⟩) 4 4) W := by
  have hi : (Try.prog.info? 5).map (·.size) = some 1 := by kernel_rfl
  obtain ⟨i, hi, hs⟩ := Option.map_eq_some_iff.1 hi
  have ht : Try.prog.underlying 138 = some (.array 8 5) := by kernel_rfl
  simp [Instr.sliceAt, Instr.sureAddr, run_underlying ht, Instr.sliceBounds, Instr.sliceBound, asIntOf, sizeOf, typeInfo, hi, hs, Addr.add, go_sem]
set_option maxRecDepth 100000 in
set_option maxHeartbeats 0 in
theorem putFixed4_any (s : ByteArray) (n : Nat) (w : World) (hn : n < 4294967296) (hs : s.size ≤ 4611686018427387904) :
    Calls Try.prog 60 #[.string s, .int .u64 (n : Int), .int .i64 4] w fun e w' => e = .returned (.tuple #[.string (s ++ bs (beK 4 n)), .int .i64 0]) ∧ Below w.heap.size w w' := by
  have Z := Lib.hid (zeros_row w (T := 138) (n := 8) (z := .int .u8 0) (c := #[.int .u8 0, .int .u8 0, .int .u8 0, .int .u8 0, .int .u8 0, .int .u8 0, .int .u8 0, .int .u8 0]) rfl)
  have hsh : ¬ ((0 : Int) < (n : Int) / 2 ^ 32) := by
    have : (n : Int) / 2 ^ 32 = 0 := Int.ediv_eq_zero_of_lt (by omega) (by omega)
    omega
  go_enter Try.func60, Try.ntmps60
  go_wp2
  clear hsh
  all_goals
    have BA : Hid (Below w.heap.size w (w.alloc (.cells #[.int .u8 0, .int .u8 0, .int .u8 0, .int .u8 0, .int .u8 0, .int .u8 0, .int .u8 0, .int .u8 0] 138))) := Lib.hid ((Below.refl _ _).alloc (Nat.le_refl _) _)
    generalize w.alloc (.cells #[.int .u8 0, .int .u8 0, .int .u8 0, .int .u8 0, .int .u8 0, .int .u8 0, .int .u8 0, .int .u8 0] 138) = w1 at Z BA ⊢
    go_loopw [28] (fun i wr => ∃ k : Nat, k ≤ 8 ∧ i = .int .i64 (k : Int) ∧ Hid (wr.rowIs w.heap.size 138 8 (u8V (beF n k)) ∧ Below w.heap.size w wr)) (fun i _ => 8 - (intOf i).toNat)
    case atStart => exact ⟨0, by omega, rfl, Lib.hid ⟨Z.out.congr fun i hi => by unfold u8V beF; rw [if_neg (by omega)]; rfl, BA.out⟩⟩
    case round =>
      obtain ⟨k, hk, rfl, HR⟩ := hrel
      by_cases hlt : k < 8
      · obtain ⟨j, hj⟩ : ∃ j, 7 - k = j := ⟨_, rfl⟩
        obtain ⟨m, hm⟩ : ∃ m, 8 * k = m := ⟨_, rfl⟩
        have hji : (7 : Int) - (k : Int) = (j : Int) := by omega
        have hmi : (8 : Int) * (k : Int) = (m : Int) := by omega
        have hj8 : j < 8 := by omega
        have HJ : Hid (7 - k = j ∧ 8 * k = m ∧ k < 8) := Lib.hid ⟨hj, hm, hlt⟩
        have hm64 : m < 64 := by omega
        obtain ⟨v, cj⟩ : ∃ v, w.heap.size = w.heap.size ∧ wr.cell? ⟨w.heap.size, j, none⟩ = some v := ⟨_, rfl, HR.out.1.cell hj8⟩
        have cj := cj.2
        have fj := HR.out.1.frozen j
        clear hj hm
        go_wp2
        go_roundw
        case rel =>
          refine ⟨k + 1, by omega, by go_num, Lib.hid ⟨(HR.out.1.set j _).congr fun i hi => ?_, HR.out.2.setCell (Nat.le_refl _) _⟩⟩
          obtain ⟨q1, q2, q3⟩ := HJ.out
          unfold u8V beF
          by_cases e : i = j
          · rw [if_pos e, if_pos (by omega), byte_shift, ← q2, show 8 * k = 8 * (7 - i) by omega]
          · rw [if_neg e]
            by_cases h8 : 8 ≤ k + i
            · rw [if_pos h8, if_pos (by omega)]
            · rw [if_neg h8, if_neg (by omega)]
        case measure => simp [intOf]; omega
      · obtain rfl : k = 8 := by omega
        have RC : Hid (∀ j, j < 4 → wr.cell? (({ block := w.heap.size, off := 4 } : Addr).add j) = some (.int .u8 (((beK 4 n).getD j 0).toNat : Int))) := Lib.hid (fun j hj => by
          rw [show ({ block := w.heap.size, off := 4 } : Addr).add j = ⟨w.heap.size, 4 + j, none⟩ by unfold Addr.add; split <;> simp_all]
          rw [HR.out.1.cell (by omega)]; unfold u8V; rw [beF_end n (4 + j) (by omega)]
          unfold beK; rw [List.getD_eq_getElem?_getD, List.getD_eq_getElem?_getD, List.getElem?_drop])
        have CT := cut_four wr w.heap.size
        have hbz : (bs (beK 4 n)).size ≤ 10 := by rw [bs_size, beK_length _ _ (by omega)]; omega
        rw [show ((8 : Nat) : Int) = 8 from rfl]
        go_wp2_with (with_reducible refine conv_str_wp (e := 5) (by kernel_rfl) (by kernel_rfl) (by kernel_rfl) rfl _ rfl ⟨w.heap.size, 4, none⟩ 4 4 rfl (beK 4 n) (beK_length _ _ (by omega)) RC.out ?_)
        go_ret2
        exact ⟨rfl, HR.out.2⟩
theorem fits4_any (n : Nat) (w : World) (hn : n < 4294967296) : Calls Try.prog 112 #[.int .u64 (n : Int), .int .i64 4] w fun e w' => e = .returned (.bool true) ∧ w = w' := by
  go_enter Try.func112, Try.ntmps112
  go_wp2
  go_ret
  refine ⟨?_, rfl⟩
  simp
  omega
/-- The first j of the four bytes. -/
theorem beK_take (n j : Nat) (h : j < 4) : (beK 4 n).take (j + 1) = (beK 4 n).take j ++ [UInt8.ofNat (n / 2 ^ (8 * (3 - j)))] := by
  rw [List.take_add_one]
  congr 1
  have hl : j < (beK 4 n).length := by rw [beK_length _ _ (by omega)]; exact h
  have := beK_at 4 n j (by omega) h
  rw [List.getD_eq_getElem?_getD, List.getElem?_eq_getElem hl] at this
  rw [List.getElem?_eq_getElem hl]
  have e : (beK 4 n)[j] = UInt8.ofNat (n / 2 ^ (8 * (3 - j))) := this
  rw [e]; rfl
set_option maxRecDepth 100000 in
set_option maxHeartbeats 0 in
theorem rputFixed4_any (n : Nat) (w : World) (hn : n < 4294967296) :
    Calls Try.prog 104 #[.string { data := #[] }, .int .u64 (n : Int), .int .i64 4] w fun e w' => e = .returned (.tuple #[.string (bs (beK 4 n)), .int .i64 0]) ∧ Below w.heap.size w w' := by
  go_enter Try.func104, Try.ntmps104
  go_wp2_with fail
  refine (fits4_any n _ hn).mono ?_; rintro e w' ⟨rfl, rfl⟩
  go_wp2
  go_loopw [0, 8] (fun s i wr => ∃ k : Nat, k ≤ 4 ∧ i = .int .i64 (3 - (k : Int)) ∧ s = .string (bs ((beK 4 n).take k)) ∧ Hid (Below w.heap.size w wr)) (fun _ i _ => (intOf i + 1).toNat)
  case atStart => exact ⟨0, by omega, rfl, rfl, Lib.hid (Below.refl _ _)⟩
  case round =>
    obtain ⟨k, hk, rfl, rfl, HB⟩ := hrel
    by_cases hlt : k < 4
    · obtain ⟨j, hj⟩ : ∃ j, 3 - k = j := ⟨_, rfl⟩
      obtain ⟨m, hm⟩ : ∃ m, 8 * j = m := ⟨_, rfl⟩
      have hji : (3 : Int) - (k : Int) = (j : Int) := by omega
      have hmi : (8 : Int) * (j : Int) = (m : Int) := by omega
      have hm64 : m < 64 := by omega
      have hj8 : j < 8 := by omega
      have HS : Hid (bs ((beK 4 n).take (k + 1)) = bs ((beK 4 n).take k) ++ bs [UInt8.ofNat (n / 2 ^ m)]) := Lib.hid (by
        rw [beK_take n k hlt, hj, hm]
        exact ByteArray.ext (by simp [bs]))
      have hz : (bs ((beK 4 n).take k)).size ≤ 8 := by rw [bs_size, List.length_take]; omega
      have hz1 : (bs [UInt8.ofNat (n / 2 ^ m)]).size = 1 := rfl
      generalize (beK 4 n).take k = l at *
      have HJ := Lib.hid hj
      rw [hji]
      clear hj hm hji
      have BS := Lib.hid (byte_shift n m)
      go_wp2_with (with_reducible refine conv_str_wp (e := 5) (by kernel_rfl) (by kernel_rfl) (by kernel_rfl) rfl _ rfl ⟨wr.heap.size, 0, none⟩ 1 1 rfl [UInt8.ofNat (n / 2 ^ m)] rfl (fun j hj => ?_) ?_)
      · obtain rfl : j = 0 := by omega
        rw [add0]
        have := (World.rowIs_alloc wr #[.int .u8 ((n : Int) / 2 ^ m % 256)] 5 (fun _ => .int .u8 ((n : Int) / 2 ^ m % 256)) (fun i hi => by
          have : i = 0 := by simpa using hi
          subst this; rfl)).cell (i := 0) (by simp)
        rw [BS.out] at this
        rw [BS.out]
        exact this
      · go_roundw
        case rel =>
          refine ⟨k + 1, by omega, by have := HJ.out; first | (congr 1; omega) | congr 1, ?_, Lib.hid (HB.out.alloc HB.out.size _)⟩
          rw [HS.out]
        case measure => simp [intOf] <;> omega
    · obtain rfl : k = 4 := by omega
      have E : Hid ((beK 4 n).take 4 = beK 4 n) := Lib.hid (List.take_of_length_le (by rw [beK_length _ _ (by omega)]; exact Nat.le_refl _))
      rw [show (3 : Int) - ((4 : Nat) : Int) = -1 from rfl]
      go_wp2
      go_ret2
      exact ⟨by rw [E.out]; rfl, HB.out⟩
set_option maxRecDepth 100000 in
theorem rfixed4_any (n : Nat) (w : World) (hn : n < 4294967296) :
    Calls Try.prog 93 #[.int .u64 (n : Int), .int .i64 4] w fun e w' => e = .returned (.string (bs (beK 4 n))) ∧ Below w.heap.size w w' := by
  go_enter Try.func93, Try.ntmps93
  go_wp2_with fail
  refine (rputFixed4_any n _ hn).mono ?_; rintro e w' ⟨rfl, hb⟩
  go_wp2
  go_ret
  exact ⟨rfl, hb⟩
end Go.Proofs.Ytpfccicahfncbaa
namespace Go.Proofs.Ytpfccicahfncbaa
open Go.RowKit Wir
set_option linter.unusedVariables false
theorem crcF_two (p : ByteArray) : onC (onC 0 (hdB p)) p = crcF p := onC_on _ _ _
set_option maxRecDepth 100000 in
theorem frame_any (p : ByteArray) (w : World) (hp : p.size ≤ 67108864) :
    Calls Try.prog 34 #[.string p] w fun e w' => e = .returned (.tuple #[.string (frmB p), .int .i64 0]) ∧ Below w.heap.size w w' := by
  have F4 := Lib.hid (fun W => putFixed4_any ⟨#[]⟩ p.size W (by omega) (by decide))
  have HE : Hid ((⟨#[]⟩ : ByteArray) ++ bs (beK 4 p.size) = hdB p) := Lib.hid (show ByteArray.empty ++ hdB p = hdB p from ByteArray.empty_append)
  have HZ := Lib.hid (hdB_size p)
  have CF := Lib.hid (crcF_two p)
  have C4 := Lib.hid (fun W => crc_any (hdB p) W (by rw [hdB_size]; omega))
  have O4 := Lib.hid (fun W => on_any (onC 0 (hdB p)) p W (by omega))
  have G4 := Lib.hid (fun W => putFixed4_any (hdB p) (crcF p).toNat W (UInt32.toNat_lt _) (by rw [hdB_size]; omega))
  rw [HE.out] at F4
  go_enter Try.func34, Try.ntmps34
  go_wp2_with fail
  refine (F4.out _).mono ?_
  rintro e w1 ⟨rfl, hb1⟩
  have HB1 := Lib.hid hb1
  clear hb1 F4 HE
  have FR : Hid (hdB p ++ bs (beK 4 (crcF p).toNat) ++ p = frmB p) := Lib.hid rfl
  have hz8 : Hid ((hdB p ++ bs (beK 4 (crcF p).toNat)).size = 8) := Lib.hid (by rw [ByteArray.size_append, HZ.out, bs_size, beK_length _ _ (by omega)])
  generalize hdB p = h at *
  go_wp2_with fail
  refine (C4.out _).mono ?_
  rintro e w2 ⟨rfl, hb2⟩
  have HB2 : Hid (Below w.heap.size w w2) := Lib.hid (HB1.out.trans (hb2.mono HB1.out.size))
  clear hb2
  go_wp2_with fail
  refine (O4.out _).mono ?_
  rintro e w3 ⟨rfl, hb3⟩
  rw [CF.out]
  have HB3 : Hid (Below w.heap.size w w3) := Lib.hid (HB2.out.trans (hb3.mono HB2.out.size))
  have hc : (crcF p).toNat < 4294967296 := UInt32.toNat_lt _
  clear hb3
  go_wp2_with fail
  (with_reducible refine (G4.out _).mono ?_)
  rintro e w4 ⟨rfl, hb4⟩
  have HB4 : Hid (Below w.heap.size w w4) := Lib.hid (HB3.out.trans (hb4.mono HB3.out.size))
  clear hb4 G4 O4 C4
  generalize h ++ bs (beK 4 (crcF p).toNat) = q at *
  have hq := hz8.out
  go_wp2
  go_ret2
  exact ⟨by rw [← FR.out]; rfl, HB4.out⟩
set_option maxRecDepth 100000 in
theorem rlaid_any (p : ByteArray) (w : World) (hp : p.size ≤ 67108864) :
    Calls Try.prog 71 #[.string p] w fun e w' => e = .returned (.string (frmB p)) ∧ Below w.heap.size w w' := by
  have F4 := Lib.hid (fun W => rfixed4_any p.size W (by omega))
  rw [show bs (beK 4 p.size) = hdB p from rfl] at F4
  go_enter Try.func71, Try.ntmps71
  go_wp2_with fail
  refine (F4.out _).mono ?_
  rintro e w1 ⟨rfl, hb1⟩
  clear F4
  have HB1 := Lib.hid hb1
  have hz := hdB_size p
  have CF : Hid (onC 0 (hdB p ++ p) = crcF p) := Lib.hid rfl
  obtain ⟨h, hhd⟩ : ∃ h, hdB p = h := ⟨_, rfl⟩
  rw [hhd] at hz CF ⊢
  have HH := Lib.hid hhd
  clear hb1 hhd
  have hz2 : (h ++ p).size ≤ 9223372036854775807 := by rw [ByteArray.size_append]; omega
  go_wp2_with fail
  refine (rcrc_any (h ++ p) _ hz2).mono ?_
  rintro e w' ⟨rfl, rfl⟩
  rw [CF.out]
  have hc : (crcF p).toNat < 4294967296 := UInt32.toNat_lt _
  go_wp2_with fail
  refine (rfixed4_any (crcF p).toNat _ hc).mono ?_
  rintro e w2 ⟨rfl, hb2⟩
  have HB2 : Hid (Below w.heap.size w w2) := Lib.hid (HB1.out.trans (hb2.mono HB1.out.size))
  have FR : Hid (h ++ bs (beK 4 (crcF p).toNat) ++ p = frmB p) := Lib.hid (by unfold frmB; rw [HH.out])
  have hq : (bs (beK 4 (crcF p).toNat)).size = 4 := by rw [bs_size, beK_length _ _ (by omega)]
  generalize bs (beK 4 (crcF p).toNat) = q at *
  have hq8 : (h ++ q).size = 8 := by rw [ByteArray.size_append]; omega
  clear hb2 hz2
  go_wp2
  go_ret
  exact ⟨by rw [← FR.out]; rfl, HB2.out⟩
/-- A short number behind a text, a byte a round. -/
def rputF : Nat → ByteArray → Nat → ByteArray
  | 0, s, n => s ++ bs [UInt8.ofNat n]
  | f + 1, s, n => if n < 128 then s ++ bs [UInt8.ofNat n] else rputF f (s ++ bs [UInt8.ofNat (n % 128 + 128)]) (n / 128)
theorem rputF_is (f : Nat) (s : ByteArray) (n : Nat) : rputF f s n = s ++ bs (putN f n) := by
  induction f generalizing s n with
  | zero => rfl
  | succ f ih =>
    unfold rputF putN
    by_cases h : n < 128
    · rw [if_pos h, if_pos h]
    · rw [if_neg h, if_neg h, ih, ByteArray.append_assoc]
      congr 1
theorem byte128 (n : Nat) : IntKind.u8.wrap ((n : Int) % 128 + 128) = ((UInt8.ofNat (n % 128 + 128)).toNat : Int) := by
  rw [UInt8.toNat_ofNat', IntKind.wrap_u8]; omega
theorem byte_conv (wr : World) (u : UInt8) (x : Int) (hx : x = (u.toNat : Int)) (j : Nat) (hj : j < 1) : (wr.alloc (.cells #[.int .u8 x] 5)).cell? (({ block := wr.heap.size, off := 0 } : Addr).add j) = some (.int .u8 (([u].getD j 0).toNat : Int)) := by
  obtain rfl : j = 0 := by omega
  rw [add0, hx]
  exact (World.rowIs_alloc wr #[.int .u8 (u.toNat : Int)] 5 (fun _ => .int .u8 (u.toNat : Int)) (fun i hi => by
    have : i = 0 := by simpa using hi
    subst this; rfl)).cell (i := 0) (by simp)
set_option maxRecDepth 100000 in
theorem rput_any (s : ByteArray) (n : Nat) (w : World) (hn : n < 18446744073709551616) (hs : s.size ≤ 4611686018427387904) :
    Calls Try.prog 72 #[.string s, .int .u64 (n : Int)] w fun e w' => e = .returned (.string (s ++ bs (putL n))) ∧ Below w.heap.size w w' := by
  have E0 : Hid (s ++ bs (putL n) = rputF 9 s n) := Lib.hid (rputF_is 9 s n).symm
  go_enter Try.func72, Try.ntmps72
  go_wp2
  go_loopw [0, 1] (fun t x wr => ∃ (f : Nat) (u : ByteArray) (m : Nat), f ≤ 9 ∧ u.size + f ≤ s.size + 9 ∧ m < 18446744073709551616 ∧ m < 2 ^ (7 * f + 7) ∧ t = .string u ∧ x = .int .u64 (m : Int) ∧ Hid (rputF f u m = rputF 9 s n ∧ Below w.heap.size w wr)) (fun _ x _ => (intOf x).toNat)
  case atStart => exact ⟨9, s, n, by omega, by omega, hn, by omega, rfl, rfl, Lib.hid ⟨rfl, Below.refl _ _⟩⟩
  case round =>
    obtain ⟨f, u, m, hf, hu, hm, hmf, rfl, rfl, HR⟩ := hrel
    by_cases hlt : m < 128
    · have E1 : Hid (rputF f u m = u ++ bs [UInt8.ofNat m]) := Lib.hid (by
        cases f with
        | zero => rfl
        | succ f => rw [rputF, if_pos hlt])
      have hb : (m : Int) = ((UInt8.ofNat m).toNat : Int) := by rw [UInt8.toNat_ofNat']; omega
      have HBV := Lib.hid hb
      have hz1 : (bs [UInt8.ofNat m]).size = 1 := rfl
      clear hmf hb
      go_wp2_with (with_reducible refine conv_str_wp (e := 5) (by kernel_rfl) (by kernel_rfl) (by kernel_rfl) rfl _ rfl ⟨wr.heap.size, 0, none⟩ 1 1 rfl [UInt8.ofNat m] rfl (byte_conv wr (UInt8.ofNat m) _ HBV.out) ?_)
      go_ret
      exact ⟨by rw [E0.out, ← HR.out.1, E1.out]; rfl, HR.out.2.alloc HR.out.2.size _⟩
    · have hf0 : f ≠ 0 := by
        intro e
        subst e
        have : (2 : Nat) ^ (7 * 0 + 7) = 128 := by decide
        omega
      obtain ⟨g, rfl⟩ : ∃ g, f = g + 1 := ⟨f - 1, by omega⟩
      have E1 : Hid (rputF (g + 1) u m = rputF g (u ++ bs [UInt8.ofNat (m % 128 + 128)]) (m / 128)) := Lib.hid (by rw [rputF, if_neg hlt])
      have hmg : Hid (m / 128 < 2 ^ (7 * g + 7)) := Lib.hid (by
        rw [show 7 * (g + 1) + 7 = 7 * g + 7 + 7 by omega, Nat.pow_add] at hmf
        exact Nat.div_lt_of_lt_mul (by rw [Nat.mul_comm]; exact hmf))
      obtain ⟨c, hc⟩ : ∃ c, UInt8.ofNat (m % 128 + 128) = c := ⟨_, rfl⟩
      have HBV : Hid ((m : Int) % 128 + 128 = (c.toNat : Int)) := Lib.hid (by rw [← hc, UInt8.toNat_ofNat']; omega)
      rw [hc] at E1
      have hz1 : (bs [c]).size = 1 := rfl
      clear hc
      clear hmf
      go_wp2_with (with_reducible refine conv_str_wp (e := 5) (by kernel_rfl) (by kernel_rfl) (by kernel_rfl) rfl _ rfl ⟨wr.heap.size, 0, none⟩ 1 1 rfl [c] rfl (byte_conv wr c _ HBV.out) ?_)
      · go_roundw
        case rel => exact ⟨g, u ++ bs [c], m / 128, by omega, by rw [ByteArray.size_append]; omega, by omega, hmg.out, rfl, by first | rfl | go_num, Lib.hid ⟨by rw [← E1.out]; exact HR.out.1, HR.out.2.alloc HR.out.2.size _⟩⟩
        case measure => simp [intOf]; omega
end Go.Proofs.Ytpfccicahfncbaa
namespace Go.Proofs.Ytpfccicahfncbaa
open Go.RowKit
set_option linter.unusedVariables false
set_option maxRecDepth 100000 in
set_option maxHeartbeats 0 in
theorem whole_any (k : UInt8) (s : ByteArray) (w : World) (hs : s.size ≤ 16777216) :
    Calls Try.prog 74 #[.int .u8 (k.toNat : Int), .string s] w fun e w' => e = .returned (.string (headB k s.size ++ s)) ∧ Below w.heap.size w w' := by
  have CB : ∀ (N : Nat) (W : World), W.cell? ⟨N, 0, none⟩ = some (.int .u8 (k.toNat : Int)) → (convert 78 9 (.slice (some ⟨N, 0, none⟩) 1 1)).run Try.prog W = .ok (.string (bs [k])) W := fun N W h =>
    run_str 78 5 9 (by kernel_rfl) (by kernel_rfl) (by kernel_rfl) ⟨N, 0, none⟩ 1 1 [k] rfl (fun j hj => by
      obtain rfl : j = 0 := by omega
      rw [add0]; exact h)
  have CELL : ∀ W : World, (W.alloc (.cells #[.int .u8 (k.toNat : Int)] 5)).cell? ⟨W.heap.size, 0, none⟩ = some (.int .u8 (k.toNat : Int)) := fun W => (World.rowIs_alloc W #[.int .u8 (k.toNat : Int)] 5 (fun _ => .int .u8 (k.toNat : Int)) (fun i hi => by
      have : i = 0 := by simpa using hi
      subst this; rfl)).cell (i := 0) (by simp)
  have c0 : ∀ W : World, (convert 78 9 (.slice (some ⟨W.heap.size, 0, none⟩) 1 1)).run Try.prog (W.alloc (.cells #[.int .u8 (k.toNat : Int)] 5)) = .ok (.string (bs [k])) (W.alloc (.cells #[.int .u8 (k.toNat : Int)] 5)) := fun W => CB _ _ (CELL W)
  have c1 : (convert 78 9 (.slice (some ⟨w.heap.size, 0, none⟩) 1 1)).run Try.prog (w.drew.alloc (.cells #[.int .u8 (k.toNat : Int)] 5)) = .ok (.string (bs [k])) (w.drew.alloc (.cells #[.int .u8 (k.toNat : Int)] 5)) := c0 w.drew
  have c2 : (convert 78 9 (.slice (some ⟨w.heap.size, 0, none⟩) 1 1)).run Try.prog (w.alloc (.cells #[.int .u8 (k.toNat : Int)] 5)).drew = .ok (.string (bs [k])) (w.alloc (.cells #[.int .u8 (k.toNat : Int)] 5)).drew := CB _ _ (CELL w)
  have CV : Hid (∀ W, Below (w.heap.size + 1) (w.alloc (.cells #[.int .u8 (k.toNat : Int)] 5)).drew W → (convert 78 9 (.slice (some ⟨w.heap.size, 0, none⟩) 1 1)).run Try.prog W = .ok (.string (bs [k])) W) := Lib.hid (fun W hb => CB _ _ ((hb.cell (p := ⟨w.heap.size, 0, none⟩) (by show w.heap.size < w.heap.size + 1; omega)).trans (CELL w)))
  have hnw : IntKind.u64.wrap (s.size : Int) = (s.size : Int) := by rw [IntKind.wrap_u64]; omega
  have hn64 : s.size < 18446744073709551616 := by omega
  have z8 : (bs (be8 s.size)).size = 8 := by rw [bs_size, be8_length]
  have z1 : (bs [k]).size = 1 := rfl
  have hcat1 : ¬ 9223372036854775807 < (1 : Nat) + 8 := by omega
  have hcat2 : ¬ 9223372036854775807 < (1 : Nat) + 8 + s.size := by omega
  have HE : Hid (headB k s.size ++ s = bs [k] ++ bs (be8 s.size) ++ s) := Lib.hid rfl
  clear CB CELL
  go_enter Try.func74, Try.ntmps74
  go_upto_region 1 with fail
  go_region_with (go_at_call 93; refine (rfixed8_any s.size _ hn64).mono ?_; rintro e w3 ⟨rfl, hb3⟩; have HB3 := Lib.hid hb3; try (have c3 := CV.out w3 (hb3.mono (by simp))))
  all_goals
    go_wp2
    go_ret
    refine ⟨by rw [HE.out]; rfl, ?_⟩
    first
      | exact (((Below.refl w.heap.size w).alloc (Nat.le_refl _) _).drew).trans (HB3.out.mono (by simp))
      | exact (((Below.refl w.heap.size w).drew).trans HB3.out).alloc HB3.out.size _
end Go.Proofs.Ytpfccicahfncbaa
namespace Go.Proofs.Ytpfccicahfncbaa
open Go.RowKit Dig
set_option linter.unusedVariables false
set_option linter.unusedSimpArgs false
attribute [local go_sem ↓] execOp_ld8 execOp_st8 execOp_ld32 execOp_st32
attribute [local go_sem] run_ld8 run_st8 run_ld32 run_st32
def zero8 : Obj := .cells #[.int .u32 0, .int .u32 0, .int .u32 0, .int .u32 0, .int .u32 0, .int .u32 0, .int .u32 0, .int .u32 0] 139
theorem quick_start (w : World) : ok8 ((w.alloc zeroId).alloc zero8) (w.heap.size + 1) 0 = true ∧ (put8 ((w.alloc zeroId).alloc zero8) (w.heap.size + 1) 0 (uA 8 firstF)).rowIs (w.heap.size + 1) 139 8 (uV firstF) ∧
    (put8 ((w.alloc zeroId).alloc zero8) (w.heap.size + 1) 0 (uA 8 firstF)).rowIs w.heap.size 42 32 (fun _ => .int .u8 0) ∧ Below w.heap.size w (put8 ((w.alloc zeroId).alloc zero8) (w.heap.size + 1) 0 (uA 8 firstF)) := by
  have z0 := zeros_row w (T := 42) (c := _) (n := 32) (z := .int .u8 0) (by rfl)
  have z1 := zeros_row (w.alloc zeroId) (T := 139) (n := 8) (z := .int .u32 0) (c := #[.int .u32 0, .int .u32 0, .int .u32 0, .int .u32 0, .int .u32 0, .int .u32 0, .int .u32 0, .int .u32 0]) rfl
  rw [← size1] at z1
  obtain ⟨q1, q2⟩ := put8_row z1 0 (uA 8 firstF) (by omega) (u8_full firstF)
  have z0' : ((w.alloc zeroId).alloc zero8).rowIs w.heap.size 42 32 (fun _ => .int .u8 0) := World.rowIs.alloc z0 _
  refine ⟨ok8_of z1 (by omega), q1.congr (g := uV firstF) (fun i hi => by
    rw [if_pos (by omega)]
    simp [uA, uV, hi]), z0'.of_block (q2.block _ z0'.lt (by simp)), below_grown (((Below.refl _ _).alloc (Nat.le_refl _) _).alloc (by simp) _) q2 (fun g hg => by cases hg; omega)⟩
theorem rconstants_v {A : Array Value} (hA : uA 64 kF = A) (w : World) : Calls Try.prog 96 #[] w fun e w' => e = .returned (.agg A) ∧ Below w.heap.size w w' := by
  rw [← hA]; exact rconstants_any w
theorem refSum_v {A B : Array Value} {I : Nat → UInt8} (hA : uA 8 firstF = A) (hB : uA 64 kF = B) (s : ByteArray) (hI : shaF (byteAt s) s.size = I) (w : World) (hs : s.size ≤ 140737488351232) :
    Calls Try.prog 95 #[.string s, .agg A, .agg B] w fun e w' => e = .returned (.agg (idA I)) ∧ Below w.heap.size w w' := by
  rw [← hA, ← hB, ← hI]; exact refSum_big s w hs
set_option maxRecDepth 100000 in
set_option maxHeartbeats 0 in
theorem quick_big (s : ByteArray) (w : World) (hs : s.size ≤ 140737488351232) :
    Calls Try.prog 73 #[.string s] w fun e w' => e = .returned (.agg (idA (shaF (byteAt s) s.size))) ∧ Below w.heap.size w w' := by
  obtain ⟨h1, h2⟩ := quick_start w
  have f8 := u8_full firstF
  have H := Lib.hid h2
  clear h2
  rw [← first_lit] at f8
  unfold zeroId zero8 at h1
  go_enter Try.func73, Try.ntmps73
  go_upto_region 2 with fail
  rw [first_lit]
  change Code.wp _ _ _ _ (put8 ((w.alloc zeroId).alloc zero8) (w.heap.size + 1) 0 (uA 8 firstF))
  generalize put8 ((w.alloc zeroId).alloc zero8) (w.heap.size + 1) 0 (uA 8 firstF) = w2 at H ⊢
  clear h1 f8
  have K2 : Hid (∀ w', Below w2.heap.size w2 w' → (ok8 w' (w.heap.size + 1) 0 = true ∧ row8 w' (w.heap.size + 1) 0 = uA 8 firstF) ∧ ok32 w' w.heap.size 0 = true ∧ ∀ I, (ok8 (put32 w' w.heap.size 0 (idA I)) (w.heap.size + 1) 0 = true ∧ row8 (put32 w' w.heap.size 0 (idA I)) (w.heap.size + 1) 0 = uA 8 firstF)) := Lib.hid (fun w' hb => by
    have r1 : w'.rowIs (w.heap.size + 1) 139 8 (uV firstF) := H.out.1.of_block (hb.block _ H.out.1.lt)
    have r2 : w'.rowIs w.heap.size 42 32 (fun _ => .int .u8 0) := H.out.2.1.of_block (hb.block _ H.out.2.1.lt)
    refine ⟨⟨ok8_of r1 (by omega), row8_u r1⟩, ok32_of r2 (by omega), fun I => ?_⟩
    obtain ⟨q1, q2⟩ := put32_row r2 0 (idA I) (by omega) (idA_full I)
    have r3 := r1.of_block (q2.block _ r1.lt (by simp))
    exact ⟨ok8_of r3 (by omega), row8_u r3⟩)
  obtain ⟨A8, hA8⟩ : ∃ A, uA 8 firstF = A := ⟨_, rfl⟩
  obtain ⟨A64, hA64⟩ : ∃ A, uA 64 kF = A := ⟨_, rfl⟩
  rw [hA8] at K2 ⊢
  have H8 := Lib.hid hA8
  have H64 := Lib.hid hA64
  clear hA8 hA64
  obtain ⟨I, hI⟩ : ∃ I, shaF (byteAt s) s.size = I := ⟨_, rfl⟩
  have HI := Lib.hid hI
  clear hI
  have SA := (K2.out w2.drew ((Below.refl _ _).drew)).1
  refine wp_region_held_drew (S := fun w' => ok8 w' (w.heap.size + 1) 0 = true ∧ row8 w' (w.heap.size + 1) 0 = A8) (by kernel_rfl) (by first | exact SD | exact SC | exact SB | exact SA) (fun hHeld => ?_)
  refine wpAnyH_take (i := 0) (oi := _) (v := _) rfl (by kernel_rfl) (by kernel_rfl) (by kernel_rfl) (fun _ _ _ h => h) (Or.inl ⟨by rfl, by (intro w hSw; (try dsimp only at hSw); go_simp; first | done | with_reducible rfl)⟩) (by assumption) ?_
  (try simp only [Act.put, List.setIfInBounds_toArray, List.set_cons_zero, List.set_cons_succ])
  refine wpAnyH_take (i := 1) (oi := { dst := some 6, op := .load 139 (.tmp 3), type := 139, pos := "ref.go:144", after := #[], guard := none }) (v := _) rfl (by kernel_rfl) (by kernel_rfl) (by kernel_rfl) (fun _ _ _ h => h) (Or.inl ⟨by rfl, by (intro w hSw; (try dsimp only at hSw); go_simp; first | done | with_reducible rfl)⟩) (by assumption) ?_
  (try simp only [Act.put, List.setIfInBounds_toArray, List.set_cons_zero, List.set_cons_succ])
  refine wpAnyH_ready (rs := [2]) (by kernel_rfl) (by simp) (AllReadyH.cons rfl (fun K hK => ?_) AllReadyH.nil)
  try simp only [List.getElem_toArray, List.getElem_cons_succ, List.getElem_cons_zero]
  go_simp
  go_at_call 96
  refine (rconstants_v H64.out _).mono ?_
  rintro e w3 ⟨rfl, hb3⟩
  have SB := (K2.out w3 (((Below.refl _ _).drew).trans hb3)).1
  have HB3 := Lib.hid (((Below.refl w2.heap.size w2).drew).trans hb3)
  clear hb3
  go_simp
  refine hK.out _ _ (by first | exact SD | exact SC | exact SB | exact SA) (fun hHeld => ?_)
  clear hK K
  (try simp only [Act.put, List.setIfInBounds_toArray, List.set_cons_zero, List.set_cons_succ])
  refine wpAnyH_ready (rs := [3]) (by kernel_rfl) (by simp) (AllReadyH.cons rfl (fun K hK => ?_) AllReadyH.nil)
  try simp only [List.getElem_toArray, List.getElem_cons_succ, List.getElem_cons_zero]
  go_simp
  go_at_call 95
  refine (refSum_v H8.out H64.out s HI.out _ hs).mono ?_
  rintro e w4 ⟨rfl, hb4⟩
  have HB4 := Lib.hid (HB3.out.trans (hb4.mono HB3.out.size))
  have SC := (K2.out w4 HB4.out).1
  have SD := (K2.out w4 HB4.out).2.2 I
  have o4 := (K2.out w4 HB4.out).2.1
  have f4 := idA_full I
  clear hb4
  go_simp
  refine hK.out _ _ (by first | exact SD | exact SC | exact SB | exact SA) (fun hHeld => ?_)
  clear hK K
  (try simp only [Act.put, List.setIfInBounds_toArray, List.set_cons_zero, List.set_cons_succ])
  refine wpAnyH_ready (rs := [4]) (by kernel_rfl) (by simp) (AllReadyH.cons rfl (fun K hK => ?_) AllReadyH.nil)
  try simp only [List.getElem_toArray, List.getElem_cons_succ, List.getElem_cons_zero]
  go_simp
  refine hK.out _ _ (by first | exact SD | exact SC | exact SB | exact SA) (fun hHeld => ?_)
  clear hK K
  (try simp only [Act.put, List.setIfInBounds_toArray, List.set_cons_zero, List.set_cons_succ])
  refine wpAnyH_done (by kernel_rfl) ?_ _
  have HP := Lib.hid (id_put (w := w) (g := w.heap.size) I (H.out.2.1.of_block (HB4.out.block _ H.out.2.1.lt) : w4.rowIs w.heap.size 42 32 (fun _ => .int .u8 0)) (H.out.2.2.trans (HB4.out.mono H.out.2.2.size)) (Nat.le_refl _))
  clear SA SB SC SD o4 f4
  go_wp2
  exact bodyPost_ret (v := .agg (idA (I))) (results_cell_row rfl _ _ w.heap.size 42 _ (0, 0) _ rfl HP.out.1 Try.underlying42 rfl (by rw [idA_size]; kernel_rfl)) rfl ⟨by rw [HI.out], HP.out.2⟩
theorem quick_any (s : ByteArray) (w : World) (hs : s.size ≤ 16777216) :
    Calls Try.prog 73 #[.string s] w fun e w' => e = .returned (.agg (idA (shaF (byteAt s) s.size))) ∧ Below w.heap.size w w' := quick_big s w (by omega)
end Go.Proofs.Ytpfccicahfncbaa
namespace Go.Proofs.Ytpfccicahfncbaa
open Go.RowKit Wir Dig
set_option linter.unusedVariables false
attribute [local go_sem ↓] execOp_ld32 execOp_st32
attribute [local go_sem] run_ld32 run_st32
theorem nmA_size (o : PObj) : (nmA o).size = 32 := idA_size _
/-- An object as one value. -/
def objA (o : PObj) : Value := .agg #[.int .u8 (o.1.toNat : Int), .string o.2]
def chkE (o : PObj) : Int := if okO o = true then 0 else 1
theorem chk_yes {o : PObj} (h : okO o = true) : chkE o = 0 := if_pos h
theorem chk_no {o : PObj} (h : okO o = false) : chkE o = 1 := by unfold chkE; rw [h]; rfl
theorem chk_cases (o : PObj) : (o.1.toNat < 1 ∧ okO o = false) ∨ (1 ≤ o.1.toNat ∧ 5 < o.1.toNat ∧ okO o = false) ∨ (1 ≤ o.1.toNat ∧ o.1.toNat ≤ 5 ∧ 2097152 < o.2.size ∧ okO o = false) ∨ (1 ≤ o.1.toNat ∧ o.1.toNat ≤ 5 ∧ o.2.size ≤ 2097152 ∧ okO o = true) := by
  have h := okO_iff o
  cases hb : okO o with
  | true => rw [hb] at h; have := h.1 rfl; exact .inr (.inr (.inr ⟨this.1, this.2.1, this.2.2, rfl⟩))
  | false =>
    have hn : ¬ (1 ≤ o.1.toNat ∧ o.1.toNat ≤ 5 ∧ o.2.size ≤ 2097152) := fun h' => by have := h.2 h'; rw [hb] at this; cases this
    by_cases h1 : o.1.toNat < 1
    · exact .inl ⟨h1, rfl⟩
    · by_cases h2 : 5 < o.1.toNat
      · exact .inr (.inl ⟨by omega, h2, rfl⟩)
      · exact .inr (.inr (.inl ⟨by omega, by omega, by omega, rfl⟩))
set_option maxRecDepth 100000 in
theorem check_any (o : PObj) (w : World) (hs : o.2.size ≤ 9223372036854775807) :
    Calls Try.prog 10 #[objA o] w fun e w' => e = .returned (.int .i64 (chkE o)) ∧ Below w.heap.size w w' := by
  obtain ⟨k, p⟩ := o
  have hk := k.toNat_lt
  rcases chk_cases (k, p) with ⟨h1, hb⟩ | ⟨h1, h2, hb⟩ | ⟨h1, h2, h3, hb⟩ | ⟨h1, h2, h3, hb⟩
  all_goals
    have HB := Lib.hid hb
    clear hb
    unfold objA
    dsimp only at *
    go_enter Try.func10, Try.ntmps10
    go_wp2
    go_ret
    exact ⟨by first | (rw [chk_no HB.out]; rfl) | (rw [chk_yes HB.out]; rfl), (Below.refl _ _).alloc (Nat.le_refl _) _⟩
set_option maxRecDepth 100000 in
theorem rcheck_any (o : PObj) (w : World) (hs : o.2.size ≤ 9223372036854775807) :
    Calls Try.prog 11 #[objA o] w fun e w' => e = .returned (.int .i64 (chkE o)) ∧ Below w.heap.size w w' := by
  obtain ⟨k, p⟩ := o
  have hk := k.toNat_lt
  rcases chk_cases (k, p) with ⟨h1, hb⟩ | ⟨h1, h2, hb⟩ | ⟨h1, h2, h3, hb⟩ | ⟨h1, h2, h3, hb⟩
  all_goals
    have HB := Lib.hid hb
    clear hb
    unfold objA
    dsimp only at *
    go_enter Try.func11, Try.ntmps11
    go_wp2
    go_ret
    exact ⟨by first | (rw [chk_no HB.out]; rfl) | (rw [chk_yes HB.out]; rfl), (Below.refl _ _).alloc (Nat.le_refl _) _⟩
set_option maxRecDepth 100000 in
theorem trailer_any (n : Nat) (w : World) (hn : n ≤ 4611686018427387904) :
    Calls Try.prog 33 #[.int .i64 (n : Int)] w fun e w' => e = .returned (.string (trlB n)) ∧ Below w.heap.size w w' := by
  have P := Lib.hid (fun W => put_any ⟨#[0]⟩ n W (by omega) (by decide))
  have F := Lib.hid (fun W => frame_any (trlS n) W (by rw [trlS_size]; have := putL_le n; omega))
  rw [show (⟨#[0]⟩ : ByteArray) ++ bs (putL n) = trlS n from rfl] at P
  have E : Hid (frmB (trlS n) = trlB n) := Lib.hid rfl
  generalize trlS n = t at *
  go_enter Try.func33, Try.ntmps33
  go_wp2_with fail
  (with_reducible refine (P.out _).mono ?_)
  rintro e w1 ⟨rfl, hb1⟩
  have HB1 := Lib.hid hb1
  clear hb1 P
  go_wp2_with fail
  (with_reducible refine (F.out _).mono ?_)
  rintro e w2 ⟨rfl, hb2⟩
  have HB2 : Hid (Below w.heap.size w w2) := Lib.hid (HB1.out.trans (hb2.mono HB1.out.size))
  clear hb2 F
  go_wp2
  go_ret
  exact ⟨by rw [← E.out]; rfl, HB2.out⟩
set_option maxRecDepth 100000 in
theorem rtrailer_any (n : Nat) (w : World) (hn : n ≤ 4611686018427387904) :
    Calls Try.prog 37 #[.int .i64 (n : Int)] w fun e w' => e = .returned (.string (trlB n)) ∧ Below w.heap.size w w' := by
  have P := Lib.hid (fun W => rput_any ⟨#[0]⟩ n W (by omega) (by decide))
  have F := Lib.hid (fun W => rlaid_any (trlS n) W (by rw [trlS_size]; have := putL_le n; omega))
  rw [show (⟨#[0]⟩ : ByteArray) ++ bs (putL n) = trlS n from rfl] at P
  have E : Hid (frmB (trlS n) = trlB n) := Lib.hid rfl
  generalize trlS n = t at *
  go_enter Try.func37, Try.ntmps37
  go_wp2_with fail
  (with_reducible refine (P.out _).mono ?_)
  rintro e w1 ⟨rfl, hb1⟩
  have HB1 := Lib.hid hb1
  clear hb1 P
  go_wp2_with fail
  (with_reducible refine (F.out _).mono ?_)
  rintro e w2 ⟨rfl, hb2⟩
  have HB2 : Hid (Below w.heap.size w w2) := Lib.hid (HB1.out.trans (hb2.mono HB1.out.size))
  clear hb2 F
  go_wp2
  go_ret
  exact ⟨by rw [← E.out]; rfl, HB2.out⟩
set_option maxRecDepth 100000 in
theorem rrecord_any (o : PObj) (w : World) (hs : o.2.size ≤ 2097152) :
    Calls Try.prog 36 #[objA o] w fun e w' => e = .returned (.string (recB o)) ∧ Below w.heap.size w w' := by
  have F := Lib.hid (fun W => rlaid_any (recS o) W (by rw [recS_size]; omega))
  have E : Hid (frmB (recS o) = recB o) := Lib.hid rfl
  have E2 : Hid (bs [o.1] ++ o.2 = recS o) := Lib.hid rfl
  obtain ⟨k, p⟩ := o
  have hz : (bs [k]).size = 1 := rfl
  have HBW : Hid (Below w.heap.size w ((w.alloc (.cells #[.int .u8 (k.toNat : Int), .string p] 31)).alloc (.cells #[.int .u8 (k.toNat : Int)] 5))) := Lib.hid (((Below.refl _ _).alloc (Nat.le_refl _) _).alloc (by simp) _)
  have RC := Lib.hid (fun j hj => byte_conv (w.alloc (.cells #[.int .u8 (k.toNat : Int), .string p] 31)) k (k.toNat : Int) rfl j hj)
  unfold objA
  dsimp only at *
  go_enter Try.func36, Try.ntmps36
  go_wp2_with (with_reducible refine conv_str_wp (e := 5) (by kernel_rfl) (by kernel_rfl) (by kernel_rfl) rfl _ rfl ⟨w.heap.size + 1, 0, none⟩ 1 1 rfl [k] rfl ?c1 ?_)
  case c1 => have := RC.out; simp only [World.size_alloc] at this; exact this
  rw [E2.out]
  generalize recS (k, p) = t at *
  (with_reducible refine (F.out _).mono ?_)
  rintro e w2 ⟨rfl, hb2⟩
  have HB2 : Hid (Below w.heap.size w w2) := Lib.hid (HBW.out.trans (hb2.mono HBW.out.size))
  clear hb2 F
  go_wp2
  go_ret
  exact ⟨by rw [← E.out]; rfl, HB2.out⟩
set_option maxRecDepth 100000 in
theorem rof_any (k : UInt8) (s0 : ByteArray) (w : World) (hs : s0.size ≤ 2097152) :
    Calls Try.prog 38 #[.int .u8 (k.toNat : Int), .string s0] w fun e w' => e = .returned (.agg (nmA (k, s0))) ∧ Below w.heap.size w w' := by
  have W1 := Lib.hid (fun W => whole_any k s0 W (by omega))
  have hq : (nmS (k, s0)).size ≤ 140737488351232 := by unfold nmS; rw [ByteArray.size_append, headB_size]; show 9 + s0.size ≤ _; omega
  have Q1 := Lib.hid (fun W => quick_big (nmS (k, s0)) W hq)
  rw [show headB k s0.size ++ s0 = nmS (k, s0) from rfl] at W1
  have E : Hid (idA (shaF (byteAt (nmS (k, s0))) (nmS (k, s0)).size) = nmA (k, s0)) := Lib.hid rfl
  rw [E.out] at Q1
  have Z0 : Hid ((w.alloc zeroId).rowIs w.heap.size 42 32 (fun _ => .int .u8 0) ∧ Below w.heap.size w (w.alloc zeroId)) := Lib.hid ⟨zeros_row w (T := 42) (c := _) (n := 32) (z := .int .u8 0) (by rfl), (Below.refl _ _).alloc (Nat.le_refl _) _⟩
  obtain ⟨t, ht⟩ : ∃ t, nmS (k, s0) = t := ⟨_, rfl⟩
  have HT := Lib.hid ht
  rw [ht] at W1 Q1
  clear ht hq
  go_enter Try.func38, Try.ntmps38
  go_wp2_with fail
  change Calls _ _ _ (w.alloc zeroId) _
  (with_reducible refine (W1.out _).mono ?_)
  rintro e w1 ⟨rfl, hb1⟩
  have Z1 : Hid (w1.rowIs w.heap.size 42 32 (fun _ => .int .u8 0) ∧ Below w.heap.size w w1) := Lib.hid ⟨Z0.out.1.of_block (hb1.block _ Z0.out.1.lt), Z0.out.2.trans (hb1.mono Z0.out.2.size)⟩
  clear hb1 W1 Z0
  go_wp2_with fail
  (with_reducible refine (Q1.out _).mono ?_)
  rintro e w2 ⟨rfl, hb2⟩
  have R2 := Z1.out.1.of_block (hb2.block _ Z1.out.1.lt)
  have HP := Lib.hid (id_put (w := w) (g := w.heap.size) (shaF (byteAt (nmS (k, s0))) (nmS (k, s0)).size) R2 (Z1.out.2.trans (hb2.mono Z1.out.2.size)) (Nat.le_refl _))
  have o4 := ok32_of R2 (Nat.le_refl 32)
  have f1 := idA_full (shaF (byteAt (nmS (k, s0))) (nmS (k, s0)).size)
  rw [E.out] at f1 HP
  clear hb2 R2 Q1
  go_wp2
  exact bodyPost_ret (v := .agg (nmA (k, s0))) (results_cell_row rfl _ _ w.heap.size 42 _ (0, 0) _ rfl HP.out.1 Try.underlying42 rfl (by rw [nmA_size]; kernel_rfl)) rfl ⟨rfl, HP.out.2⟩
end Go.Proofs.Ytpfccicahfncbaa
namespace Go.Proofs.Ytpfccicahfncbaa
open Go.RowKit Wir Dig
set_option linter.unusedVariables false
theorem results_obj_tmp {fn : Func} {p u : Tmp} {ty : TypeId} {fs : Array Field} (h : fn.results = #[.cell p ty, .tmp u]) (tmps : Array Value) {P : Program} (w : World) (g : Nat) (t : TypeId) (cs : Array Value) (fr : Nat × Nat)
    (hp : tmps.getD p undef = .pointer (some ⟨g, 0, none⟩)) (hg : w.heap[g]? = some (.cells cs t fr))
    (hu : P.underlying ty = some (.struct fs)) (hi : (P.info? ty).map (·.size) = some cs.size) :
    (results fn tmps).run P w = .ok (.tuple #[.agg cs, tmps.getD u undef]) w := by
  have hp' : tmps[p]?.getD undef = .pointer (some ⟨g, 0, none⟩) := by simpa using hp
  simp [results, h, hp', asAddr, run_loadVar_row w g t ty cs fr (.struct fs) hg hu rfl hi]
theorem results_obj_tmp2 {fn : Func} {p u v : Tmp} {ty : TypeId} {fs : Array Field} (h : fn.results = #[.cell p ty, .tmp u, .tmp v]) (tmps : Array Value) {P : Program} (w : World) (g : Nat) (t : TypeId) (cs : Array Value) (fr : Nat × Nat)
    (hp : tmps.getD p undef = .pointer (some ⟨g, 0, none⟩)) (hg : w.heap[g]? = some (.cells cs t fr))
    (hu : P.underlying ty = some (.struct fs)) (hi : (P.info? ty).map (·.size) = some cs.size) :
    (results fn tmps).run P w = .ok (.tuple #[.agg cs, tmps.getD u undef, tmps.getD v undef]) w := by
  have hp' : tmps[p]?.getD undef = .pointer (some ⟨g, 0, none⟩) := by simpa using hp
  simp [results, h, hp', asAddr, run_loadVar_row w g t ty cs fr (.struct fs) hg hu rfl hi]
theorem toList_some {p : ByteArray} (h : 1 ≤ p.size) : p.toList.isEmpty = false := by
  rw [ByteArray.toList_eq]
  have h2 : 1 ≤ p.data.toList.length := by simpa using h
  cases e : p.data.toList with
  | nil => rw [e] at h2; simp at h2
  | cons a l => rfl
/-- The object whose record stands at the front, and what stands behind it. -/
def fstF (s : ByteArray) : Option (PObj × ByteArray) := match unF s with
  | none => none
  | some (p, r) => if p.size = 0 then none else if okO (byteAt p 0, p.extract 1 p.size) = true then some ((byteAt p 0, p.extract 1 p.size), r) else none
def zeroO : Value := .agg #[.int .u8 0, .string ByteArray.empty]
def fstV (s : ByteArray) : Value := match fstF s with
  | none => .tuple #[zeroO, .string ByteArray.empty, .bool false]
  | some (o, r) => .tuple #[objA o, .string r, .bool true]
theorem fstF_none {s : ByteArray} (h : unF s = none) : fstF s = none := by rw [fstF, h]
theorem fstF_empty {s p r : ByteArray} (h : unF s = some (p, r)) (h0 : p.size = 0) : fstF s = none := by rw [fstF, h]; simp only; rw [if_pos h0]
theorem fstF_bad {s p r : ByteArray} (h : unF s = some (p, r)) (h0 : ¬ p.size = 0) (hb : okO (byteAt p 0, p.extract 1 p.size) = false) : fstF s = none := by
  rw [fstF, h]; simp only; rw [if_neg h0, if_neg (by rw [hb]; decide)]
theorem fstF_some {s p r : ByteArray} (h : unF s = some (p, r)) (h0 : ¬ p.size = 0) (hb : okO (byteAt p 0, p.extract 1 p.size) = true) : fstF s = some ((byteAt p 0, p.extract 1 p.size), r) := by
  rw [fstF, h]; simp only; rw [if_neg h0, if_pos hb]
theorem fstV_none {s : ByteArray} (h : fstF s = none) : fstV s = .tuple #[zeroO, .string ByteArray.empty, .bool false] := by rw [fstV, h]
theorem fstV_some {s r : ByteArray} {o : PObj} (h : fstF s = some (o, r)) : fstV s = .tuple #[objA o, .string r, .bool true] := by rw [fstV, h]
theorem unF_sizes {s p r : ByteArray} (h : unF s = some (p, r)) : p.size ≤ 67108864 ∧ 8 + p.size + r.size = s.size := by
  rw [unF] at h
  split at h
  · cases h
  · split at h
    · cases h
    · split at h
      · cases h
      · rename_i h1 h2 h3
        injection h with h
        injection h with ha hb
        subst ha; subst hb
        simp only [ByteArray.size_extract] at *
        omega
set_option maxRecDepth 100000 in
set_option maxHeartbeats 1000000 in
theorem pkFirst_any (s : ByteArray) (w : World) (hs : s.size ≤ 140737488355328) :
    Calls Try.prog 59 #[.string s] w fun e w' => e = .returned (fstV s) ∧ Below w.heap.size w w' := by
  have U := Lib.hid (fun W => unframe_any s W hs)
  have B0 : Hid (Blk (w.alloc (.cells #[.int .u8 0, .string ByteArray.empty] 30)) w.heap.size 30 #[.int .u8 0, .string ByteArray.empty] ∧ Below w.heap.size w (w.alloc (.cells #[.int .u8 0, .string ByteArray.empty] 30))) := Lib.hid ⟨Blk.new _ _ _, (Below.refl _ _).alloc (Nat.le_refl _) _⟩
  have HU : Hid (Try.prog.underlying 30 = _) := Lib.hid Try.underlying30
  cases hu : unF s with
  | none =>
    have E := Lib.hid (fstV_none (fstF_none hu))
    rw [unV_none hu] at U
    clear hu
    go_enter Try.func59, Try.ntmps59
    go_wp2_with fail
    change Calls _ _ _ (w.alloc (.cells #[.int .u8 0, .string ByteArray.empty] 30)) _
    (with_reducible refine (U.out _).mono ?_)
    rintro e w1 ⟨rfl, hb1⟩
    have B1 : Hid (Blk w1 w.heap.size 30 #[.int .u8 0, .string ByteArray.empty] ∧ Below w.heap.size w w1) := Lib.hid ⟨B0.out.1.below hb1 B0.out.1.lt, B0.out.2.trans (hb1.mono B0.out.2.size)⟩
    clear hb1 U B0
    have c0 := B1.out.1.cell 0
    have c1 := B1.out.1.cell 1
    have f0 := B1.out.1.frozen 0
    have f1 := B1.out.1.frozen 1
    go_wp2
    have HF := Lib.hid ((B1.out.1.set_ 0 (.int .u8 0)).set_ 1 (.string ByteArray.empty))
    have HB := Lib.hid ((B1.out.2.setCell (p := ⟨w.heap.size, 0, none⟩) (Nat.le_refl _) (.int .u8 0)).setCell (p := ⟨w.heap.size, 1, none⟩) (Nat.le_refl _) (.string ByteArray.empty))
    exact bodyPost_ret (results_obj_tmp2 (p := 2) (u := 3) (v := 4) rfl _ _ w.heap.size 30 #[.int .u8 0, .string ByteArray.empty] (0, 0) rfl HF.out Try.underlying30 (by kernel_rfl)) rfl ⟨by rw [E.out]; rfl, HB.out⟩
  | some q =>
    obtain ⟨p, r⟩ := q
    have hsz := unF_sizes hu
    rw [unV_some hu] at U
    by_cases hp0 : p.size = 0
    · have E := Lib.hid (fstV_none (fstF_empty hu hp0))
      obtain rfl : p = ByteArray.empty := ext_byteAt (by rw [hp0]; rfl) (fun i hi => absurd hi (by omega))
      clear hu hp0 hsz
      go_enter Try.func59, Try.ntmps59
      go_wp2_with fail
      change Calls _ _ _ (w.alloc (.cells #[.int .u8 0, .string ByteArray.empty] 30)) _
      (with_reducible refine (U.out _).mono ?_)
      rintro e w1 ⟨rfl, hb1⟩
      have B1 : Hid (Blk w1 w.heap.size 30 #[.int .u8 0, .string ByteArray.empty] ∧ Below w.heap.size w w1) := Lib.hid ⟨B0.out.1.below hb1 B0.out.1.lt, B0.out.2.trans (hb1.mono B0.out.2.size)⟩
      clear hb1 U B0
      have c0 := B1.out.1.cell 0
      have c1 := B1.out.1.cell 1
      have f0 := B1.out.1.frozen 0
      have f1 := B1.out.1.frozen 1
      go_wp2
      have HF := Lib.hid ((B1.out.1.set_ 0 (.int .u8 0)).set_ 1 (.string ByteArray.empty))
      have HB := Lib.hid ((B1.out.2.setCell (p := ⟨w.heap.size, 0, none⟩) (Nat.le_refl _) (.int .u8 0)).setCell (p := ⟨w.heap.size, 1, none⟩) (Nat.le_refl _) (.string ByteArray.empty))
      exact bodyPost_ret (results_obj_tmp2 (p := 2) (u := 3) (v := 4) rfl _ _ w.heap.size 30 #[.int .u8 0, .string ByteArray.empty] (0, 0) rfl HF.out Try.underlying30 (by kernel_rfl)) rfl ⟨by rw [E.out]; rfl, HB.out⟩
    · have hp1 : 1 ≤ p.size := by omega
      have hp1i : (1 : Int) ≤ (p.size : Int) := by omega
      have hp2i : (0 : Int) < (p.size : Int) := by omega
      have hp3 : 0 < p.size := by omega
      have hne : p.toList.isEmpty = false := toList_some hp1
      have EB := Lib.hid (byteAt_get p 0 hp1)
      have F0 := Lib.hid (fun h => fstF_bad hu hp0 h)
      have F1 := Lib.hid (fun h => fstF_some hu hp0 h)
      have hxs : (p.extract 1 p.size).size ≤ 9223372036854775807 := by rw [ByteArray.size_extract]; omega
      have C := Lib.hid (fun W => check_any (byteAt p 0, p.extract 1 p.size) W hxs)
      unfold objA at C
      dsimp only at C
      clear hu hp0
      go_enter Try.func59, Try.ntmps59
      go_wp2_with fail
      change Calls _ _ _ (w.alloc (.cells #[.int .u8 0, .string ByteArray.empty] 30)) _
      (with_reducible refine (U.out _).mono ?_)
      rintro e w1 ⟨rfl, hb1⟩
      have B1 : Hid (Blk w1 w.heap.size 30 #[.int .u8 0, .string ByteArray.empty] ∧ Below w.heap.size w w1) := Lib.hid ⟨B0.out.1.below hb1 B0.out.1.lt, B0.out.2.trans (hb1.mono B0.out.2.size)⟩
      clear hb1 U B0
      have c0 := B1.out.1.cell 0
      have c1 := B1.out.1.cell 1
      have f0 := B1.out.1.frozen 0
      have f1 := B1.out.1.frozen 1
      go_upto_region 4 with fail
      go_region
      rw [EB.out]
      have B2 : Hid (Blk (((w1.setCell ⟨w.heap.size, 0, none⟩ (.int .u8 ((byteAt p 0).toNat : Int))).setCell ⟨w.heap.size, 1, none⟩ (.string (p.extract 1 p.size))).drew) w.heap.size 30 #[.int .u8 ((byteAt p 0).toNat : Int), .string (p.extract 1 p.size)] ∧ Below w.heap.size w (((w1.setCell ⟨w.heap.size, 0, none⟩ (.int .u8 ((byteAt p 0).toNat : Int))).setCell ⟨w.heap.size, 1, none⟩ (.string (p.extract 1 p.size))).drew)) := Lib.hid ⟨(B1.out.1.set_ 0 _).set_ 1 _, ((B1.out.2.setCell (p := ⟨w.heap.size, 0, none⟩) (Nat.le_refl _) _).setCell (p := ⟨w.heap.size, 1, none⟩) (Nat.le_refl _) _).drew⟩
      generalize (((w1.setCell ⟨w.heap.size, 0, none⟩ (.int .u8 ((byteAt p 0).toNat : Int))).setCell ⟨w.heap.size, 1, none⟩ (.string (p.extract 1 p.size))).drew) = w2 at B2 ⊢
      clear c0 c1 f0 f1 B1 hne EB
      generalize p.extract 1 p.size = x at *
      generalize byteAt p 0 = k at *
      have c0 := B2.out.1.cell 0
      have c1 := B2.out.1.cell 1
      cases hok : okO (k, x) with
      | false =>
        rw [chk_no hok] at C
        have E := Lib.hid (fstV_none (F0.out hok))
        clear F0 F1 hok
        go_wp2_with fail
        (with_reducible refine (C.out _).mono ?_)
        rintro e w3 ⟨rfl, hb3⟩
        have B3 : Hid (Blk w3 w.heap.size 30 #[.int .u8 (k.toNat : Int), .string x] ∧ Below w.heap.size w w3) := Lib.hid ⟨B2.out.1.below hb3 B2.out.1.lt, B2.out.2.trans (hb3.mono B2.out.2.size)⟩
        clear hb3 C c0 c1
        have c0 := B3.out.1.cell 0
        have c1 := B3.out.1.cell 1
        have f0 := B3.out.1.frozen 0
        have f1 := B3.out.1.frozen 1
        go_wp2
        have HF := Lib.hid ((B3.out.1.set_ 0 (.int .u8 0)).set_ 1 (.string ByteArray.empty))
        have HB := Lib.hid ((B3.out.2.setCell (p := ⟨w.heap.size, 0, none⟩) (Nat.le_refl _) (.int .u8 0)).setCell (p := ⟨w.heap.size, 1, none⟩) (Nat.le_refl _) (.string ByteArray.empty))
        exact bodyPost_ret (results_obj_tmp2 (p := 2) (u := 3) (v := 4) rfl _ _ w.heap.size 30 #[.int .u8 0, .string ByteArray.empty] (0, 0) rfl HF.out Try.underlying30 (by kernel_rfl)) rfl ⟨by rw [E.out]; rfl, HB.out⟩
      | true =>
        rw [chk_yes hok] at C
        have E := Lib.hid (fstV_some (F1.out hok))
        clear F0 F1 hok
        go_wp2_with fail
        (with_reducible refine (C.out _).mono ?_)
        rintro e w3 ⟨rfl, hb3⟩
        have B3 : Hid (Blk w3 w.heap.size 30 #[.int .u8 (k.toNat : Int), .string x] ∧ Below w.heap.size w w3) := Lib.hid ⟨B2.out.1.below hb3 B2.out.1.lt, B2.out.2.trans (hb3.mono B2.out.2.size)⟩
        clear hb3 C c0 c1
        have c0 := B3.out.1.cell 0
        have c1 := B3.out.1.cell 1
        have f0 := B3.out.1.frozen 0
        have f1 := B3.out.1.frozen 1
        go_wp2
        have HF := Lib.hid ((B3.out.1.set_ 0 (.int .u8 (k.toNat : Int))).set_ 1 (.string x))
        have HB := Lib.hid ((B3.out.2.setCell (p := ⟨w.heap.size, 0, none⟩) (Nat.le_refl _) (.int .u8 (k.toNat : Int))).setCell (p := ⟨w.heap.size, 1, none⟩) (Nat.le_refl _) (.string x))
        exact bodyPost_ret (results_obj_tmp2 (p := 2) (u := 3) (v := 4) rfl _ _ w.heap.size 30 #[.int .u8 (k.toNat : Int), .string x] (0, 0) rfl HF.out Try.underlying30 (by kernel_rfl)) rfl ⟨by rw [E.out]; rfl, HB.out⟩
end Go.Proofs.Ytpfccicahfncbaa
namespace Go.Proofs.Ytpfccicahfncbaa
open Go.RowKit
def row35 (w : World) (g off : Nat) : Array Value := ((List.range 35).map fun j => (w.cell? ⟨g, off + j, none⟩).getD undef).toArray
/-- The block is there, plain, and long enough. -/
def ok35 (w : World) (g off : Nat) : Bool := match w.heap[g]? with
  | some (.cells cur _ (0, 0)) => decide (off + 35 ≤ cur.size)
  | _ => false
def put35 (w : World) (g off : Nat) (vs : Array Value) : World := match w.heap[g]? with
  | some (.cells cur _ _) => w.setRow g (cur.toList.take off ++ vs.toList ++ cur.toList.drop (off + vs.toList.length)).toArray
  | _ => w
def full35 (vs : Array Value) : Bool := decide (vs.size = 35) && vs.all (·.oneCell')
theorem ok35_of {w : World} {g N off : Nat} {T : TypeId} {f : Nat → Value} (h : w.rowIs g T N f) (hfit : off + 35 ≤ N) : ok35 w g off = true := by
  obtain ⟨c, hb, hn, _⟩ := h
  unfold ok35; rw [hb]
  simp only [decide_eq_true_eq]; omega
theorem ok35_block {w : World} {g off : Nat} (h : ok35 w g off = true) : ∃ cur T, w.heap[g]? = some (.cells cur T (0, 0)) ∧ off + 35 ≤ cur.size := by
  unfold ok35 at h
  split at h
  · rename_i cur T hh; exact ⟨cur, T, hh, of_decide_eq_true h⟩
  · cases h
theorem row35_size (w : World) (g off : Nat) : (row35 w g off).size = 35 := by simp [row35]
theorem info35 : (Try.prog.info? 44).map (·.size) = some 35 := by kernel_rfl
theorem run_isAgg35 (w : World) : (isAgg 44).run Try.prog w = .ok true w := by kernel_rfl
theorem run_size35 (w : World) : (sizeOf 44).run Try.prog w = .ok 35 w := by kernel_rfl
theorem loadAt_row35 (w : World) (g off : Nat) (h : ok35 w g off = true) :
    (Instr.loadAt 44 (.pointer (some ⟨g, off, none⟩))).run Try.prog w = .ok (.agg (row35 w g off)) w := by
  obtain ⟨cur, T, hh, hs⟩ := ok35_block h
  have := run_loadCells_list (P := Try.prog) w ⟨g, off, none⟩ (row35 w g off).toList (fun j v hv => by
    have hj : j < 35 := by
      rcases Nat.lt_or_ge j 35 with h | h
      · exact h
      · rw [List.getElem?_eq_none (by rw [Array.length_toList, row35_size]; exact h)] at hv; cases hv
    have ea : ({ block := g, off := off, spot := none } : Addr).add j = ⟨g, off + j, none⟩ := by unfold Addr.add; split <;> simp_all
    rw [ea]
    simp [row35, hj] at hv
    rw [cell_of_row w g (off + j) cur T (0, 0) hh] at hv ⊢
    rw [Array.getElem?_eq_getElem (by omega)] at hv ⊢
    simpa using hv)
  rw [Array.length_toList, row35_size] at this
  simp only [Instr.loadAt, Instr.sureAddr, loadVar, Sem.run_bind, Sem.run_pure, Result.andThen, run_isAgg35, run_size35, if_true, this]
theorem storeAt_row35 (w : World) (g off : Nat) (vs : Array Value) (h : ok35 w g off = true) (hv : full35 vs = true) :
    (Instr.storeAt 44 (.pointer (some ⟨g, off, none⟩)) (.agg vs)).run Try.prog w = .ok () (put35 w g off vs) := by
  obtain ⟨cur, T, hh, hs⟩ := ok35_block h
  unfold full35 at hv
  rw [Bool.and_eq_true, decide_eq_true_eq] at hv
  have := run_storeCells_at Try.prog g off T vs.toList 0 cur w hh (by rw [Array.length_toList]; omega) (fun v hm => (Array.all_eq_true_iff_forall_mem.1 hv.2) v (by simpa using hm))
  have hc : (Value.agg vs).cells = vs := rfl
  simp only [Instr.storeAt, Instr.sureAddr, storeVar, Sem.run_bind, Sem.run_pure, Result.andThen, run_size35, hc, hv.1, ne_eq, not_true_eq_false, if_false, this]
  unfold put35
  rw [hh]
  simp
def ld35 (x : Value) : Sem Next := do pure (.value (← Instr.loadAt 44 x))
def st35 (x v : Value) : Sem Next := do Instr.storeAt 44 x v; pure .skip
theorem execOp_ld35 (ρ : Operand → Value) (dst : Option Tmp) (x : Operand) (ty : TypeId) (pos : String) (after : Array Edge) (guard : Option (Nat × Bool)) :
    execOp ρ { dst, op := .load 44 x, type := ty, pos, after, guard } = ld35 (ρ x) := rfl
theorem execOp_st35 (ρ : Operand → Value) (dst : Option Tmp) (x v : Operand) (ty : TypeId) (pos : String) (after : Array Edge) (guard : Option (Nat × Bool)) :
    execOp ρ { dst, op := .store 44 x v, type := ty, pos, after, guard } = st35 (ρ x) (ρ v) := rfl
theorem run_ld35 (w : World) (g off : Nat) (h : ok35 w g off = true) : (ld35 (.pointer (some ⟨g, off, none⟩))).run Try.prog w = .ok (.value (.agg (row35 w g off))) w := by
  unfold ld35
  simp only [Sem.run_bind, loadAt_row35 w g off h, Result.andThen, Sem.run_pure]
theorem run_st35 (w : World) (g off : Nat) (vs : Array Value) (h : ok35 w g off = true) (hv : full35 vs = true) : (st35 (.pointer (some ⟨g, off, none⟩)) (.agg vs)).run Try.prog w = .ok .skip (put35 w g off vs) := by
  unfold st35
  simp only [Sem.run_bind, storeAt_row35 w g off vs h hv, Result.andThen, Sem.run_pure]
theorem put35_row {w : World} {g N : Nat} {T : TypeId} {f : Nat → Value} (h : w.rowIs g T N f) (off : Nat) (vs : Array Value) (hfit : off + 35 ≤ N) (hv : full35 vs = true) :
    (put35 w g off vs).rowIs g T N (fun x => if off ≤ x ∧ x < off + 35 then vs.toList.getD (x - off) undef else f x) ∧ w.grownBy (put35 w g off vs) (some g) := by
  unfold full35 at hv
  rw [Bool.and_eq_true, decide_eq_true_eq] at hv
  obtain ⟨w', h1, h2, h3⟩ := storeCells_row (P := Try.prog) h off vs.toList (by rw [Array.length_toList, hv.1]; exact hfit) (fun v hm => (Array.all_eq_true_iff_forall_mem.1 hv.2) v (by simpa using hm))
  have hs := storeAt_row35 w g off vs (ok35_of h hfit) (by unfold full35; rw [Bool.and_eq_true, decide_eq_true_eq]; exact hv)
  have hc : (Value.agg vs).cells = vs := rfl
  simp only [Instr.storeAt, Instr.sureAddr, storeVar, Sem.run_bind, Sem.run_pure, Result.andThen, run_size35, hc, hv.1, ne_eq, not_true_eq_false, if_false] at hs
  rw [h1] at hs
  injection hs with _ hs
  subst hs
  refine ⟨h2.congr fun x _ => ?_, h3⟩
  unfold over
  rw [Array.length_toList, hv.1]
theorem row35_get {w : World} {g N off : Nat} {T : TypeId} {f : Nat → Value} (h : w.rowIs g T N f) (hfit : off + 35 ≤ N) (j : Nat) (hj : j < 35) : (row35 w g off).toList.getD j undef = f (off + j) := by
  have := h.cell (i := off + j) (by omega)
  simp [row35, List.getD, hj, this]
theorem row35_full {w : World} {g N off : Nat} {T : TypeId} {f : Nat → Value} (h : w.rowIs g T N f) (hfit : off + 35 ≤ N) (h1 : ∀ x, (f x).oneCell' = true) : full35 (row35 w g off) = true := by
  unfold full35
  rw [Bool.and_eq_true, decide_eq_true_eq]
  refine ⟨row35_size _ _ _, ?_⟩
  rw [Array.all_eq_true_iff_forall_mem]
  intro v hv
  simp only [row35, List.mem_toArray, List.mem_map, List.mem_range] at hv
  obtain ⟨j, hj, rfl⟩ := hv
  rw [h.cell (i := off + j) (by omega)]
  exact h1 _
end Go.Proofs.Ytpfccicahfncbaa
