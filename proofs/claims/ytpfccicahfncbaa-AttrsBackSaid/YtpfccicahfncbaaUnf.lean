/- Walk: frame.Unframe, and what it tells. -/
import Derived.Test.YtpfccicahfncbaaFixR
import Derived.Test.YtpfccicahfncbaaCrcV
import Derived.BigQuiet
import Derived.Deep.DeepCutAuto
namespace Go.Proofs.Ytpfccicahfncbaa
open Go.RowKit Wir
set_option linter.unusedVariables false
/-- The payload of the frame at the front, and what stands behind it. -/
def unF (s : ByteArray) : Option (ByteArray × ByteArray) :=
  if s.size < 8 ∨ 67108864 < fixV s 4 then none
  else if (s.extract 8 s.size).size < fixV s 4 then none
  else if (onC (onC 0 (s.extract 0 4)) ((s.extract 8 s.size).extract 0 (fixV s 4))).toNat ≠ fixV (s.extract 4 s.size) 4 then none
  else some ((s.extract 8 s.size).extract 0 (fixV s 4), s.extract (8 + fixV s 4) s.size)
def unV (s : ByteArray) : Value := match unF s with
  | none => .tuple #[.string ByteArray.empty, .string ByteArray.empty, .int .i64 4]
  | some q => .tuple #[.string q.1, .string q.2, .int .i64 0]
theorem unV_none {s : ByteArray} (h : unF s = none) : unV s = .tuple #[.string ByteArray.empty, .string ByteArray.empty, .int .i64 4] := by unfold unV; rw [h]
theorem unV_some {s p r : ByteArray} (h : unF s = some (p, r)) : unV s = .tuple #[.string p, .string r, .int .i64 0] := by unfold unV; rw [h]
theorem takeS_on {s : ByteArray} {k : Nat} (h : k ≤ s.size) : takeS s k = s.extract k s.size := by rw [takeS, if_neg (by omega)]
theorem takeE_on {s : ByteArray} {k : Nat} (h : k ≤ s.size) : takeE s k = 0 := by rw [takeE, if_neg (by omega)]
theorem takeE_off {s : ByteArray} {k : Nat} (h : s.size < k) : takeE s k = 4 := by rw [takeE, if_pos h]
theorem byteAt_part (s : ByteArray) (f t i : Nat) (hi : i < t - f) (ht : t ≤ s.size) : byteAt (s.extract f t) i = byteAt s (f + i) := by
  have h1 : i < (s.extract f t).size := by rw [ByteArray.size_extract]; omega
  rw [← byteAt_get _ _ h1, ← byteAt_get _ _ (show f + i < s.size by omega), ByteArray.getElem_extract]
theorem extract_extract4 (s : ByteArray) (h : 8 ≤ s.size) : (s.extract 4 s.size).extract 4 (s.extract 4 s.size).size = s.extract 8 s.size := by
  have e : (s.extract 4 s.size).size = s.size - 4 := by rw [ByteArray.size_extract]; omega
  refine ext_byteAt (by simp only [ByteArray.size_extract]; omega) fun i hi => ?_
  have hi' : i < s.size - 8 := by simp only [ByteArray.size_extract] at hi; omega
  rw [byteAt_part _ _ _ _ (by rw [e]; omega) (Nat.le_refl _), byteAt_part _ _ _ _ (by omega) (Nat.le_refl _), byteAt_part _ _ _ _ (by omega) (Nat.le_refl _)]
  congr 1; omega
theorem takeS_le (s : ByteArray) (k : Nat) : (takeS s k).size ≤ s.size := by
  unfold takeS
  split
  · exact Nat.le_refl _
  · rw [ByteArray.size_extract]; omega
theorem fixed4_any (s : ByteArray) (R : Nat) (w : World) (h : Rdr w R s) (hs : s.size ≤ 9223372036854775807) :
    Calls Try.prog 55 #[.pointer (some ⟨R, 0, none⟩), .int .i64 4] w
      fun e w' => e = .returned (.tuple #[.int .u64 (fixV s 4 : Int), .int .i64 (takeE s 4)]) ∧ Rdr w' R (takeS s 4) ∧ ∀ B, B ≤ R → Below B w w' := fixed_any s R 4 w h hs (by omega) (by omega)
theorem fix4_lt (s : ByteArray) : fixV s 4 < 4294967296 := by
  unfold fixV
  split
  · omega
  · exact beN_lt _ 4
set_option maxRecDepth 100000 in
set_option maxHeartbeats 1000000 in
theorem unframe_any (s : ByteArray) (w : World) (hs : s.size ≤ 140737488355328) :
    Calls Try.prog 83 #[.string s] w fun e w' => e = .returned (unV s) ∧ Below w.heap.size w w' := by
  have N1 := Lib.hid (fun W => newReader_any s W)
  have F1 := Lib.hid (fun R W h => fixed4_any s R W h (by omega))
  have hz4 : (takeS s 4).size ≤ s.size := takeS_le s 4
  have F2 := Lib.hid (fun R W h => fixed4_any (takeS s 4) R W h (by omega))
  have U0 := Lib.hid (rfl : unF s = unF s)
  obtain ⟨n, hn⟩ : ∃ n, fixV s 4 = n := ⟨_, rfl⟩
  obtain ⟨c, hc⟩ : ∃ c, fixV (takeS s 4) 4 = c := ⟨_, rfl⟩
  rw [hn] at F1
  rw [hc] at F2
  have HN := Lib.hid hn
  have HC := Lib.hid hc
  have hn32 : n < 4294967296 := by rw [← hn]; exact fix4_lt s
  have hc32 : c < 4294967296 := by rw [← hc]; exact fix4_lt _
  clear hn hc U0
  go_enter Try.func83, Try.ntmps83
  go_wp2_with fail
  (with_reducible refine (N1.out _).mono ?_)
  rintro e w1 ⟨rfl, hr1, hb1⟩
  have R1 := Lib.hid hr1
  have B1 : Hid (Below w.heap.size w w1) := Lib.hid hb1
  clear hr1 hb1 N1
  go_wp2_with fail
  (with_reducible refine (F1.out _ _ R1.out).mono ?_)
  rintro e w2 ⟨rfl, hr2, hb2⟩
  have R2 := Lib.hid hr2
  have B2 : Hid (Below w.heap.size w w2) := Lib.hid (B1.out.trans (hb2 _ (Nat.le_refl _)))
  clear hr2 hb2 F1 R1 B1
  go_wp2_with fail
  (with_reducible refine (F2.out _ _ R2.out).mono ?_)
  rintro e w3 ⟨rfl, hr3, hb3⟩
  have R3 := Lib.hid hr3
  have B3 : Hid (Below w.heap.size w w3) := Lib.hid (B2.out.trans (hb3 _ (Nat.le_refl _)))
  clear hr3 hb3 F2 R2 B2
  by_cases h8 : s.size < 8
  · have E := Lib.hid (unV_none (show unF s = none by rw [unF, if_pos (Or.inl h8)]))
    go_wp2
    go_ret3
    exact ⟨by rw [E.out]; rfl, B3.out⟩
  by_cases hm : 67108864 < n
  · have E := Lib.hid (unV_none (show unF s = none by rw [unF, if_pos (Or.inr (by rw [HN.out]; exact hm))]))
    go_wp2
    go_ret3
    exact ⟨by rw [E.out]; rfl, B3.out⟩
  have e4 : takeS s 4 = s.extract 4 s.size := takeS_on (by omega)
  have e8 : takeS (takeS s 4) 4 = s.extract 8 s.size := by
    rw [e4, takeS_on (by rw [ByteArray.size_extract]; omega), extract_extract4 s (by omega)]
  rw [e8] at R3
  rw [e4] at HC
  have hr : (s.extract 8 s.size).size = s.size - 8 := by rw [ByteArray.size_extract]; omega
  have UN : Hid ((s.extract 8 s.size).size < n → unF s = none) := Lib.hid (fun h => by rw [unF, if_neg (by rw [HN.out]; omega), if_pos (by rw [HN.out]; exact h)])
  have UC : Hid (¬ (s.extract 8 s.size).size < n → (onC (onC 0 (s.extract 0 4)) ((s.extract 8 s.size).extract 0 n)).toNat ≠ c → unF s = none) := Lib.hid (fun h h' => by rw [unF, if_neg (by rw [HN.out]; omega), if_neg (by rw [HN.out]; exact h), if_pos (by rw [HN.out, HC.out]; exact h')])
  have US : Hid (¬ (s.extract 8 s.size).size < n → (onC (onC 0 (s.extract 0 4)) ((s.extract 8 s.size).extract 0 n)).toNat = c → unF s = some ((s.extract 8 s.size).extract 0 n, s.extract (8 + n) s.size)) := Lib.hid (fun h h' => by rw [unF, if_neg (by rw [HN.out]; omega), if_neg (by rw [HN.out]; exact h), if_neg (by rw [HN.out, HC.out]; exact not_not_intro h'), HN.out])
  obtain ⟨r, hrr⟩ : ∃ r, s.extract 8 s.size = r := ⟨_, rfl⟩
  rw [hrr] at R3 UN UC US hr
  have hcv := Lib.hid hrr
  have T6 := Lib.hid (fun R W h => take_any' r R n W h (by omega) (by omega))
  clear e4 e8 hrr hz4
  by_cases hrn : r.size < n
  · have E := Lib.hid (unV_none (UN.out hrn))
    rw [takeE_off hrn] at T6
    clear UN UC US hrn
    go_wp2_with fail
    (with_reducible refine (T6.out _ _ R3.out).mono ?_)
    rintro e w4 ⟨rfl, hr4, hb4⟩
    have B4 : Hid (Below w.heap.size w w4) := Lib.hid (B3.out.trans (hb4 _ (Nat.le_refl _)))
    clear hr4 hb4 T6
    go_wp2
    go_ret3
    exact ⟨by rw [E.out]; rfl, B4.out⟩
  · have hps : (r.extract 0 n).size = n := by rw [ByteArray.size_extract]; omega
    rw [takeE_on (by omega), show tkR r n = r.extract 0 n from by rw [tkR, if_neg hrn]] at T6
    have hC := UC.out hrn
    have hS := US.out hrn
    have UC' := Lib.hid hC
    have US' := Lib.hid hS
    clear UN UC US hC hS
    obtain ⟨p, hp⟩ : ∃ p, r.extract 0 n = p := ⟨_, rfl⟩
    rw [hp] at T6 UC' US' hps
    clear hp
    have C1 := Lib.hid (fun W => crc_any (s.extract 0 4) W (by rw [ByteArray.size_extract]; omega))
    have C2 := Lib.hid (fun x W => on_any x p W (by omega))
    obtain ⟨x, hx⟩ : ∃ x, onC 0 (s.extract 0 4) = x := ⟨_, rfl⟩
    rw [hx] at C1 UC' US'
    clear hx
    obtain ⟨y, hy⟩ : ∃ y, onC x p = y := ⟨_, rfl⟩
    have C2' := Lib.hid (fun W => C2.out x W)
    rw [hy] at C2' UC' US'
    have hy32 := y.toNat_lt
    clear hy C2
    have h4i : (4 : Int) ≤ (s.size : Int) := by omega
    go_wp2_with fail
    (with_reducible refine (T6.out _ _ R3.out).mono ?_)
    rintro e w4 ⟨rfl, hr4, hb4⟩
    have B4 : Hid (Below w.heap.size w w4) := Lib.hid (B3.out.trans (hb4 _ (Nat.le_refl _)))
    clear hr4 hb4 T6
    go_wp2_with fail
    (with_reducible refine (C1.out _).mono ?_)
    rintro e w5 ⟨rfl, hb5⟩
    have B5 : Hid (Below w.heap.size w w5) := Lib.hid (B4.out.trans (hb5.mono B4.out.size))
    clear hb5 C1
    go_wp2_with fail
    (with_reducible refine (C2'.out _).mono ?_)
    rintro e w6 ⟨rfl, hb6⟩
    have B6 : Hid (Below w.heap.size w w6) := Lib.hid (B5.out.trans (hb6.mono B5.out.size))
    clear hb6 C2'
    by_cases hyc : y.toNat = c
    · have E := Lib.hid (unV_some (US'.out hyc))
      have hyi : ((y.toNat : Int) != (c : Int)) = false := by rw [bne_eq_false_iff_eq]; omega
      have h8n : (8 : Int) + (n : Int) ≤ (s.size : Int) := by omega
      have v1 : IntKind.i64.wrap (8 + (n : Int)) = 8 + (n : Int) := by rw [IntKind.wrap_i64]; omega
      have v2 : IntKind.i64.wrap (8 + (p.size : Int)) = 8 + (n : Int) := by rw [hps]; exact v1
      clear hyc
      go_upto_region 9 with fail
      go_quiet (fail)
      go_wp2
      go_ret3
      exact ⟨by rw [E.out]; rfl, below_drewN B6.out _⟩
    · have E := Lib.hid (unV_none (UC'.out hyc))
      have hyi : ((y.toNat : Int) != (c : Int)) = true := by rw [bne_iff_ne]; omega
      clear hyc
      go_wp2
      go_ret3
      exact ⟨by rw [E.out]; rfl, B6.out⟩
end Go.Proofs.Ytpfccicahfncbaa
