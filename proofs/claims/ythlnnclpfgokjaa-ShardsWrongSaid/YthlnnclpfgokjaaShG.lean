/- Walk: the reference's Encode: parity shards. -/
import Derived.Test.YthlnnclpfgokjaaShF
import Derived.Test.YthlnnclpfgokjaaRefInv
namespace Go.Proofs.Ythlnnclpfgokjaa
open Go.RowKit Gf
set_option linter.unusedVariables false
theorem buf_reads {w : World} {e : TypeId} {g cap : Nat} {s : ByteArray} (h : bufIs w e g s.size cap (fun j => .int .u8 ((s.data.toList.getD j 0).toNat : Int))) :
    Reads w w.heap.size 1 (some ⟨g, 0, none⟩) s.size (u8s s.data.toList) := by
  refine ⟨by rw [u8s_length, data_length]; omega, fun _ => ⟨_, rfl, h.lt, fun j u hu => ?_⟩⟩
  have hj : j < s.size := by
    rcases Nat.lt_or_ge j s.size with h | h
    · exact h
    · rw [List.getElem?_eq_none (by rw [u8s_length, data_length]; exact h)] at hu; cases hu
  have := u8s_get s.data.toList j (by rw [data_length]; exact hj)
  rw [List.getD_eq_getElem?_getD, hu] at this
  rw [add0, h.cell hj, ← this]; rfl
set_option maxRecDepth 100000 in
theorem rencode_bad (A : Option Addr) (n c : Nat) (ss : List ByteArray) (m : Int) (w : World) (B : Nat) (h : Reads w B 1 A n (strV ss)) (hn : n ≤ 9223372036854775807) (hm1 : -9223372036854775808 ≤ m) (hm2 : m ≤ 9223372036854775807) (hbad : ¬ encOk ss m) :
    Calls Try.prog 46 #[.slice A n c, .int .i64 m] w fun e w' => RetStrs w w' e (encR ss m) := by
  have hl := h.len
  have X := Lib.hid (encR_no hbad)
  have HH := Lib.hid h
  clear h
  by_cases h1 : n < 1
  · clear hbad hl
    go_enter Try.func46, Try.ntmps46
    go_wp2
    go_ret2
    first | exact retNil w 1 _ X.out (Below.refl _ _) | exact retNil w 1 _ X.out (below_drewN (Below.refl _ _) _)
  by_cases h2 : 32 < n
  · clear hbad hl
    go_enter Try.func46, Try.ntmps46
    go_wp2
    go_ret2
    first | exact retNil w 1 _ X.out (Below.refl _ _) | exact retNil w 1 _ X.out (below_drewN (Below.refl _ _) _)
  by_cases ha : alikeB ss = true
  · have HA := Lib.hid ha
    by_cases h3 : m < 0
    · clear hbad hl ha
      go_enter Try.func46, Try.ntmps46
      go_wp2_with fail
      refine (ralike_any A n c ss _ _ HH.out hn).mono ?_; rintro e w' ⟨rfl, q, rfl⟩
      rw [HA.out]
      go_wp2
      go_ret2
      first | exact retNil w 1 _ X.out (Below.refl _ _) | exact retNil w 1 _ X.out (below_drewN (Below.refl _ _) _)
    · have h4 : 64 - (n : Int) < m := by
        apply Classical.byContradiction
        intro h4; exact hbad ⟨by omega, by omega, ha, by omega, by omega⟩
      clear hbad hl ha
      go_enter Try.func46, Try.ntmps46
      go_wp2_with fail
      refine (ralike_any A n c ss _ _ HH.out hn).mono ?_; rintro e w' ⟨rfl, q, rfl⟩
      rw [HA.out]
      go_wp2
      go_ret2
      first | exact retNil w 1 _ X.out (Below.refl _ _) | exact retNil w 1 _ X.out (below_drewN (Below.refl _ _) _)
  · have HA : Hid (alikeB ss = false) := Lib.hid (by simpa using ha)
    clear hbad hl ha
    go_enter Try.func46, Try.ntmps46
    go_wp2_with fail
    refine (ralike_any A n c ss _ _ HH.out hn).mono ?_; rintro e w' ⟨rfl, q, rfl⟩
    rw [HA.out]
    go_wp2
    go_ret2
    first | exact retNil w 1 _ X.out (Below.refl _ _) | exact retNil w 1 _ X.out (below_drewN (Below.refl _ _) _)
set_option maxRecDepth 100000 in
set_option maxHeartbeats 1000000 in
theorem rencode_any (A : Option Addr) (n c : Nat) (ss : List ByteArray) (m : Int) (w : World) (B : Nat) (h : Reads w B 1 A n (strV ss)) (hB : B ≤ w.heap.size) (hn : n ≤ 9223372036854775807) (hm1 : -9223372036854775808 ≤ m) (hm2 : m ≤ 9223372036854775807) (hs : (sAt ss 0).size ≤ 281474976710656) :
    Calls Try.prog 46 #[.slice A n c, .int .i64 m] w fun e w' => RetStrs w w' e (encR ss m) := by
  by_cases hok : ¬ encOk ss m
  · exact rencode_bad A n c ss m w B h hn hm1 hm2 hok
  have hok := Classical.not_not.1 hok
  have X := Lib.hid (encR_yes hok)
  have hl := h.len
  obtain ⟨a1, a2, a3, a4, a5⟩ := hok
  rw [hl] at a1 a2 a5
  have HA := Lib.hid a3
  have HH := Lib.hid h
  have HL := Lib.hid hl
  clear h a3 hl
  obtain ⟨m, rfl⟩ : ∃ k : Nat, m = k := ⟨m.toNat, by omega⟩
  by_cases m0 : m < 1
  · have mz : ((m : Int) == 0) = true := by rw [beq_iff_eq]; omega
    have X0 : Hid (encR ss (m : Int) = ([], 0)) := Lib.hid (by rw [X.out, Int.toNat_natCast]; unfold parL; rw [show m = 0 from by omega]; rfl)
    go_enter Try.func46, Try.ntmps46
    go_wp2_with fail
    refine (ralike_any A n c ss _ _ HH.out hn).mono ?_; rintro e w' ⟨rfl, q, rfl⟩
    rw [HA.out]
    go_wp2
    go_ret2
    exact retNil w 0 _ X0.out (below_drewN (Below.refl _ _) _)
  · have mz : ((m : Int) == 0) = false := by rw [beq_eq_false_iff_ne]; omega
    have XC : Hid (cauR (m : Int) (n : Int) = (mat m n cauF, 0)) := Lib.hid (by unfold cauR; rw [if_pos (by omega)]; rfl)
    have m1 : 1 ≤ m := by omega
    go_enter Try.func46, Try.ntmps46
    go_wp2_with fail
    refine (ralike_any A n c ss _ _ HH.out hn).mono ?_; rintro e w' ⟨rfl, q, rfl⟩
    rw [HA.out]
    go_wp2_with fail
    refine (rcauchy_any _ _ _).mono ?_
    rintro e w1 ⟨v, rfl, ho, hb⟩
    rw [XC.out] at ho ⊢
    rw [show (mat m n cauF, (0 : Int)).1.length = m from mat_length _ _ _] at ho
    obtain ⟨AM, cm, rfl, hrm⟩ := own_reads ho
    obtain ⟨am, hAM, hbm, hcm⟩ := hrm.str (k := 0) (by omega)
    subst hAM
    have HM := Lib.hid hcm
    have HB1 : Hid (Below w.heap.size w w1) := Lib.hid ((below_drewN (Below.refl w.heap.size w) q).trans hb)
    have s1 : w.heap.size ≤ w1.heap.size := HB1.out.size
    clear ho hrm hb hcm
    go_wp2
    go_loopw [8, 9] (fun v i wr => ∃ k : Nat, k ≤ m ∧ i = .int .i64 k ∧ Hid (wr.ownsRow w1.heap.size 9 1 v k (strV ((List.range k).map fun i => sumL (sAt (mat m n cauF) i) ss)) ∧ Below w1.heap.size w1 wr)) (fun _ i _ => m - (intOf i).toNat)
    case atStart => exact ⟨0, by omega, rfl, Lib.hid ⟨World.ownsRow_nil _ _ _ _, Below.refl _ _⟩⟩
    case round =>
      obtain ⟨k, hk, rfl, HK⟩ := hrel
      by_cases hlt : k < m
      · have hck : wr.cell? (am.add k) = some (.string (sAt (mat m n cauF) k)) := (HK.out.2.cell (by rw [block_of_add]; omega)).trans (HM.out k hlt)
        have SZ : Hid (n ≤ (sAt (mat m n cauF) k).size) := Lib.hid (by rw [col_mat m n cauF k hlt]; omega)
        have hle := HK.out.2.size
        have hk1 : k ≤ 4611686018427387904 := by omega
        have hk2 : (k + 1) * 16 ≤ 140737488355328 := by omega
        have HS : Hid (Reads wr B 1 A n (strV ss)) := Lib.hid ((HH.out.below (HB1.out.mono hB)).below (HK.out.2.mono (Nat.le_trans hB s1)))
        obtain ⟨r, hr⟩ : ∃ r, sAt (mat m n cauF) k = r := ⟨_, rfl⟩
        rw [hr] at hck SZ
        have HRW := Lib.hid hr
        clear hr
        go_wp2_with (first
          | (with_reducible refine conv_bytes_wp (e := 5) (by kernel_rfl) (by kernel_rfl) (by kernel_rfl) rfl _ rfl r rfl ?_; intro cap w4 hc4 hg4; have HC4 := Lib.hid (buf_reads hc4); have HB4 := Lib.hid (below_grown (Below.refl _ _) hg4 (by intro _ h; cases h)); have hs4 := hg4.size; clear hc4 hg4)
          | (go_at_call 66; refine (rmade_any _ _ _ _ A n c ss _ B _ HC4.out (Nat.le_refl _) (HS.out.below (HB4.out.mono (by omega))) (by omega) (by omega) (by omega) HA.out hs SZ.out).mono ?_; rintro e w3 ⟨rfl, hb3⟩; rw [bs_of]; have HB3 := Lib.hid (HB4.out.trans (hb3.mono hs4)); have HO3 := Lib.hid (own_below HK.out.1 HB3.out); have hs3 := HB3.out.size; clear hb3)
          | (at_builtin; refine append1_new elemStr rfl _ _ rfl w1.heap.size _ k _ rfl HO3.out _ rfl rfl hk1 hk2 (Nat.le_trans hle hs3) ?_; intro v' w' ho hg))
        have HK' : Hid (w'.ownsRow w1.heap.size 9 1 v' (k + 1) (strV ((List.range (k + 1)).map fun i => sumL (sAt (mat m n cauF) i) ss)) ∧ Below w1.heap.size w1 w') :=
          Lib.hid ⟨by rw [map_succ, HRW.out]; simpa [strV] using ho, below_own (HK.out.2.trans (HB3.out.mono hle)) HO3.out hg⟩
        clear ho hg
        go_roundw
        case rel => exact ⟨k + 1, by omega, by go_num, HK'⟩
        case measure => simp [intOf]; omega
      · obtain rfl : k = m := by omega
        go_wp2
        go_ret2
        exact retStrs_map (by rw [X.out, Int.toNat_natCast]; unfold parL; rw [HL.out]) (own_base HK.out.1 s1) (HB1.out.trans (HK.out.2.mono s1))
end Go.Proofs.Ythlnnclpfgokjaa
