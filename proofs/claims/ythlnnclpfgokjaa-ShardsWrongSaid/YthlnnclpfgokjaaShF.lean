/- Walks: shards.Encode and the reference's: parity shards. -/
import Derived.Test.YthlnnclpfgokjaaShE
namespace Go.Proofs.Ythlnnclpfgokjaa
open Go.RowKit Gf
set_option linter.unusedVariables false
theorem encR_no {d : List ByteArray} {m : Int} (h : ¬ encOk d m) : encR d m = ([], 1) := by unfold encR; rw [if_neg h]
theorem encR_yes {d : List ByteArray} {m : Int} (h : encOk d m) : encR d m = (parL d m.toNat, 0) := by unfold encR; rw [if_pos h]
theorem retStrs_map {w w' : World} {v : Value} {m : Nat} {f : Nat → ByteArray} {r : List ByteArray × Int} (hr : r = ((List.range m).map f, 0)) (ho : w'.ownsRow w.heap.size 9 1 v m (strV ((List.range m).map f))) (hb : Below w.heap.size w w') :
    RetStrs w w' (.returned (.tuple #[v, .int .i64 0])) r := by
  subst hr
  refine ⟨v, rfl, ?_, hb⟩
  show w'.ownsRow w.heap.size _ 1 v ((List.range m).map f).length _
  rw [List.length_map, List.length_range]; exact ho
theorem map_succ (i : Nat) (f : Nat → ByteArray) : (List.range (i + 1)).map f = (List.range i).map f ++ [f i] := by simp [List.range_succ]
set_option maxRecDepth 100000 in
theorem encode_bad (A : Option Addr) (n c : Nat) (ss : List ByteArray) (m : Int) (w : World) (B : Nat) (h : Reads w B 1 A n (strV ss)) (hn : n ≤ 9223372036854775807) (hm1 : -9223372036854775808 ≤ m) (hm2 : m ≤ 9223372036854775807) (hbad : ¬ encOk ss m) :
    Calls Try.prog 47 #[.slice A n c, .int .i64 m] w fun e w' => RetStrs w w' e (encR ss m) := by
  have hl := h.len
  have X := Lib.hid (encR_no hbad)
  have HH := Lib.hid h
  clear h
  by_cases h1 : n < 1
  · clear hbad hl
    go_enter Try.func47, Try.ntmps47
    go_wp2
    go_ret2
    exact retNil w 1 _ X.out (Below.refl _ _)
  by_cases h2 : 32 < n
  · clear hbad hl
    go_enter Try.func47, Try.ntmps47
    go_wp2
    go_ret2
    exact retNil w 1 _ X.out (Below.refl _ _)
  by_cases ha : alikeB ss = true
  · have HA := Lib.hid ha
    by_cases h3 : m < 0
    · clear hbad hl ha
      go_enter Try.func47, Try.ntmps47
      go_wp2_with fail
      refine (alike_any A n c ss _ _ HH.out hn).mono ?_; rintro e w' ⟨rfl, rfl⟩
      rw [HA.out]
      go_wp2
      go_ret2
      exact retNil w 1 _ X.out (Below.refl _ _)
    · have h4 : 64 - (n : Int) < m := by
        apply Classical.byContradiction
        intro h4; exact hbad ⟨by omega, by omega, ha, by omega, by omega⟩
      clear hbad hl ha
      go_enter Try.func47, Try.ntmps47
      go_wp2_with fail
      refine (alike_any A n c ss _ _ HH.out hn).mono ?_; rintro e w' ⟨rfl, rfl⟩
      rw [HA.out]
      go_wp2
      go_ret2
      exact retNil w 1 _ X.out (Below.refl _ _)
  · have HA : Hid (alikeB ss = false) := Lib.hid (by simpa using ha)
    clear hbad hl ha
    go_enter Try.func47, Try.ntmps47
    go_wp2_with fail
    refine (alike_any A n c ss _ _ HH.out hn).mono ?_; rintro e w' ⟨rfl, rfl⟩
    rw [HA.out]
    go_wp2
    go_ret2
    exact retNil w 1 _ X.out (Below.refl _ _)
set_option maxRecDepth 100000 in
set_option maxHeartbeats 1000000 in
theorem encode_any (A : Option Addr) (n c : Nat) (ss : List ByteArray) (m : Int) (w : World) (B : Nat) (h : Reads w B 1 A n (strV ss)) (hB : B ≤ w.heap.size) (hn : n ≤ 9223372036854775807) (hm1 : -9223372036854775808 ≤ m) (hm2 : m ≤ 9223372036854775807) (hs : (sAt ss 0).size ≤ 281474976710656) :
    Calls Try.prog 47 #[.slice A n c, .int .i64 m] w fun e w' => RetStrs w w' e (encR ss m) := by
  by_cases hok : ¬ encOk ss m
  · exact encode_bad A n c ss m w B h hn hm1 hm2 hok
  have hok := Classical.not_not.1 hok
  have X := Lib.hid (encR_yes hok)
  have hl := h.len
  obtain ⟨a1, a2, a3, a4, a5⟩ := hok
  rw [hl] at a1 a2 a5
  have HA := Lib.hid a3
  have HH := Lib.hid h
  have HL := Lib.hid hl
  clear h a3 hl
  obtain ⟨m, rfl⟩ : ∃ k : Nat, m = k := ⟨m.toNat, by omega⟩
  by_cases m0 : m < 1
  · have mz : ((m : Int) == 0) = true := by rw [beq_iff_eq]; omega
    have X0 : Hid (encR ss (m : Int) = ([], 0)) := Lib.hid (by rw [X.out, Int.toNat_natCast]; unfold parL; rw [show m = 0 from by omega]; rfl)
    go_enter Try.func47, Try.ntmps47
    go_wp2_with fail
    refine (alike_any A n c ss _ _ HH.out hn).mono ?_; rintro e w' ⟨rfl, rfl⟩
    rw [HA.out]
    go_wp2
    go_ret2
    exact retNil w 0 _ X0.out (Below.refl _ _)
  · have mz : ((m : Int) == 0) = false := by rw [beq_eq_false_iff_ne]; omega
    have XC : Hid (cauR (m : Int) (n : Int) = (mat m n cauF, 0)) := Lib.hid (by unfold cauR; rw [if_pos (by omega)]; rfl)
    have m1 : 1 ≤ m := by omega
    go_enter Try.func47, Try.ntmps47
    go_wp2_with fail
    refine (alike_any A n c ss _ _ HH.out hn).mono ?_; rintro e w' ⟨rfl, rfl⟩
    rw [HA.out]
    go_wp2_with fail
    refine (cauchy_any _ _ _).mono ?_
    rintro e w1 ⟨v, rfl, ho, hb⟩
    rw [XC.out] at ho ⊢
    rw [show (mat m n cauF, (0 : Int)).1.length = m from mat_length _ _ _] at ho
    obtain ⟨AM, cm, rfl, hrm⟩ := own_reads ho
    obtain ⟨am, hAM, hbm, hcm⟩ := hrm.str (k := 0) (by omega)
    subst hAM
    have HM := Lib.hid hcm
    have HB1 := Lib.hid hb
    have s1 := hb.size
    clear ho hrm hb hcm
    go_wp2_with (at_make; refine make0_wp elemStr rfl _ _ rfl w1.heap.size _ _ _ m rfl rfl rfl (by omega) (by omega) (Nat.le_refl _) ?_; intro v0 w2 hown0 hg2)
    have HR0 : Hid (w2.ownsRow w1.heap.size 9 1 v0 0 (strV []) ∧ Below w1.heap.size w1 w2) := Lib.hid ⟨hown0, below_grown (Below.refl _ _) hg2 (by intro _ h; cases h)⟩
    clear hown0 hg2
    go_loopw [8, 10, 48] (fun v _ i wr => ∃ k : Nat, k ≤ m ∧ i = .int .i64 k ∧ Hid (wr.ownsRow w1.heap.size 9 1 v k (strV ((List.range k).map fun i => sumL (sAt (mat m n cauF) i) ss)) ∧ Below w1.heap.size w1 wr)) (fun _ _ i _ => m - (intOf i).toNat)
    case atStart => exact ⟨0, by omega, rfl, HR0⟩
    case round =>
      obtain ⟨k, hk, rfl, HK⟩ := hrel
      clear HR0
      by_cases hlt : k < m
      · have hck : wr.cell? (am.add k) = some (.string (sAt (mat m n cauF) k)) := (HK.out.2.cell (by rw [block_of_add]; omega)).trans (HM.out k hlt)
        have SZ : Hid (n ≤ (sAt (mat m n cauF) k).size) := Lib.hid (by rw [col_mat m n cauF k hlt]; omega)
        have hle := HK.out.2.size
        have hk1 : k ≤ 4611686018427387904 := by omega
        have hk2 : (k + 1) * 16 ≤ 140737488355328 := by omega
        have HS : Hid (Reads wr B 1 A n (strV ss)) := Lib.hid ((HH.out.below (HB1.out.mono hB)).below (HK.out.2.mono (Nat.le_trans hB s1)))
        go_wp2_with (first
          | (go_at_call 67; refine (sum_any _ A n c ss _ B HS.out (by omega) (by omega) (by omega) HA.out hs SZ.out).mono ?_; rintro e w3 ⟨rfl, hb3⟩; have HB3 := Lib.hid hb3; have HO3 := Lib.hid (own_below HK.out.1 hb3); have hs3 := hb3.size; clear hb3)
          | (at_builtin; refine append1_new elemStr rfl _ _ rfl w1.heap.size _ k _ rfl HO3.out _ rfl rfl hk1 hk2 (Nat.le_trans hle hs3) ?_; intro v' w' ho hg))
        have HK' : Hid (w'.ownsRow w1.heap.size 9 1 v' (k + 1) (strV ((List.range (k + 1)).map fun i => sumL (sAt (mat m n cauF) i) ss)) ∧ Below w1.heap.size w1 w') :=
          Lib.hid ⟨by rw [map_succ]; simpa [strV] using ho, below_own (HK.out.2.trans (HB3.out.mono hle)) HO3.out hg⟩
        clear ho hg
        go_roundw
        case rel => exact ⟨k + 1, by omega, by go_num, HK'⟩
        case measure => simp [intOf]; omega
      · obtain rfl : k = m := by omega
        go_wp2
        go_ret2
        exact retStrs_map (by rw [X.out, Int.toNat_natCast]; unfold parL; rw [HL.out]) (own_base HK.out.1 s1) (HB1.out.trans (HK.out.2.mono s1))
end Go.Proofs.Ythlnnclpfgokjaa
