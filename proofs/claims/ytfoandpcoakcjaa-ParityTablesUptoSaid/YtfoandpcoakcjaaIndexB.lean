/- Walks: strings.IndexByte; wire's Unhex of good digits; digest's Parse of a name in digits. No conditions. -/
import Derived.Test.YtfoandpcoakcjaaDig4
import Derived.Test.YtfoandpcoakcjaaHex2
import Derived.Lib.Bytealg
import Derived.BigQuiet
namespace Go.Proofs.Ytfoandpcoakcjaa
open Go.RowKit
set_option linter.unusedVariables false
attribute [local go_sem ↓] execOp_ld32 execOp_st32 execOp_ld16 execOp_st16
attribute [local go_sem] run_ld32 run_st32 run_ld16 run_st16
set_option maxRecDepth 100000 in
theorem sliceIdx_any (s : ByteArray) (c : UInt8) (w : World) :
    Calls Try.prog 112 #[.string s, .int .u8 (c.toNat : Int)] w fun e w' => e = .returned (.int .i64 (Lib.indexByte s.data.toList c)) ∧ w = w' := by
  have hc : ((c.toNat : Int)).toNat.toUInt8 = c := by
    rw [Int.toNat_natCast]; exact UInt8.ofNat_toNat
  go_enter Try.func112, Try.ntmps112
  go_wp2
  rw [run_callFunc_extern Try.func125 (by kernel_rfl) (by kernel_rfl) (by kernel_rfl) (e := Extern.BytealgIndexByte.indexByte) (by kernel_rfl), Lib.run_indexByteString]
  simp only [Result.andThen]
  rw [Oper.upon_value, hc]
  go_wp2
  go_ret
  exact ⟨rfl, rfl⟩
theorem strIdx_any (s : ByteArray) (c : UInt8) (w : World) :
    Calls Try.prog 97 #[.string s, .int .u8 (c.toNat : Int)] w fun e w' => e = .returned (.int .i64 (Lib.indexByte s.data.toList c)) ∧ w = w' := by
  go_enter Try.func97, Try.ntmps97
  go_wp2_with fail
  refine (sliceIdx_any s c _).mono ?_; rintro e w' ⟨rfl, rfl⟩
  go_wp2
  go_ret
  exact ⟨rfl, rfl⟩
def digS : ByteArray := bs ((List.range 16).map digF)
def dvB (c : UInt8) : Int := Lib.indexByte digS.data.toList c
def hv (a b : UInt8) : UInt8 := UInt8.ofNat (16 * (dvB a).toNat + (dvB b).toNat)
theorem dvB_lt : ∀ c : UInt8, dvB c < 16 := by
  have h : ∀ n : Nat, n < 256 → dvB (UInt8.ofNat n) < 16 := by decide +kernel
  intro c
  have := h c.toNat c.toNat_lt
  rwa [UInt8.ofNat_toNat] at this
theorem or4 : ∀ h : Nat, h < 16 → ∀ l : Nat, l < 16 → bits .or .i64 ((h : Int) * 16) (l : Int) = ((16 * h + l : Nat) : Int) := by decide +kernel
theorem dv_dig : ∀ k : Nat, k < 16 → dvB (digF k) = (k : Int) := by decide +kernel
def unL (s : ByteArray) (k : Nat) : List UInt8 := (List.range k).map fun j => hv (byteAt s (2 * j)) (byteAt s (2 * j + 1))
theorem unL_succ (s : ByteArray) (k : Nat) : unL s (k + 1) = unL s k ++ [hv (byteAt s (2 * k)) (byteAt s (2 * k + 1))] := by simp [unL, List.range_succ]
theorem unL_len (s : ByteArray) (k : Nat) : (unL s k).length = k := by simp [unL]
set_option maxRecDepth 100000 in
set_option maxHeartbeats 0 in
theorem unhex64_any (s : ByteArray) (w : World) (hs : s.size = 64) (hok : ∀ j, j < 64 → 0 ≤ dvB (byteAt s j)) :
    Calls Try.prog 65 #[.string s] w fun e w' => e = .returned (.tuple #[.string (bs (unL s 32)), .int .i64 0]) ∧ Below w.heap.size w w' := by
  have HOK := Lib.hid hok
  clear hok
  have ht : Try.prog.underlying 141 = some (.array 16 5) := by kernel_rfl
  have hall : ∀ N W, (Instr.sliceAt 141 (.pointer (some ⟨N, 0, none⟩)) none none none).run Try.prog W = .ok (.slice (some ⟨N, 0, none⟩) 16 16) W := fun N W => by
    obtain ⟨i, hi⟩ := Option.isSome_iff_exists.1 (show (Try.prog.info? 5).isSome = true by kernel_rfl)
    exact run_all_array (P := Try.prog) W (t := 141) (n := 16) ht hi _
  clear ht
  go_enter Try.func65, Try.ntmps65
  go_wp2_with fail
  refine (digits_any _).mono ?_; rintro e w1 ⟨rfl, hb⟩
  obtain ⟨h1, h2, h3, h4⟩ := dig_new w1
  have f1 := dgA_full digF
  have H1 := Lib.hid (And.intro h2 (And.intro h3 hb))
  clear h2 h3 h4 hb
  unfold z16 at h1
  go_upto_region 2 with fail
  change Code.wp _ _ _ _ (put16 (w1.alloc z16) w1.heap.size 0 (dgA digF))
  have R1 : Hid (Below w.heap.size w (put16 (w1.alloc z16) w1.heap.size 0 (dgA digF))) := Lib.hid (H1.out.2.2.trans (H1.out.2.1.mono H1.out.2.2.size))
  generalize put16 (w1.alloc z16) w1.heap.size 0 (dgA digF) = w2 at H1 R1 ⊢
  obtain ⟨D, hD⟩ : ∃ D, w1.heap.size = D := ⟨_, rfl⟩
  rw [hD] at H1 ⊢
  clear hD h1 f1
  have RC : Hid (∀ j, j < 16 → w2.cell? (({ block := D, off := 0 } : Addr).add j) = some (.int .u8 ((((List.range 16).map digF).getD j 0).toNat : Int))) := Lib.hid (fun j hj => by
    rw [add0, H1.out.1.cell hj]; simp [u8V, List.getD, hj])
  have L16 : Hid (((List.range 16).map digF).length = 16) := Lib.hid (by simp)
  obtain ⟨dl, hdl⟩ : ∃ dl, (List.range 16).map digF = dl := ⟨_, rfl⟩
  have DS : bs dl = digS := by rw [← hdl]; rfl
  rw [hdl] at RC L16
  clear hdl
  have a64 : bits .and .i64 64 1 = 0 := by kernel_rfl
  have hsi : (s.size : Int) = 64 := by omega
  go_wp2_with (first
    | (with_reducible refine conv_str_wp (e := 5) (by kernel_rfl) (by kernel_rfl) (by kernel_rfl) rfl _ rfl ⟨D, 0, none⟩ 16 16 rfl dl L16.out RC.out ?_)
    | (with_reducible refine make0_wp elemByte rfl _ _ rfl w2.heap.size _ .i64 (32 : Int) 32 rfl rfl rfl (by omega) (by omega) (Nat.le_refl _) ?_; intro v0 w3 ho3 hg3))
  have I3 : Hid (w3.ownsRow w2.heap.size 5 1 v0 0 (u8s (unL s 0)) ∧ Below w.heap.size w w3 ∧ w.heap.size ≤ w2.heap.size ∧ w2.heap.size ≤ w3.heap.size) := Lib.hid ⟨ho3, below_grown R1.out hg3 (fun g hg => by cases hg), R1.out.size, hg3.size⟩
  clear ho3 hg3 RC L16 H1
  obtain ⟨base, hbase⟩ : ∃ base, w2.heap.size = base := ⟨_, rfl⟩
  rw [hbase] at I3
  clear hbase R1
  try rw [DS]
  clear DS
  generalize hdg : digS = dg at *
  go_loopw [7, 6] (fun i v wr => ∃ k : Nat, k ≤ 32 ∧ i = .int .i64 ((2 * k : Nat) : Int) ∧ Hid (wr.ownsRow base 5 1 v k (u8s (unL s k)) ∧ Below w.heap.size w wr ∧ w.heap.size ≤ base ∧ base ≤ wr.heap.size)) (fun i _ _ => 64 - (intOf i).toNat)
  case atStart => exact ⟨0, by omega, rfl, I3⟩
  case round =>
    obtain ⟨k, hk, rfl, HR⟩ := hrel
    obtain ⟨q, hq⟩ : ∃ q, 2 * k = q := ⟨_, rfl⟩
    rw [hq]
    by_cases hlt : k < 32
    · have hq64 : q + 1 < 64 := by omega
      have hqs : q < s.size := by omega
      have hqs1 : q + 1 < s.size := by omega
      obtain ⟨dd, hh⟩ : ∃ dd : Nat, dvB (byteAt s q) = (dd : Int) := ⟨(dvB (byteAt s q)).toNat, by have := HOK.out q (by omega); omega⟩
      obtain ⟨l, hl⟩ : ∃ l : Nat, dvB (byteAt s (q + 1)) = (l : Int) := ⟨(dvB (byteAt s (q + 1))).toNat, by have := HOK.out (q + 1) (by omega); omega⟩
      have h16 : dd < 16 := by have := dvB_lt (byteAt s q); omega
      have l16 : l < 16 := by have := dvB_lt (byteAt s (q + 1)); omega
      have HV : Hid (unL s (k + 1) = unL s k ++ [UInt8.ofNat (16 * dd + l)]) := Lib.hid (by
        rw [unL_succ, hq]; unfold hv; rw [hh, hl]; rfl)
      have OR := or4 dd h16 l l16
      have C1 : ∀ W, Calls Try.prog 97 #[.string dg, .int .u8 ((byteAt s q).toNat : Int)] W fun e w' => e = .returned (.int .i64 (dd : Int)) ∧ W = w' := fun W => by
        rw [← hh, ← hdg]; exact strIdx_any digS _ W
      have C2 : ∀ W, Calls Try.prog 97 #[.string dg, .int .u8 ((byteAt s (q + 1)).toNat : Int)] W fun e w' => e = .returned (.int .i64 (l : Int)) ∧ W = w' := fun W => by
        rw [← hl, ← hdg]; exact strIdx_any digS _ W
      have g1 : s[q] = byteAt s q := byteAt_get s q hqs
      have g2 : s[q + 1] = byteAt s (q + 1) := byteAt_get s (q + 1) hqs1
      have hqi : (q : Int) < 64 := by omega
      have hq2 : (q : Int) + 2 = ((2 * (k + 1) : Nat) : Int) := by omega
      have hqi1 : (q : Int) + 1 < 64 := by omega
      have HGD := Lib.hid hdg
      clear hdg hh hl
      go_wp2_with fail
      go_quiet (first | exact quiet_left (C1 _) | exact quiet_left (C2 _) | exact quiet_add_left (C1 _) | exact quiet_add_left (C2 _))
      have hh0 : ¬ (dd : Int) < 0 := by omega
      have hl0 : ¬ (l : Int) < 0 := by omega
      have OWN := Lib.hid (own_drewN HR.out.1 nq)
      have hle := HR.out.2.2.2
      have hle' : base ≤ (wr.drewN nq).heap.size := hle
      have hNN : wr.heap.size = (wr.drewN nq).heap.size := rfl
      have hk1 : k ≤ 4611686018427387904 := by omega
      have hk2 : (k + 1) * 1 ≤ 140737488355328 := by omega
      go_wp2_with (with_reducible refine append1_at elemByte rfl _ _ rfl base u6 k (u8s (unL s k)) rfl OWN.out _ wr.heap.size rfl hNN rfl hk1 hk2 hle' ?_; intro v' w' ho' hg')
      have HR' : Hid (w'.ownsRow base 5 1 v' (k + 1) (u8s (unL s (k + 1))) ∧ Below w.heap.size w w' ∧ w.heap.size ≤ base ∧ base ≤ w'.heap.size) := Lib.hid (by
        refine ⟨?_, below_grown (below_drewN HR.out.2.1 nq) hg' (fun g hg => by have := own_ge HR.out.1 _ hg; have := HR.out.2.2.1; omega), HR.out.2.2.1, Nat.le_trans HR.out.2.2.2 hg'.size⟩
        rw [HV.out]
        have e : u8s (unL s k ++ [UInt8.ofNat (16 * dd + l)]) = u8s (unL s k) ++ [.int .u8 (16 * (dd : Int) + (l : Int))] := by
          simp only [u8s, List.map_append, List.map_cons, List.map_nil]
          congr 3
          rw [UInt8.toNat_ofNat']; omega
        rw [e]
        exact ho')
      clear ho' hg'
      go_wp2
      go_roundw
      case rel => exact ⟨k + 1, by omega, by have := hq2; first | (congr 1; omega) | congr 1, HR'⟩
      case measure => simp [intOf]; omega
    · obtain rfl : k = 32 := by omega
      obtain ⟨A, c, rfl, hrd⟩ := own_reads HR.out.1
      obtain ⟨ad, rfl, _, hcell⟩ := reads_u8 hrd (by omega)
      have HC := Lib.hid hcell
      have BL := Lib.hid HR.out.2.1
      have ULN := Lib.hid (unL_len s 32)
      have hqe : (q : Int) = 64 := by omega
      clear hrd hcell
      rw [hqe]
      go_wp2_with (with_reducible refine conv_str_wp (e := 5) (by kernel_rfl) (by kernel_rfl) (by kernel_rfl) rfl _ rfl ad 32 c rfl (unL s 32) ULN.out HC.out ?_)
      go_ret2
      exact ⟨rfl, BL.out⟩
end Go.Proofs.Ytfoandpcoakcjaa
