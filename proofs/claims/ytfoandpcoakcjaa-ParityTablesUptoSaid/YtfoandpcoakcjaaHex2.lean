/- Walks: wire's Hex, digest's Text. No conditions. -/
import Derived.Test.YtfoandpcoakcjaaHex
import Derived.Deep.DeepCutAuto
namespace Go.Proofs.Ytfoandpcoakcjaa
open Go.RowKit
set_option linter.unusedVariables false
attribute [local go_sem ↓] execOp_ld16 execOp_st16
attribute [local go_sem] run_ld16 run_st16
set_option maxRecDepth 100000 in
set_option maxHeartbeats 0 in
theorem hex_any (s : ByteArray) (w : World) (hs : s.size ≤ 1073741824) (h1s : 1 ≤ s.size) :
    Calls Try.prog 66 #[.string s] w fun e w' => e = .returned (.string (bs (hexL s.data.toList))) ∧ Below w.heap.size w w' := by
  have SL : s.data.toList.length = s.size := size_toList s
  have HSL := Lib.hid SL
  clear SL
  go_enter Try.func66, Try.ntmps66
  go_wp2_with fail
  refine (digits_any _).mono ?_; rintro e w1 ⟨rfl, hb⟩
  obtain ⟨h1, h2, h3, h4⟩ := dig_new w1
  have f1 := dgA_full digF
  have H1 := Lib.hid (And.intro h2 (And.intro h3 hb))
  clear h2 h3 h4 hb
  unfold z16 at h1
  go_upto_region 2 with fail
  change Code.wp _ _ _ _ (put16 (w1.alloc z16) w1.heap.size 0 (dgA digF))
  have R1 : Hid (Below w.heap.size w (put16 (w1.alloc z16) w1.heap.size 0 (dgA digF)) ∧ w.heap.size ≤ w1.heap.size) := Lib.hid ⟨H1.out.2.2.trans (H1.out.2.1.mono H1.out.2.2.size), H1.out.2.2.size⟩
  generalize put16 (w1.alloc z16) w1.heap.size 0 (dgA digF) = w2 at H1 R1 ⊢
  obtain ⟨D, hD⟩ : ∃ D, w1.heap.size = D := ⟨_, rfl⟩
  rw [hD] at H1 R1 ⊢
  clear hD h1 f1
  have hsz : s.size ≤ 1073741824 := hs
  obtain ⟨n2, hn2⟩ : ∃ n2, 2 * s.size = n2 := ⟨_, rfl⟩
  have hn2i : 2 * (s.size : Int) = (n2 : Int) := by omega
  go_wp2_with (first
    | (with_reducible refine make0_wp elemByte rfl _ _ rfl w2.heap.size _ .i64 (n2 : Int) n2 rfl rfl rfl (by omega) (by omega) (Nat.le_refl _) ?_; intro v0 w3 ho3 hg3)
    | (with_reducible refine conv_bytes_wp (e := 5) (by kernel_rfl) (by kernel_rfl) (by kernel_rfl) rfl _ rfl s rfl ?_; intro cap w4 hc4 hg4))
  have I4 : Hid (w4.ownsRow w2.heap.size 5 1 v0 (2 * 0) (u8s (hexL (s.data.toList.take 0))) ∧ bufIs w4 5 w3.heap.size s.size cap (fun j => .int .u8 ((byteAt s j).toNat : Int)) ∧ w4.rowIs D 141 16 (u8V digF) ∧ Below w.heap.size w w4 ∧ D < w2.heap.size ∧ w2.heap.size ≤ w3.heap.size ∧ w2.heap.size ≤ w4.heap.size ∧ v0.ownBlock ≠ some w3.heap.size ∧ w.heap.size ≤ w2.heap.size) := Lib.hid (by
    have d2 := H1.out.1.lt
    have b3 : Below w2.heap.size w2 w3 := ⟨hg3.os, hg3.tape, hg3.output, hg3.size, fun k hk => hg3.block k hk (by simp)⟩
    have b4 : Below w3.heap.size w3 w4 := ⟨hg4.os, hg4.tape, hg4.output, hg4.size, fun k hk => hg4.block k hk (by simp)⟩
    exact ⟨own_below ho3 b4, hc4, (H1.out.1.of_block (b3.block _ d2)).of_block (b4.block _ (Nat.lt_of_lt_of_le d2 b3.size)), R1.out.1.trans ((b3.trans (b4.mono b3.size)).mono R1.out.1.size), d2, b3.size, Nat.le_trans b3.size b4.size, fun e => Nat.lt_irrefl _ (own_lt ho3 _ e), R1.out.1.size⟩)
  clear ho3 hg3 hc4 hg4
  obtain ⟨g, hg⟩ : ∃ g, w3.heap.size = g := ⟨_, rfl⟩
  obtain ⟨base, hbase⟩ : ∃ base, w2.heap.size = base := ⟨_, rfl⟩
  rw [hg, hbase] at I4
  rw [hg]
  clear hg hbase hn2 hn2i H1 R1
  go_loopw [15, 4] (fun i v wr => ∃ k : Nat, k ≤ s.size ∧ i = .int .i64 (k : Int) ∧ Hid (wr.ownsRow base 5 1 v (2 * k) (u8s (hexL (s.data.toList.take k))) ∧ bufIs wr 5 g s.size cap (fun j => .int .u8 ((byteAt s j).toNat : Int)) ∧ wr.rowIs D 141 16 (u8V digF) ∧ Below w.heap.size w wr ∧ D < base ∧ base ≤ g ∧ base ≤ wr.heap.size ∧ v.ownBlock ≠ some g ∧ w.heap.size ≤ base)) (fun i _ _ => s.size - (intOf i).toNat)
  case atStart => exact ⟨0, by omega, rfl, I4⟩
  case round =>
    obtain ⟨k, hk, rfl, HR⟩ := hrel
    by_cases hlt : k < s.size
    · obtain ⟨c, hc⟩ : ∃ c, byteAt s k = c := ⟨_, rfl⟩
      have hn := c.toNat_lt
      obtain ⟨hi, hhi⟩ : ∃ hi, c.toNat / 16 = hi := ⟨_, rfl⟩
      obtain ⟨lo, hlo⟩ : ∃ lo, c.toNat % 16 = lo := ⟨_, rfl⟩
      have q1 : (c.toNat : Int) / 16 = (hi : Int) := by omega
      have q2 : bits .and .u8 (c.toNat : Int) 15 = (lo : Int) := by rw [and15 _ hn, hlo]
      have hi16 : hi < 16 := by omega
      have lo16 : lo < 16 := by omega
      have hi16i : (hi : Int) < 16 := by omega
      have lo16i : (lo : Int) < 16 := by omega
      have w1h : IntKind.u8.wrap (hi : Int) = (hi : Int) := by rw [IntKind.wrap_u8]; omega
      have w2h : IntKind.i64.wrap (hi : Int) = (hi : Int) := IntWalk.i64_in _ (by omega)
      have w1l : IntKind.u8.wrap (lo : Int) = (lo : Int) := by rw [IntKind.wrap_u8]; omega
      have w2l : IntKind.i64.wrap (lo : Int) = (lo : Int) := IntWalk.i64_in _ (by omega)
      have cg : wr.cell? ⟨g, k, none⟩ = some (.int .u8 (c.toNat : Int)) := by rw [← hc]; exact HR.out.2.1.cell hlt
      have d1 : wr.cell? ⟨D, hi, none⟩ = some (.int .u8 ((digF hi).toNat : Int)) := HR.out.2.2.1.cell hi16
      have d2 : wr.cell? ⟨D, lo, none⟩ = some (.int .u8 ((digF lo).toNat : Int)) := HR.out.2.2.1.cell lo16
      have HX : Hid (u8s (hexL (s.data.toList.take (k + 1))) = u8s (hexL (s.data.toList.take k)) ++ [.int .u8 ((digF hi).toNat : Int), .int .u8 ((digF lo).toNat : Int)]) := Lib.hid (by
        have hk' : k < s.data.toList.length := by rw [HSL.out]; exact hlt
        have e : s.data.toList.take (k + 1) = s.data.toList.take k ++ [c] := by
          rw [List.take_add_one, List.getElem?_eq_getElem hk', ← hc]
          unfold byteAt
          rw [List.getD_eq_getElem?_getD, List.getElem?_eq_getElem hk']; rfl
        rw [e, hexL_snoc, hhi, hlo]
        simp [u8s])
      have hb1 : 2 * k ≤ 4611686018427387904 := by omega
      have hb2 : (2 * k + 2) * 1 ≤ 140737488355328 := by omega
      have hle := HR.out.2.2.2.2.2.2.1
      have KD : ∀ W, Below wr.heap.size wr W → W.cell? ⟨D, hi, none⟩ = some (.int .u8 ((digF hi).toNat : Int)) ∧ W.cell? ⟨D, lo, none⟩ = some (.int .u8 ((digF lo).toNat : Int)) := fun W hb => ⟨(hb.cell HR.out.2.2.1.lt).trans d1, (hb.cell HR.out.2.2.1.lt).trans d2⟩
      have KDH := Lib.hid KD
      have KG : Hid (∀ W, wr.grownBy W u4.ownBlock → W.cell? ⟨D, hi, none⟩ = some (.int .u8 ((digF hi).toNat : Int)) ∧ W.cell? ⟨D, lo, none⟩ = some (.int .u8 ((digF lo).toNat : Int))) := Lib.hid (fun W hg => by
        have : some D ≠ u4.ownBlock := fun e => by have := own_ge HR.out.1 _ e.symm; have := HR.out.2.2.2.2.1; omega
        exact ⟨(World.cell?_of_block (w := wr) (a := ⟨D, hi, none⟩) (hg.block _ HR.out.2.2.1.lt this)).trans d1, (World.cell?_of_block (w := wr) (a := ⟨D, lo, none⟩) (hg.block _ HR.out.2.2.1.lt this)).trans d2⟩)
      clear hhi hlo KD hc
      go_wp2
      go_region_held3 (fun w' => w'.cell? ⟨D, hi, none⟩ = some (.int .u8 ((digF hi).toNat : Int)) ∧ w'.cell? ⟨D, lo, none⟩ = some (.int .u8 ((digF lo).toNat : Int)))
        (first | exact ⟨d1, d2⟩ | exact KDH.out _ (((Below.refl _ _).alloc (Nat.le_refl _) _).drew) | exact KDH.out _ (((Below.refl _ _).drew).alloc (Nat.le_refl _) _) | exact KG.out _ hg')
        ((refine step_append2 elemByte (by rfl) _ _ (by rfl) base u4 (2 * k) (u8s (hexL (s.data.toList.take k))) (by rfl) HR.out.1 _ _ (by rfl) (by rfl) (by rfl) hb1 hb2 hle ?_; intro v' w' ho' hg' hd'))
      have HR' : Hid (w'.ownsRow base 5 1 v' (2 * (k + 1)) (u8s (hexL (s.data.toList.take (k + 1)))) ∧ bufIs w' 5 g s.size cap (fun j => .int .u8 ((byteAt s j).toNat : Int)) ∧ w'.rowIs D 141 16 (u8V digF) ∧ Below w.heap.size w w' ∧ D < base ∧ base ≤ g ∧ base ≤ w'.heap.size ∧ v'.ownBlock ≠ some g ∧ w.heap.size ≤ base) := Lib.hid (by
        obtain ⟨r1, r2, r3, r4, r5, r6, r7, r8, r9⟩ := HR.out
        refine ⟨by rw [HX.out, Nat.mul_add]; exact ho', r2.grown hg' (fun e => r8 e.symm), r3.of_block (hg'.block _ r3.lt (fun e => by have := own_ge r1 _ e.symm; omega)), below_grown r4 hg' (fun x hx => by have := own_ge r1 _ hx; omega), r5, r6, Nat.le_trans r7 hg'.size, fun e => ?_, r9⟩
        rcases hd' with hd' | hd'
        · exact r8 (hd'.symm.trans e)
        · rw [hd'] at e
          injection e with e
          have := r2.lt
          omega)
      clear ho' hg' hd'
      go_wp2
      go_roundw
      case rel => exact ⟨k + 1, by omega, by go_num, HR'⟩
      case measure => simp [intOf]; omega
    · obtain rfl : k = s.size := by omega
      have TK : Hid (s.data.toList.take s.size = s.data.toList) := Lib.hid (List.take_of_length_le (by rw [HSL.out]; exact Nat.le_refl _))
      obtain ⟨A, c, rfl, hrd⟩ := own_reads HR.out.1
      obtain ⟨ad, rfl, _, hcell⟩ := reads_u8 hrd (by omega)
      have HC := Lib.hid hcell
      have BL := Lib.hid HR.out.2.2.2.1
      have HLN : Hid ((hexL (s.data.toList.take s.size)).length = 2 * s.size) := Lib.hid (by rw [hexL_len, TK.out, HSL.out])
      have hbz : (bs (hexL (s.data.toList.take s.size))).size ≤ 2147483648 := by rw [bs_size, HLN.out]; omega
      obtain ⟨n, hn⟩ : ∃ n, 2 * s.size = n := ⟨_, rfl⟩
      rw [hn] at HC HLN ⊢
      clear hrd hcell HR hn
      go_wp2_with (with_reducible refine conv_str_wp (e := 5) (by kernel_rfl) (by kernel_rfl) (by kernel_rfl) rfl _ rfl ad n c rfl (hexL (s.data.toList.take s.size)) HLN.out HC.out ?_)
      go_ret
      exact ⟨by rw [TK.out]; rfl, BL.out⟩
/-- A name in digits. -/
def textL (I : Nat → UInt8) : List UInt8 := hexL ((List.range 32).map I)
set_option maxRecDepth 100000 in
theorem text_any (I : Nat → UInt8) (w : World) :
    Calls Try.prog 37 #[.agg (idA I)] w fun e w' => e = .returned (.string (bs (textL I))) ∧ Below w.heap.size w w' := by
  have R1 := Lib.hid (id_row w I 27)
  have ht : Try.prog.underlying 27 = some (.array 32 5) := by kernel_rfl
  have hall : ∀ W, (Instr.sliceAt 27 (.pointer (some ⟨w.heap.size, 0, none⟩)) none none none).run Try.prog W = .ok (.slice (some ⟨w.heap.size, 0, none⟩) 32 32) W := fun W => by
    obtain ⟨i, hi⟩ := Option.isSome_iff_exists.1 (show (Try.prog.info? 5).isSome = true by kernel_rfl)
    exact run_all_array (P := Try.prog) W (t := 27) (n := 32) ht hi _
  have RC : Hid (∀ j, j < 32 → (w.alloc (.cells (idA I) 27)).cell? (({ block := w.heap.size, off := 0 } : Addr).add j) = some (.int .u8 ((((List.range 32).map I).getD j 0).toNat : Int))) := Lib.hid (fun j hj => by
    rw [add0, R1.out.cell hj]; simp [u8V, List.getD, hj])
  have L32 : Hid (((List.range 32).map I).length = 32) := Lib.hid (by simp)
  have BZ := Lib.hid (show (bs ((List.range 32).map I)).size = 32 by rw [bs_size]; simp)
  have TL : Hid (bs (hexL (bs ((List.range 32).map I)).data.toList) = bs (textL I)) := Lib.hid (by rw [bs_data]; rfl)
  have BA : Hid (Below w.heap.size w (w.alloc (.cells (idA I) 27))) := Lib.hid ((Below.refl _ _).alloc (Nat.le_refl _) _)
  clear ht
  go_enter Try.func37, Try.ntmps37
  go_wp2_with (with_reducible refine conv_str_wp (e := 5) (by kernel_rfl) (by kernel_rfl) (by kernel_rfl) rfl _ rfl ⟨w.heap.size, 0, none⟩ 32 32 rfl ((List.range 32).map I) L32.out RC.out ?_)
  trace_state
  refine (hex_any (bs ((List.range 32).map I)) _ (by rw [BZ.out]; decide) (by rw [BZ.out]; decide)).mono ?_; rintro e w' ⟨rfl, hb⟩
  rw [TL.out]
  have B2 := Lib.hid (BA.out.trans (hb.mono BA.out.size))
  clear hb
  go_wp2
  go_ret
  exact ⟨rfl, B2.out⟩
end Go.Proofs.Ytfoandpcoakcjaa
