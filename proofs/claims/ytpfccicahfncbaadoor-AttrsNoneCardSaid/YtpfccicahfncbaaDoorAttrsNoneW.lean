/- Walk: AttrsNone. No conditions. -/
import Derived.Test.YtpfccicahfncbaaDoorAttNoneP
import Derived.Test.YtpfccicahfncbaaDoorModW
import Derived.Test.YtpfccicahfncbaaDoorBslA
import Derived.Test.YtpfccicahfncbaaDoorStay
namespace Go.Proofs.YtpfccicahfncbaaDoor
open Go.RowKit Wir
set_option linter.unusedVariables false
set_option linter.unusedSimpArgs false
attribute [local go_sem ↓] execOp_bslA
attribute [local go_sem] run_bslA
set_option maxRecDepth 100000 in
set_option maxHeartbeats 0 in
theorem attrsNone_walk (w : World) :
    Calls Tryd.prog 5 #[] w fun e w' => e = .returned (.bool true) ∧ Below w.heap.size w w' := by
  have FV : Hid ((#[.int .u8 1, .int .u32 0, .int .u32 0, .int .u32 0, .int .i64 0, .string ⟨#[]⟩, .slice none 0 0] : Array Value) = attV nnF none 0 0) := Lib.hid rfl
  have H0 : Hid (Stay (fun W => Blk W w.heap.size 27 #[.int .u8 1, .int .u32 0, .int .u32 0, .int .u32 0, .int .i64 0, .string ⟨#[]⟩, .slice none 0 0] ∧ Below w.heap.size w W) (w.alloc (.cells #[.int .u8 1, .int .u32 0, .int .u32 0, .int .u32 0, .int .i64 0, .string ⟨#[]⟩, .slice none 0 0] 27))) := Lib.hid (by
    have hb : Below w.heap.size w (w.alloc (.cells #[.int .u8 1, .int .u32 0, .int .u32 0, .int .u32 0, .int .i64 0, .string ⟨#[]⟩, .slice none 0 0] 27)) := (Below.refl _ _).alloc (Nat.le_refl _) _
    exact fun W' h => ⟨(Blk.new _ _ _).below h (by simp), hb.trans (h.mono hb.size)⟩)
  obtain ⟨pf, hpf⟩ : ∃ pf, w.heap.size = pf := ⟨_, rfl⟩
  have mk3 : ∀ W : World, (Instr.makeSlice 59 (.int .i64 3) (.int .i64 3)).run Tryd.prog W = .ok (.slice (some ⟨W.heap.size, 0, none⟩) 3 3) (W.alloc (.cells #[.int .u8 0, .int .u8 0, .int .u8 0] 5)) := fun W => by
    have h := bytes_made W 3 (by decide)
    rw [show madeCells #[(.int .u8 0 : Value)] 3 = #[.int .u8 0, .int .u8 0, .int .u8 0] from by kernel_rfl] at h
    exact h
  have HPF := Lib.hid hpf
  clear hpf
  go_enter Tryd.func5, Tryd.ntmps5
  go_upto_region 2 with fail
  generalize w.alloc (.cells #[.int .u8 1, .int .u32 0, .int .u32 0, .int .u32 0, .int .i64 0, .string ⟨#[]⟩, .slice none 0 0] 27) = w1 at H0 ⊢
  have C1 := Lib.hid (attChk_any zA1 none 0 0 w1 w1.heap.size Reads.none_ (Nat.le_refl _) ⟨by decide, by decide⟩ (by omega) (by decide) (fun p hp => by cases hp))
  rw [z_chk1] at C1
  go_wp2_with fail
  change Calls _ _ #[.agg (attV zA1 none 0 0)] _ _
  (with_reducible refine C1.out.mono ?_)
  rintro e w2 ⟨rfl, hb⟩
  have H1 := Lib.hid (H0.out.mono hb)
  clear hb C1 H0
  have C1 := Lib.hid (attChk_any zA2 none 0 0 w2 w2.heap.size Reads.none_ (Nat.le_refl _) ⟨by decide, by decide⟩ (by omega) (by decide) (fun p hp => by cases hp))
  rw [z_chk2] at C1
  go_wp2_with fail
  change Calls _ _ #[.agg (attV zA2 none 0 0)] _ _
  (with_reducible refine C1.out.mono ?_)
  rintro e w3 ⟨rfl, hb⟩
  have H2 := Lib.hid (H1.out.mono hb)
  clear hb C1 H1
  have C1 := Lib.hid (attChk_any zA3 none 0 0 w3 w3.heap.size Reads.none_ (Nat.le_refl _) ⟨by decide, by decide⟩ (by omega) (by decide) (fun p hp => by cases hp))
  rw [z_chk3] at C1
  go_wp2_with fail
  change Calls _ _ #[.agg (attV zA3 none 0 0)] _ _
  (with_reducible refine C1.out.mono ?_)
  rintro e w4 ⟨rfl, hb⟩
  have H3 := Lib.hid (H2.out.mono hb)
  clear hb C1 H2
  have C1 := Lib.hid (attChk_any zA4 none 0 0 w4 w4.heap.size Reads.none_ (Nat.le_refl _) ⟨by decide, by decide⟩ (by omega) (by decide) (fun p hp => by cases hp))
  rw [z_chk4] at C1
  go_wp2_with fail
  change Calls _ _ #[.agg (attV zA4 none 0 0)] _ _
  (with_reducible refine C1.out.mono ?_)
  rintro e w5 ⟨rfl, hb⟩
  have H4 := Lib.hid (H3.out.mono hb)
  clear hb C1 H3
  have RC : Hid (∀ j, j < 3 → (w5.alloc (.cells #[.int .u8 0, .int .u8 0, .int .u8 0] 5)).cell? (({ block := w5.heap.size, off := 0 } : Addr).add j) = some (.int .u8 ((([0, 0, 0] : List UInt8).getD j 0).toNat : Int))) := Lib.hid (fun j hj => by
    rw [add0]
    have hb := Blk.new w5 5 #[.int .u8 0, .int .u8 0, .int .u8 0]
    have : j = 0 ∨ j = 1 ∨ j = 2 := by omega
    rcases this with rfl | rfl | rfl
    · exact hb.cell 0
    · exact hb.cell 1
    · exact hb.cell 2)
  have C1 := Lib.hid (attChk_any zA5 none 0 0 (w5.alloc (.cells #[.int .u8 0, .int .u8 0, .int .u8 0] 5)) _ Reads.none_ (Nat.le_refl _) ⟨by decide, by decide⟩ (by omega) (by decide) (fun p hp => by cases hp))
  rw [z_chk5] at C1
  have H5 := Lib.hid (H4.out.mono ((Below.refl _ _).alloc (Nat.le_refl _) (.cells #[.int .u8 0, .int .u8 0, .int .u8 0] 5)))
  go_wp2_with (with_reducible refine conv_str_wp (e := 5) (by kernel_rfl) (by kernel_rfl) (by kernel_rfl) rfl _ rfl ⟨w5.heap.size, 0, none⟩ 3 3 rfl [0, 0, 0] rfl RC.out ?_)
  change Calls _ _ #[.agg (attV zA5 none 0 0)] _ _
  (with_reducible refine C1.out.mono ?_)
  rintro e w6 ⟨rfl, hb⟩
  have H6 := Lib.hid (H5.out.mono hb)
  clear hb C1 H4 H5 RC mk3
  have C1 := Lib.hid (attStrm_any none 0 0 [] w6 w6.heap.size (Reads.none_) (fun q hq => by cases hq) (fun q hq => by cases hq) (Nat.le_refl _) (by omega))
  rw [str_0] at C1
  generalize (strR (([] : List AttM).map (·.a))).1 = st0 at C1
  go_wp2_with fail
  (with_reducible refine C1.out.mono ?_)
  rintro e w7 ⟨rfl, hb⟩
  have H7 := Lib.hid (H6.out.mono hb)
  clear hb C1 H6
  have mk257 : ∀ W : World, (Instr.makeSlice 23 (.int .i64 257) (.int .i64 257)).run Tryd.prog W = .ok (.slice (some ⟨W.heap.size, 0, none⟩) 257 257) (W.alloc (.cells (madeCells #[.int .u8 0, .int .u32 0, .int .u32 0, .int .u32 0, .int .i64 0, .string ⟨#[]⟩, .slice none 0 0] 1799) 27)) := fun W => by
    obtain ⟨i, hi, h1, h2, h3⟩ := elemAt.info
    have := run_make_rowN (P := Tryd.prog) 23 27 i _ (by kernel_rfl) hi h1 .i64 .i64 257 257 (Nat.le_refl _) (by rw [h3]; omega) (by omega) W
    rw [h2] at this
    exact this
  go_upto_region 9 with fail
  clear mk257
  have H8 : Hid (NnI w (w7.alloc (.cells (madeCells #[.int .u8 0, .int .u32 0, .int .u32 0, .int .u32 0, .int .i64 0, .string ⟨#[]⟩, .slice none 0 0] 1799) 27)) pf w7.heap.size 0) := Lib.hid (by
    have hb := (Below.refl w7.heap.size w7).alloc (Nat.le_refl _) (.cells (madeCells #[.int .u8 0, .int .u32 0, .int .u32 0, .int .u32 0, .int .i64 0, .string ⟨#[]⟩, .slice none 0 0] 1799) 27)
    have h := H7.out.mono hb
    rw [HPF.out] at h
    have hl := H7.out.now.1.lt
    have hs := H7.out.now.2.size
    rw [HPF.out] at hl
    exact ⟨h.now.1, (H7.out.mono hb).now.2, NnRow.start w7 _ rfl, hl, hs⟩)
  clear H7
  generalize w7.alloc (.cells (madeCells #[.int .u8 0, .int .u32 0, .int .u32 0, .int .u32 0, .int .i64 0, .string ⟨#[]⟩, .slice none 0 0] 1799) 27) = w8 at H8 ⊢
  generalize w7.heap.size = pg at H8 ⊢
  rw [HPF.out]
  go_wp2_with fail
  go_loopw [10] (fun i wr => ∃ k : Nat, k ≤ 257 ∧ i = .int .i64 k ∧ Hid (NnI w wr pf pg k)) (fun i _ => 257 - (intOf i).toNat)
  case atStart => exact ⟨0, by omega, rfl, H8⟩
  case round =>
    obtain ⟨k, hk, rfl, HK⟩ := hrel
    by_cases hlt : k < 257
    · obtain ⟨x0, x1, x2, x3, x4, x5, x6⟩ := HK.out.fileCells
      obtain ⟨ye, yf⟩ := HK.out.row.cells k hlt
      obtain ⟨z0, y0⟩ := ye 0 (by omega)
      obtain ⟨z1, y1⟩ := ye 1 (by omega)
      obtain ⟨z2, y2⟩ := ye 2 (by omega)
      obtain ⟨z3, y3⟩ := ye 3 (by omega)
      obtain ⟨z4, y4⟩ := ye 4 (by omega)
      obtain ⟨z5, y5⟩ := ye 5 (by omega)
      obtain ⟨z6, y6⟩ := ye 6 (by omega)
      have f0 := yf 0
      have f1 := yf 1
      have f2 := yf 2
      have f3 := yf 3
      have f4 := yf 4
      have f5 := yf 5
      have f6 := yf 6
      rw [Nat.add_zero] at y0 f0
      clear ye yf
      have hki : (k : Int) < 257 := by omega
      have hki0 : (0 : Int) ≤ (k : Int) := by omega
      have HS := Lib.hid (HK.out.step hlt)
      go_wp2
      go_roundw
      case rel => exact ⟨k + 1, by omega, by go_num, HS⟩
      case measure => simp [intOf]; omega
    · obtain rfl : k = 257 := by omega
      have HK : Hid (NnI w wr pf pg 257) := HK
      rw [show ((257 : Nat) : Int) = 257 from rfl]
      have OWN := Lib.hid (HK.out.row.own HK.out.le)
      have ALL : Hid (∀ (W : World) (B : Nat) (q : AttM), q = nnM → Reads W B 2 q.A q.n (xtV q.a.xs)) := Lib.hid (fun W B q hq => by subst hq; exact Reads.none_)
      have SZ : Hid (∀ q : AttM, q = nnM → q.a.sized ∧ q.n ≤ 4611686018427387904) := Lib.hid (fun q hq => by
        subst hq
        exact ⟨⟨⟨by decide, by decide⟩, by decide, fun p hp => by cases hp⟩, by decide⟩)
      have C1 := Lib.hid (attStrm_any (some ⟨pg, 0, none⟩) 257 257 (List.replicate 257 nnM) wr wr.heap.size (Reads.of_own OWN.out) (fun q hq => ALL.out _ _ q (List.eq_of_mem_replicate hq)) (fun q hq => SZ.out q (List.eq_of_mem_replicate hq)) (Nat.le_refl _) (by decide))
      rw [str_257] at C1
      generalize (strR ((List.replicate 257 nnM).map (·.a))).1 = st1 at C1
      go_wp2_with fail
      (with_reducible refine C1.out.mono ?_)
      rintro e w9 ⟨rfl, hb⟩
      have HK9 := Lib.hid (HK.out.mono hb)
      have OWN9 := Lib.hid (HK9.out.row.own HK9.out.le)
      clear hb C1 HK OWN H8
      obtain ⟨x0, x1, x2, x3, x4, x5, x6⟩ := HK9.out.fileCells
      have hk1 : 257 ≤ 4611686018427387904 := by decide
      have hk2 : (257 + 1) * 64 ≤ 140737488355328 := by decide
      have hle := HK9.out.below.size
      have BN : Hid (NnI w (w9.alloc (.cells #[.int .u8 1, .int .u32 0, .int .u32 0, .int .u32 0, .int .i64 0, .string ⟨#[]⟩, .slice none 0 0] 27)) pf pg 257) := Lib.hid (HK9.out.mono ((Below.refl _ _).alloc (Nat.le_refl _) _))
      go_wp2_with (at_builtin; refine appendN_new elemAt rfl _ _ rfl w.heap.size (.slice (some ⟨pg, 0, none⟩) 257 257) 257 _ (by rfl) OWN9.out #[.int .u8 1, .int .u32 0, .int .u32 0, .int .u32 0, .int .i64 0, .string ⟨#[]⟩, .slice none 0 0] rfl (by rfl) (by intro u hu; exact attsV_one [nnM] u (by simpa [attsV, AttM.v, attV, nnM, nnF] using hu)) hk1 hk2 hle ?_; intro v' w10 ho hg hd; clear hd; obtain ⟨A3, c3, rfl, hrd⟩ := own_reads ho; have H10 : Hid (Reads w10 w10.heap.size 7 A3 258 (attsV (List.replicate 257 nnM ++ [nnM])) ∧ Below w.heap.size w w10) := Lib.hid ⟨by rw [attsV_app]; exact hrd, HK9.out.below.grown hg HK9.out.below.size (fun b e => own_ge OWN9.out b e)⟩; clear ho hg hrd)
      have C1 := Lib.hid (attStrm_any A3 258 c3 (List.replicate 257 nnM ++ [nnM]) w10 w10.heap.size H10.out.1 (fun q hq => ALL.out _ _ q (by rcases List.mem_append.1 hq with h | h; exact List.eq_of_mem_replicate h; exact List.mem_singleton.1 h)) (fun q hq => SZ.out q (by rcases List.mem_append.1 hq with h | h; exact List.eq_of_mem_replicate h; exact List.mem_singleton.1 h)) (Nat.le_refl _) (by decide))
      rw [str_258] at C1
      generalize (strR ((List.replicate 257 nnM ++ [nnM]).map (·.a))).1 = st2 at C1
      (with_reducible refine C1.out.mono ?_)
      rintro e w11 ⟨rfl, hb⟩
      have H11 := Lib.hid (H10.out.2.trans (hb.mono H10.out.2.size))
      clear hb C1 H10 BN OWN9 ALL SZ x0 x1 x2 x3 x4 x5 x6 HK9
      have C1 := Lib.hid (attRStr_any ⟨#[]⟩ w11 (by decide))
      rw [rs_no1] at C1
      go_wp2_with fail
      (with_reducible refine C1.out.mono ?_)
      rintro e w12 ⟨v1, M1, rfl, _, _, _, _, hb⟩
      have H12 := Lib.hid (H11.out.trans (hb.mono H11.out.size))
      clear hb C1 H11
      have C1 := Lib.hid (attRStr_any ⟨#[0]⟩ w12 (by decide))
      rw [rs_no2] at C1
      go_wp2_with fail
      (with_reducible refine C1.out.mono ?_)
      rintro e w13 ⟨v2, M2, rfl, _, _, _, _, hb⟩
      have H13 := Lib.hid (H12.out.trans (hb.mono H12.out.size))
      clear hb C1 H12
      have C1 := Lib.hid (modes_any 2 1023 w13)
      rw [show (2 : UInt8).toNat = 2 from rfl, show (1023 : UInt32).toNat = 1023 from rfl, md_1, show ((2 : Nat) : Int) = 2 from rfl, show ((1023 : Nat) : Int) = 1023 from rfl] at C1
      go_wp2_with fail
      (with_reducible refine C1.out.mono ?_)
      rintro e w14 ⟨rfl, hb⟩
      have H14 := Lib.hid (H13.out.trans (hb.mono H13.out.size))
      clear hb C1 H13
      have C1 := Lib.hid (modes_any 4 0 w14)
      rw [show (4 : UInt8).toNat = 4 from rfl, show (0 : UInt32).toNat = 0 from rfl, md_2, show ((4 : Nat) : Int) = 4 from rfl, show ((0 : Nat) : Int) = 0 from rfl] at C1
      go_wp2_with fail
      (with_reducible refine C1.out.mono ?_)
      rintro e w15 ⟨rfl, hb⟩
      have H15 := Lib.hid (H14.out.trans (hb.mono H14.out.size))
      clear hb C1 H14
      go_wp2_with fail
      (with_reducible refine (attAwake_any w15).mono ?_)
      rintro e w16 ⟨rfl, hb⟩
      have H16 := Lib.hid (H15.out.trans (hb.mono H15.out.size))
      clear hb H15
      go_wp2
      go_ret
      exact ⟨rfl, H16.out⟩
end Go.Proofs.YtpfccicahfncbaaDoor
