/- Several texts of the claim joined into one (part 15): plain facts and walks. No conditions but those that each theorem tells. -/
import Derived.Test.YtpfccicahfncbaaDoorMgAttrsOne14
import Derived.Test.YtpfccicahfncbaaDoorRows
import Derived.Test.YtpfccicahfncbaaDoorMgAttrsOne7
import Derived.Lib.LaidU8
import Derived.PinnedBridge
import Derived.MakeChecks
namespace Go.Proofs.YtpfccicahfncbaaDoor
open Go.RowKit Wir
set_option linter.unusedVariables false
set_option linter.unusedSimpArgs false
set_option maxRecDepth 100000 in
set_option maxHeartbeats 0 in
theorem attrsOne_walk (q r : AttM) (s : ByteArray) {w : World} (hT : Tabs w) (hq : q.good w) (hr : r.good w) (hs : s.size ≤ 140737488351232) :
    Calls Tryd.prog 4 #[.agg (attV q.a q.A q.n q.c), .agg (attV r.a r.A r.n r.c), .string s] w fun e w' => e = .returned (.bool true) ∧ Below w.heap.size w w' := by
  have HT := Lib.hid hT
  have HQ := Lib.hid hq
  have HR := Lib.hid hr
  clear hT hq hr
  obtain ⟨a, A, n, c⟩ := q
  obtain ⟨b, A', n', c'⟩ := r
  have hn32 : n * 32 ≤ 140737488351232 := HQ.out.2.2.1
  have hn32' : n' * 32 ≤ 140737488351232 := HR.out.2.2.1
  obtain ⟨pa, hpa⟩ : ∃ pa, w.heap.size = pa := ⟨_, rfl⟩
  obtain ⟨pb, hpb⟩ : ∃ pb, w.heap.size + 1 = pb := ⟨_, rfl⟩
  have H0 : Hid (Stay (fun W => (AtB W 31 pa a A n c ∧ AtB W 31 pb b A' n' c') ∧ Below w.heap.size w W) ((w.alloc (.cells (attV a A n c) 31)).alloc (.cells (attV b A' n' c') 31))) := Lib.hid (by
    have hb1 : Below w.heap.size w (w.alloc (.cells (attV a A n c) 31)) := (Below.refl _ _).alloc (Nat.le_refl _) _
    have x1 := (AtB.new (t := 31) (c := c) HQ.out.1).mono ((Below.refl _ _).alloc (Nat.le_refl _) (.cells (attV b A' n' c') 31))
    have x2 := AtB.new (W := w.alloc (.cells (attV a A n c) 31)) (t := 31) (a := b) (A := A') (n := n') (c := c') (((HR.out.1.below hb1)).more (by simp))
    rw [show (w.alloc (.cells (attV a A n c) 31)).heap.size = w.heap.size + 1 from by simp] at x2
    rw [← hpa, ← hpb]
    exact (x1.stay.and x2.stay).and (Stay.below (hb1.alloc (by simp) _)))
  have HPA := Lib.hid hpa
  have HPB := Lib.hid hpb
  clear hpa hpb
  dsimp only
  go_enter Tryd.func4, Tryd.ntmps4
  go_upto_region 1 with fail
  generalize (w.alloc (.cells (attV a A n c) 31)).alloc (.cells (attV b A' n' c') 31) = w1 at H0 ⊢
  rw [HPB.out, HPA.out]
  obtain ⟨c0, c1, c2, c3, c4, c5, c6⟩ := H0.out.now.1.1.cells
  have C1 := Lib.hid (attOwn_any a A n c w1 _ H0.out.now.1.1.rd (Nat.le_refl _) hn32)
  go_wp2_with fail
  change Calls _ _ #[.agg (attV a A n c)] _ _
  (with_reducible refine C1.out.mono ?_)
  rintro e w1' ⟨gx, cx, rfl, ho, hb⟩
  obtain ⟨mk, hcx⟩ := MarkB.of ho
  have H1 := Lib.hid ((H0.out.mono hb).and mk.stay)
  clear mk ho hb C1 H0 c0 c1 c2 c3 c4 c5 c6
  unfold attV
  go_upto_region 2 with fail
  have H2 : Hid (Stay _ (w1'.alloc (.cells #[.int .u8 (a.nd.toNat : Int), .int .u32 (a.md.toNat : Int), .int .u32 (a.ui.toNat : Int), .int .u32 (a.gi.toNat : Int), .int .i64 a.mt, .string a.tg, .slice (some ⟨gx, 0, none⟩) n cx] 27))) := Lib.hid ((H1.out.mono ((Below.refl _ _).alloc (Nat.le_refl _) _)).and (AtB.new (t := 27) (a := a) (A := some ⟨gx, 0, none⟩) (n := n) (c := cx) H1.out.now.2.rd).stay)
  generalize w1'.alloc (.cells #[.int .u8 (a.nd.toNat : Int), .int .u32 (a.md.toNat : Int), .int .u32 (a.ui.toNat : Int), .int .u32 (a.gi.toNat : Int), .int .i64 a.mt, .string a.tg, .slice (some ⟨gx, 0, none⟩) n cx] 27) = w1n at H2 ⊢
  generalize w1'.heap.size = px at H2 ⊢
  clear H1
  obtain ⟨c0, c1, c2, c3, c4, c5, c6⟩ := H2.out.now.1.1.1.2.cells
  have C1 := Lib.hid (attOwn_any b A' n' c' w1n _ H2.out.now.1.1.1.2.rd (Nat.le_refl _) hn32')
  go_wp2_with fail
  change Calls _ _ #[.agg (attV b A' n' c')] _ _
  (with_reducible refine C1.out.mono ?_)
  rintro e w1n' ⟨gy, cy, rfl, ho, hb⟩
  obtain ⟨mk, hcy⟩ := MarkB.of ho
  have H3 := Lib.hid ((H2.out.mono hb).and mk.stay)
  clear mk ho hb C1 H2 c0 c1 c2 c3 c4 c5 c6
  unfold attV
  go_upto_region 3 with fail
  have H4 : Hid (Stay _ (w1n'.alloc (.cells #[.int .u8 (b.nd.toNat : Int), .int .u32 (b.md.toNat : Int), .int .u32 (b.ui.toNat : Int), .int .u32 (b.gi.toNat : Int), .int .i64 b.mt, .string b.tg, .slice (some ⟨gy, 0, none⟩) n' cy] 27))) := Lib.hid ((H3.out.mono ((Below.refl _ _).alloc (Nat.le_refl _) _)).and (AtB.new (t := 27) (a := b) (A := some ⟨gy, 0, none⟩) (n := n') (c := cy) H3.out.now.2.rd).stay)
  generalize w1n'.alloc (.cells #[.int .u8 (b.nd.toNat : Int), .int .u32 (b.md.toNat : Int), .int .u32 (b.ui.toNat : Int), .int .u32 (b.gi.toNat : Int), .int .i64 b.mt, .string b.tg, .slice (some ⟨gy, 0, none⟩) n' cy] 27) = w1nn at H4 ⊢
  generalize w1n'.heap.size = py at H4 ⊢
  clear H3
  have HA : Hid (Stay (fun W => AtB W 31 pa a A n c ∧ AtB W 31 pb b A' n' c' ∧ AtB W 27 px a (some ⟨gx, 0, none⟩) n cx ∧ AtB W 27 py b (some ⟨gy, 0, none⟩) n' cy ∧ MarkB W gx n a.xs ∧ MarkB W gy n' b.xs ∧ Below w.heap.size w W) w1nn) := Lib.hid (fun W' hb => by
    obtain ⟨⟨⟨⟨⟨⟨x1, x2⟩, x3⟩, x4⟩, x5⟩, x6⟩, x7⟩ := H4.out _ hb
    exact ⟨x1, x2, x5, x7, x4, x6, x3⟩)
  clear H4
  have SA : Hid (a.sized ∧ b.sized) := Lib.hid ⟨HQ.out.2.1, HR.out.2.1⟩
  have hn : n ≤ 4611686018427387904 := by omega
  have hn' : n' ≤ 4611686018427387904 := by omega
  have big : ∀ k : Nat, k ≤ 140737488355328 → k ≤ 4611686018427387904 := fun k h => by omega
  have BIG := Lib.hid big
  clear big
  obtain ⟨c0, c1, c2, c3, c4, c5, c6⟩ := HA.out.now.2.2.1.cells
  have C1 := Lib.hid (attPut_any a (some ⟨gx, 0, none⟩) n cx w1nn _ HA.out.now.2.2.1.rd (Nat.le_refl _) SA.out.1.1 hn (BIG.out _ SA.out.1.2.1) (fun p hp => ⟨BIG.out _ (SA.out.1.2.2 p hp).1, BIG.out _ (SA.out.1.2.2 p hp).2⟩))
  go_wp2_with fail
  change Calls _ _ #[.agg (attV a (some ⟨gx, 0, none⟩) n cx)] _ _
  (with_reducible refine C1.out.mono ?_)
  rintro e w5 ⟨rfl, hb⟩
  have HB := Lib.hid (HA.out.mono hb)
  clear hb C1 HA c0 c1 c2 c3 c4 c5 c6
  obtain ⟨c0, c1, c2, c3, c4, c5, c6⟩ := HB.out.now.1.cells
  have C1 := Lib.hid (rattPut_any a A n c w5 _ HB.out.now.1.rd (Utf8Tabs_below HT.out HB.out.now.2.2.2.2.2.2) (Nat.le_refl _) SA.out.1.1 hn (BIG.out _ SA.out.1.2.1) (fun p hp => ⟨BIG.out _ (SA.out.1.2.2 p hp).1, BIG.out _ (SA.out.1.2.2 p hp).2⟩))
  go_wp2_with fail
  change Calls _ _ #[.agg (attV a A n c)] _ _
  (with_reducible refine C1.out.mono ?_)
  rintro e w6 ⟨rfl, hb⟩
  have HC := Lib.hid (HB.out.mono hb)
  clear hb C1 HB c0 c1 c2 c3 c4 c5 c6
  generalize putR a = t0
  generalize chkA a = e0
  have CK : Hid True := Lib.hid trivial
  have C1 := Lib.hid (attRead_any s w6 (Nat.le_trans hs (by decide)))
  go_wp2_with fail
  (with_reducible refine C1.out.mono ?_)
  rintro e w7 ⟨Av, nv, cv, rfl, ho, hb⟩
  have HD := Lib.hid ((HC.out.mono hb).and (show Stay (fun W => Reads W W.heap.size 2 Av nv (xtV (rdR s).1.xs)) w7 from fun W h => ((Reads.of_own ho).below h).more h.size))
  clear hb ho C1 HC
  have hnv : nv ≤ 16 := by have h1 := HD.out.now.2.xtLen; have h2 := rdR_xlen s; omega
  obtain ⟨d, hd⟩ : ∃ d, (rdR s).1 = d := ⟨_, rfl⟩
  obtain ⟨e1, he1⟩ : ∃ e1, (rdR s).2 = e1 := ⟨_, rfl⟩
  have HDD : Hid ((rdR s).1 = d ∧ (rdR s).2 = e1) := Lib.hid ⟨hd, he1⟩
  rw [hd] at HD ⊢
  rw [he1]
  clear hd he1
  unfold attV
  go_upto_region 6 with fail
  have HE : Hid (Stay _ (w7.alloc (.cells #[.int .u8 (d.nd.toNat : Int), .int .u32 (d.md.toNat : Int), .int .u32 (d.ui.toNat : Int), .int .u32 (d.gi.toNat : Int), .int .i64 d.mt, .string d.tg, .slice Av nv cv] 27))) := Lib.hid ((HD.out.mono ((Below.refl _ _).alloc (Nat.le_refl _) _)).and (AtB.new (t := 27) (a := d) (A := Av) (n := nv) (c := cv) HD.out.now.2).stay)
  generalize w7.alloc (.cells #[.int .u8 (d.nd.toNat : Int), .int .u32 (d.md.toNat : Int), .int .u32 (d.ui.toNat : Int), .int .u32 (d.gi.toNat : Int), .int .i64 d.mt, .string d.tg, .slice Av nv cv] 27) = w8 at HE ⊢
  generalize w7.heap.size = pv at HE ⊢
  clear HD
  have C1 := Lib.hid (rattRead_any s w8 (Utf8Tabs_below HT.out HE.out.now.1.1.2.2.2.2.2.2) (Nat.le_trans hs (by decide)))
  rw [HDD.out.1, HDD.out.2] at C1
  go_wp2_with fail
  (with_reducible refine C1.out.mono ?_)
  rintro e w9 ⟨Aw, nw, cw, rfl, ho, hb⟩
  have HF := Lib.hid ((HE.out.mono hb).and (show Stay (fun W => Reads W W.heap.size 2 Aw nw (xtV d.xs)) w9 from fun W h => ((Reads.of_own ho).below h).more h.size))
  clear hb ho C1 HE
  have hnw : nw ≤ 16 := by have h1 := HF.out.now.2.xtLen; have h2 := rdR_xlen s; rw [HDD.out.1] at h2; omega
  unfold attV
  go_upto_region 7 with fail
  have HG : Hid (Stay _ (w9.alloc (.cells #[.int .u8 (d.nd.toNat : Int), .int .u32 (d.md.toNat : Int), .int .u32 (d.ui.toNat : Int), .int .u32 (d.gi.toNat : Int), .int .i64 d.mt, .string d.tg, .slice Aw nw cw] 31))) := Lib.hid ((HF.out.mono ((Below.refl _ _).alloc (Nat.le_refl _) _)).and (AtB.new (t := 31) (a := d) (A := Aw) (n := nw) (c := cw) HF.out.now.2).stay)
  generalize w9.alloc (.cells #[.int .u8 (d.nd.toNat : Int), .int .u32 (d.md.toNat : Int), .int .u32 (d.ui.toNat : Int), .int .u32 (d.gi.toNat : Int), .int .i64 d.mt, .string d.tg, .slice Aw nw cw] 31) = w10 at HG ⊢
  generalize w9.heap.size = pw at HG ⊢
  clear HF
  have HI : Hid (Stay (fun W => (AtB W 31 pa a A n c ∧ AtB W 31 pb b A' n' c' ∧ AtB W 27 px a (some ⟨gx, 0, none⟩) n cx ∧ AtB W 27 py b (some ⟨gy, 0, none⟩) n' cy ∧ MarkB W gx n a.xs ∧ MarkB W gy n' b.xs ∧ Below w.heap.size w W) ∧ AtB W 27 pv d Av nv cv ∧ AtB W 31 pw d Aw nw cw) w10) := Lib.hid (fun W' hb => by
    obtain ⟨⟨⟨⟨x1, x2⟩, x3⟩, x4⟩, x5⟩ := HG.out _ hb
    exact ⟨x1, x3, x5⟩)
  clear HG
  obtain ⟨c0, c1, c2, c3, c4, c5, c6⟩ := HI.out.now.1.1.cells
  have C1 := Lib.hid (modes_any a.nd a.md w10)
  go_wp2_with fail
  (with_reducible refine C1.out.mono ?_)
  rintro e w11 ⟨rfl, hb⟩
  have HJ := Lib.hid (HI.out.mono hb)
  clear hb C1 HI c0 c1 c2 c3 c4 c5 c6
  obtain ⟨c0, c1, c2, c3, c4, c5, c6⟩ := HJ.out.now.1.1.cells
  have C1 := Lib.hid (rmodes_any a.nd a.md w11)
  go_wp2_with fail
  (with_reducible refine C1.out.mono ?_)
  rintro e w12 ⟨rfl, hb⟩
  have HK := Lib.hid (HJ.out.mono hb)
  clear hb C1 HJ c0 c1 c2 c3 c4 c5 c6
  generalize (mdR a.nd.toNat a.md.toNat).1 = t1
  generalize (mdR a.nd.toNat a.md.toNat).2 = e2
  go_upto_region 9 with fail
  have HK1 := Lib.hid (HK.out.mono (W' := w12.drew) (Below.refl _ _).drew)
  have KS : Hid (∀ W, Below w12.drew.heap.size w12.drew W → (W.cell? ⟨pa, 0, none⟩ = some (.int .u8 (a.nd.toNat : Int)) ∧ W.cell? ⟨pa, 1, none⟩ = some (.int .u32 (a.md.toNat : Int)) ∧ W.cell? ⟨pa, 2, none⟩ = some (.int .u32 (a.ui.toNat : Int)) ∧ W.cell? ⟨pa, 3, none⟩ = some (.int .u32 (a.gi.toNat : Int)) ∧ W.cell? ⟨pa, 4, none⟩ = some (.int .i64 a.mt) ∧ W.cell? ⟨pa, 5, none⟩ = some (.string a.tg) ∧ W.cell? ⟨pa, 6, none⟩ = some (.slice A n c) ∧ W.cell? ⟨pb, 0, none⟩ = some (.int .u8 (b.nd.toNat : Int)) ∧ W.cell? ⟨pb, 1, none⟩ = some (.int .u32 (b.md.toNat : Int)) ∧ W.cell? ⟨pb, 2, none⟩ = some (.int .u32 (b.ui.toNat : Int)) ∧ W.cell? ⟨pb, 3, none⟩ = some (.int .u32 (b.gi.toNat : Int)) ∧ W.cell? ⟨pb, 4, none⟩ = some (.int .i64 b.mt) ∧ W.cell? ⟨pb, 5, none⟩ = some (.string b.tg) ∧ W.cell? ⟨pb, 6, none⟩ = some (.slice A' n' c') ∧ W.cell? ⟨px, 0, none⟩ = some (.int .u8 (a.nd.toNat : Int)) ∧ W.cell? ⟨px, 1, none⟩ = some (.int .u32 (a.md.toNat : Int)) ∧ W.cell? ⟨px, 2, none⟩ = some (.int .u32 (a.ui.toNat : Int)) ∧ W.cell? ⟨px, 3, none⟩ = some (.int .u32 (a.gi.toNat : Int)) ∧ W.cell? ⟨px, 4, none⟩ = some (.int .i64 a.mt) ∧ W.cell? ⟨px, 5, none⟩ = some (.string a.tg) ∧ W.cell? ⟨px, 6, none⟩ = some (.slice (some ⟨gx, 0, none⟩) n cx) ∧ W.cell? ⟨py, 0, none⟩ = some (.int .u8 (b.nd.toNat : Int)) ∧ W.cell? ⟨py, 1, none⟩ = some (.int .u32 (b.md.toNat : Int)) ∧ W.cell? ⟨py, 2, none⟩ = some (.int .u32 (b.ui.toNat : Int)) ∧ W.cell? ⟨py, 3, none⟩ = some (.int .u32 (b.gi.toNat : Int)) ∧ W.cell? ⟨py, 4, none⟩ = some (.int .i64 b.mt) ∧ W.cell? ⟨py, 5, none⟩ = some (.string b.tg) ∧ W.cell? ⟨py, 6, none⟩ = some (.slice (some ⟨gy, 0, none⟩) n' cy) ∧ W.cell? ⟨pv, 0, none⟩ = some (.int .u8 (d.nd.toNat : Int)) ∧ W.cell? ⟨pv, 1, none⟩ = some (.int .u32 (d.md.toNat : Int)) ∧ W.cell? ⟨pv, 2, none⟩ = some (.int .u32 (d.ui.toNat : Int)) ∧ W.cell? ⟨pv, 3, none⟩ = some (.int .u32 (d.gi.toNat : Int)) ∧ W.cell? ⟨pv, 4, none⟩ = some (.int .i64 d.mt) ∧ W.cell? ⟨pv, 5, none⟩ = some (.string d.tg) ∧ W.cell? ⟨pv, 6, none⟩ = some (.slice Av nv cv) ∧ W.cell? ⟨pw, 0, none⟩ = some (.int .u8 (d.nd.toNat : Int)) ∧ W.cell? ⟨pw, 1, none⟩ = some (.int .u32 (d.md.toNat : Int)) ∧ W.cell? ⟨pw, 2, none⟩ = some (.int .u32 (d.ui.toNat : Int)) ∧ W.cell? ⟨pw, 3, none⟩ = some (.int .u32 (d.gi.toNat : Int)) ∧ W.cell? ⟨pw, 4, none⟩ = some (.int .i64 d.mt) ∧ W.cell? ⟨pw, 5, none⟩ = some (.string d.tg) ∧ W.cell? ⟨pw, 6, none⟩ = some (.slice Aw nw cw))) := Lib.hid (fun W hb => by
    have x := HK1.out _ hb
    obtain ⟨y0_0, y0_1, y0_2, y0_3, y0_4, y0_5, y0_6⟩ := x.1.1.cells
    obtain ⟨y1_0, y1_1, y1_2, y1_3, y1_4, y1_5, y1_6⟩ := x.1.2.1.cells
    obtain ⟨y2_0, y2_1, y2_2, y2_3, y2_4, y2_5, y2_6⟩ := x.1.2.2.1.cells
    obtain ⟨y3_0, y3_1, y3_2, y3_3, y3_4, y3_5, y3_6⟩ := x.1.2.2.2.1.cells
    obtain ⟨y4_0, y4_1, y4_2, y4_3, y4_4, y4_5, y4_6⟩ := x.2.1.cells
    obtain ⟨y5_0, y5_1, y5_2, y5_3, y5_4, y5_5, y5_6⟩ := x.2.2.cells
    exact ⟨y0_0, y0_1, y0_2, y0_3, y0_4, y0_5, y0_6, y1_0, y1_1, y1_2, y1_3, y1_4, y1_5, y1_6, y2_0, y2_1, y2_2, y2_3, y2_4, y2_5, y2_6, y3_0, y3_1, y3_2, y3_3, y3_4, y3_5, y3_6, y4_0, y4_1, y4_2, y4_3, y4_4, y4_5, y4_6, y5_0, y5_1, y5_2, y5_3, y5_4, y5_5, y5_6⟩)
  have SA0 := KS.out _ (Below.refl _ _)
  have SS : ∀ x : Att, sameA x x = true := fun x => (sameA_iff x x).2 rfl
  have SSH := Lib.hid SS
  clear SS HK
  have HW0 := HK1
  have HB0 : Hid (Below w12.drew.heap.size w12.drew w12.drew) := Lib.hid (Below.refl _ _)
  refine wp_region_held_drew (S := fun w' => w'.cell? ⟨pa, 0, none⟩ = some (.int .u8 (a.nd.toNat : Int)) ∧ w'.cell? ⟨pa, 1, none⟩ = some (.int .u32 (a.md.toNat : Int)) ∧ w'.cell? ⟨pa, 2, none⟩ = some (.int .u32 (a.ui.toNat : Int)) ∧ w'.cell? ⟨pa, 3, none⟩ = some (.int .u32 (a.gi.toNat : Int)) ∧ w'.cell? ⟨pa, 4, none⟩ = some (.int .i64 a.mt) ∧ w'.cell? ⟨pa, 5, none⟩ = some (.string a.tg) ∧ w'.cell? ⟨pa, 6, none⟩ = some (.slice A n c) ∧ w'.cell? ⟨pb, 0, none⟩ = some (.int .u8 (b.nd.toNat : Int)) ∧ w'.cell? ⟨pb, 1, none⟩ = some (.int .u32 (b.md.toNat : Int)) ∧ w'.cell? ⟨pb, 2, none⟩ = some (.int .u32 (b.ui.toNat : Int)) ∧ w'.cell? ⟨pb, 3, none⟩ = some (.int .u32 (b.gi.toNat : Int)) ∧ w'.cell? ⟨pb, 4, none⟩ = some (.int .i64 b.mt) ∧ w'.cell? ⟨pb, 5, none⟩ = some (.string b.tg) ∧ w'.cell? ⟨pb, 6, none⟩ = some (.slice A' n' c') ∧ w'.cell? ⟨px, 0, none⟩ = some (.int .u8 (a.nd.toNat : Int)) ∧ w'.cell? ⟨px, 1, none⟩ = some (.int .u32 (a.md.toNat : Int)) ∧ w'.cell? ⟨px, 2, none⟩ = some (.int .u32 (a.ui.toNat : Int)) ∧ w'.cell? ⟨px, 3, none⟩ = some (.int .u32 (a.gi.toNat : Int)) ∧ w'.cell? ⟨px, 4, none⟩ = some (.int .i64 a.mt) ∧ w'.cell? ⟨px, 5, none⟩ = some (.string a.tg) ∧ w'.cell? ⟨px, 6, none⟩ = some (.slice (some ⟨gx, 0, none⟩) n cx) ∧ w'.cell? ⟨py, 0, none⟩ = some (.int .u8 (b.nd.toNat : Int)) ∧ w'.cell? ⟨py, 1, none⟩ = some (.int .u32 (b.md.toNat : Int)) ∧ w'.cell? ⟨py, 2, none⟩ = some (.int .u32 (b.ui.toNat : Int)) ∧ w'.cell? ⟨py, 3, none⟩ = some (.int .u32 (b.gi.toNat : Int)) ∧ w'.cell? ⟨py, 4, none⟩ = some (.int .i64 b.mt) ∧ w'.cell? ⟨py, 5, none⟩ = some (.string b.tg) ∧ w'.cell? ⟨py, 6, none⟩ = some (.slice (some ⟨gy, 0, none⟩) n' cy) ∧ w'.cell? ⟨pv, 0, none⟩ = some (.int .u8 (d.nd.toNat : Int)) ∧ w'.cell? ⟨pv, 1, none⟩ = some (.int .u32 (d.md.toNat : Int)) ∧ w'.cell? ⟨pv, 2, none⟩ = some (.int .u32 (d.ui.toNat : Int)) ∧ w'.cell? ⟨pv, 3, none⟩ = some (.int .u32 (d.gi.toNat : Int)) ∧ w'.cell? ⟨pv, 4, none⟩ = some (.int .i64 d.mt) ∧ w'.cell? ⟨pv, 5, none⟩ = some (.string d.tg) ∧ w'.cell? ⟨pv, 6, none⟩ = some (.slice Av nv cv) ∧ w'.cell? ⟨pw, 0, none⟩ = some (.int .u8 (d.nd.toNat : Int)) ∧ w'.cell? ⟨pw, 1, none⟩ = some (.int .u32 (d.md.toNat : Int)) ∧ w'.cell? ⟨pw, 2, none⟩ = some (.int .u32 (d.ui.toNat : Int)) ∧ w'.cell? ⟨pw, 3, none⟩ = some (.int .u32 (d.gi.toNat : Int)) ∧ w'.cell? ⟨pw, 4, none⟩ = some (.int .i64 d.mt) ∧ w'.cell? ⟨pw, 5, none⟩ = some (.string d.tg) ∧ w'.cell? ⟨pw, 6, none⟩ = some (.slice Aw nw cw)) (by kernel_rfl) (by first | exact SA11 | exact SA10 | exact SA9 | exact SA8 | exact SA7 | exact SA6 | exact SA5 | exact SA4 | exact SA3 | exact SA2 | exact SA1 | exact SA0) (fun hHeld => ?_)
  refine wpAnyH_take (i := 0) (oi := { dst := some 61, op := .move (.tmp 9), type := 9, pos := "law.go:50", after := #[], guard := none }) (v := _) rfl (by as_aux_lemma => kernel_rfl) (by as_aux_lemma => kernel_rfl) (by as_aux_lemma => kernel_rfl) (fun _ _ _ h => h) (Or.inl ⟨by kernel_rfl, by (intro w hSw; (try dsimp only at hSw); go_simp; first | done | with_reducible rfl)⟩) (by assumption) ?_
  (try simp only [List.getElem_toArray, List.getElem_cons_succ, List.getElem_cons_zero, Act.put, List.setIfInBounds_toArray, List.set_cons_zero, List.set_cons_succ])
  refine wpAnyH_take (i := 1) (oi := { dst := some 62, op := .move (.tmp 11), type := 9, pos := "law.go:50", after := #[], guard := none }) (v := _) rfl (by as_aux_lemma => kernel_rfl) (by as_aux_lemma => kernel_rfl) (by as_aux_lemma => kernel_rfl) (fun _ _ _ h => h) (Or.inl ⟨by kernel_rfl, by (intro w hSw; (try dsimp only at hSw); go_simp; first | done | with_reducible rfl)⟩) (by assumption) ?_
  (try simp only [List.getElem_toArray, List.getElem_cons_succ, List.getElem_cons_zero, Act.put, List.setIfInBounds_toArray, List.set_cons_zero, List.set_cons_succ])
  refine wpAnyH_take (i := 2) (oi := { dst := some 63, op := .binOp BinOp.eql 9 (.tmp 61) (.tmp 62) 9, type := 4, pos := "law.go:50", after := #[{ on := 0, ground := .data }, { on := 1, ground := .data }], guard := none }) (v := _) rfl (by as_aux_lemma => kernel_rfl) (by as_aux_lemma => kernel_rfl) (by as_aux_lemma => kernel_rfl) (fun _ _ _ h => h) (Or.inl ⟨by kernel_rfl, by (intro w hSw; (try dsimp only at hSw); go_simp; first | done | with_reducible rfl)⟩) (by assumption) ?_
  (try simp only [List.getElem_toArray, List.getElem_cons_succ, List.getElem_cons_zero, Act.put, List.setIfInBounds_toArray, List.set_cons_zero, List.set_cons_succ])
  refine wpAnyH_take (i := 3) (oi := { dst := some 64, op := .move (.tmp 63), type := 4, pos := "law.go:50", after := #[{ on := 2, ground := .data }], guard := none }) (v := _) rfl (by as_aux_lemma => kernel_rfl) (by as_aux_lemma => kernel_rfl) (by as_aux_lemma => kernel_rfl) (fun _ _ _ h => h) (Or.inl ⟨by kernel_rfl, by (intro w hSw; (try dsimp only at hSw); go_simp; first | done | with_reducible rfl)⟩) (by assumption) ?_
  (try simp only [List.getElem_toArray, List.getElem_cons_succ, List.getElem_cons_zero, Act.put, List.setIfInBounds_toArray, List.set_cons_zero, List.set_cons_succ])
  refine wpAnyH_take (i := 4) (oi := { dst := some 65, op := .move (.tmp 10), type := 32, pos := "law.go:50", after := #[{ on := 3, ground := .guard }], guard := some (3, true) }) (v := _) rfl (by as_aux_lemma => kernel_rfl) (by as_aux_lemma => kernel_rfl) (by as_aux_lemma => kernel_rfl) (fun _ _ _ h => h) (Or.inl ⟨by kernel_rfl, by (intro w hSw; (try dsimp only at hSw); go_simp; first | done | with_reducible rfl)⟩) (by assumption) ?_
  (try simp only [List.getElem_toArray, List.getElem_cons_succ, List.getElem_cons_zero, Act.put, List.setIfInBounds_toArray, List.set_cons_zero, List.set_cons_succ])
  refine wpAnyH_take (i := 5) (oi := { dst := some 66, op := .move (.tmp 12), type := 32, pos := "law.go:50", after := #[{ on := 3, ground := .guard }], guard := some (3, true) }) (v := _) rfl (by as_aux_lemma => kernel_rfl) (by as_aux_lemma => kernel_rfl) (by as_aux_lemma => kernel_rfl) (fun _ _ _ h => h) (Or.inl ⟨by kernel_rfl, by (intro w hSw; (try dsimp only at hSw); go_simp; first | done | with_reducible rfl)⟩) (by assumption) ?_
  (try simp only [List.getElem_toArray, List.getElem_cons_succ, List.getElem_cons_zero, Act.put, List.setIfInBounds_toArray, List.set_cons_zero, List.set_cons_succ])
  refine wpAnyH_take (i := 6) (oi := { dst := some 67, op := .binOp BinOp.eql 32 (.tmp 65) (.tmp 66) 32, type := 4, pos := "law.go:50", after := #[{ on := 4, ground := .data }, { on := 5, ground := .data }, { on := 3, ground := .guard }], guard := some (3, true) }) (v := _) rfl (by as_aux_lemma => kernel_rfl) (by as_aux_lemma => kernel_rfl) (by as_aux_lemma => kernel_rfl) (fun _ _ _ h => h) (Or.inl ⟨by kernel_rfl, by (intro w hSw; (try dsimp only at hSw); go_simp; first | done | with_reducible rfl)⟩) (by assumption) ?_
  (try simp only [List.getElem_toArray, List.getElem_cons_succ, List.getElem_cons_zero, Act.put, List.setIfInBounds_toArray, List.set_cons_zero, List.set_cons_succ])
  refine wpAnyH_take (i := 7) (oi := { dst := some 68, op := .pick (.tmp 64) (.tmp 67) (.const (Value.bool false)), type := 4, pos := "law.go:50", after := #[{ on := 3, ground := .data }, { on := 6, ground := .data }], guard := none }) (v := _) rfl (by as_aux_lemma => kernel_rfl) (by as_aux_lemma => kernel_rfl) (by as_aux_lemma => kernel_rfl) (fun _ _ _ h => h) (Or.inl ⟨by kernel_rfl, by (intro w hSw; (try dsimp only at hSw); go_simp; first | done | with_reducible rfl)⟩) (by assumption) ?_
  (try simp only [List.getElem_toArray, List.getElem_cons_succ, List.getElem_cons_zero, Act.put, List.setIfInBounds_toArray, List.set_cons_zero, List.set_cons_succ])
  refine wpAnyH_take (i := 8) (oi := { dst := some 69, op := .move (.tmp 68), type := 4, pos := "law.go:50", after := #[{ on := 7, ground := .data }, { on := 3, ground := .chain }], guard := none }) (v := _) rfl (by as_aux_lemma => kernel_rfl) (by as_aux_lemma => kernel_rfl) (by as_aux_lemma => kernel_rfl) (fun _ _ _ h => h) (Or.inl ⟨by kernel_rfl, by (intro w hSw; (try dsimp only at hSw); go_simp; first | done | with_reducible rfl)⟩) (by assumption) ?_
  (try simp only [List.getElem_toArray, List.getElem_cons_succ, List.getElem_cons_zero, Act.put, List.setIfInBounds_toArray, List.set_cons_zero, List.set_cons_succ])
  refine wpAnyH_take (i := 9) (oi := { dst := some 70, op := .load 27 (.tmp 13), type := 27, pos := "law.go:50", after := #[{ on := 8, ground := .guard }], guard := some (8, true) }) (v := _) rfl (by as_aux_lemma => kernel_rfl) (by as_aux_lemma => kernel_rfl) (by as_aux_lemma => kernel_rfl) (fun _ _ _ h => h) (Or.inl ⟨by kernel_rfl, by (intro w hSw; (try dsimp only at hSw); go_simp; first | done | with_reducible rfl)⟩) (by assumption) ?_
  (try simp only [List.getElem_toArray, List.getElem_cons_succ, List.getElem_cons_zero, Act.put, List.setIfInBounds_toArray, List.set_cons_zero, List.set_cons_succ])
  refine wpAnyH_take (i := 11) (oi := { dst := some 72, op := .load 31 (.tmp 15), type := 31, pos := "law.go:50", after := #[{ on := 8, ground := .guard }], guard := some (8, true) }) (v := _) rfl (by as_aux_lemma => kernel_rfl) (by as_aux_lemma => kernel_rfl) (by as_aux_lemma => kernel_rfl) (fun _ _ _ h => h) (Or.inl ⟨by kernel_rfl, by (intro w hSw; (try dsimp only at hSw); go_simp; first | done | with_reducible rfl)⟩) (by assumption) ?_
  (try simp only [List.getElem_toArray, List.getElem_cons_succ, List.getElem_cons_zero, Act.put, List.setIfInBounds_toArray, List.set_cons_zero, List.set_cons_succ])
  refine wpAnyH_ready (rs := [10]) (by as_aux_lemma => kernel_rfl) (by simp) (AllReadyH.cons rfl (fun K hK => ?_) AllReadyH.nil)
  try simp only [List.getElem_toArray, List.getElem_cons_succ, List.getElem_cons_zero]
  have C1 := Lib.hid (attRef_any d Av nv cv w12.drew _ HW0.out.now.2.1.rd (Nat.le_refl _) (by omega))
  go_simp
  go_at_call 21
  change Calls _ _ #[.agg (attV d Av nv cv)] _ _
  (with_reducible refine C1.out.mono ?_)
  rintro e v1 ⟨Ar, cr, rfl, ho, hb⟩
  have HR1 : Hid (Reads v1 v1.heap.size 2 Ar nv (xtV d.xs)) := Lib.hid (Reads.of_own ho)
  clear ho
  have HW1 := Lib.hid (HW0.out.mono hb)
  have HB1 : Hid (Below w12.drew.heap.size w12.drew v1) := Lib.hid (HB0.out.trans (hb.mono HB0.out.size))
  have SA1 := KS.out _ HB1.out
  clear hb C1
  go_simp
  refine hK.out _ _ (by first | exact SA11 | exact SA10 | exact SA9 | exact SA8 | exact SA7 | exact SA6 | exact SA5 | exact SA4 | exact SA3 | exact SA2 | exact SA1 | exact SA0) (fun hHeld => ?_)
  clear hK K
  (try simp only [List.getElem_toArray, List.getElem_cons_succ, List.getElem_cons_zero, Act.put, List.setIfInBounds_toArray, List.set_cons_zero, List.set_cons_succ])
  refine wpAnyH_ready (rs := [12]) (by as_aux_lemma => kernel_rfl) (by simp) (AllReadyH.cons rfl (fun K hK => ?_) AllReadyH.nil)
  try simp only [List.getElem_toArray, List.getElem_cons_succ, List.getElem_cons_zero]
  have C1 := Lib.hid (rattSame_any d d Ar Aw nv cr nw cw v1 _ HR1.out HW1.out.now.2.2.rd (Nat.le_refl _) (by omega) (by omega))
  rw [SSH.out] at C1
  go_simp
  go_at_call 20
  change Calls _ _ #[.agg (attV d Ar nv cr), .agg (attV d Aw nw cw)] _ _
  (with_reducible refine C1.out.mono ?_)
  rintro e v2 ⟨rfl, hb⟩
  have HW2 := Lib.hid (HW1.out.mono hb)
  have HB2 : Hid (Below w12.drew.heap.size w12.drew v2) := Lib.hid (HB1.out.trans (hb.mono HB1.out.size))
  have SA2 := KS.out _ HB2.out
  clear hb C1
  go_simp
  refine hK.out _ _ (by first | exact SA11 | exact SA10 | exact SA9 | exact SA8 | exact SA7 | exact SA6 | exact SA5 | exact SA4 | exact SA3 | exact SA2 | exact SA1 | exact SA0) (fun hHeld => ?_)
  clear hK K
  (try simp only [List.getElem_toArray, List.getElem_cons_succ, List.getElem_cons_zero, Act.put, List.setIfInBounds_toArray, List.set_cons_zero, List.set_cons_succ])
  refine wpAnyH_take (i := 13) (oi := { dst := some 74, op := .pick (.tmp 69) (.tmp 73) (.const (Value.bool false)), type := 4, pos := "law.go:50", after := #[{ on := 8, ground := .data }, { on := 12, ground := .data }], guard := none }) (v := _) rfl (by as_aux_lemma => kernel_rfl) (by as_aux_lemma => kernel_rfl) (by as_aux_lemma => kernel_rfl) (fun _ _ _ h => h) (Or.inl ⟨by kernel_rfl, by (intro w hSw; (try dsimp only at hSw); go_simp; first | done | with_reducible rfl)⟩) (by assumption) ?_
  (try simp only [List.getElem_toArray, List.getElem_cons_succ, List.getElem_cons_zero, Act.put, List.setIfInBounds_toArray, List.set_cons_zero, List.set_cons_succ])
  as_aux_lemma =>
    refine wpAnyH_take (i := 14) (oi := { dst := some 75, op := .move (.tmp 74), type := 4, pos := "law.go:50", after := #[{ on := 13, ground := .data }, { on := 12, ground := .chain }], guard := none }) (v := _) rfl (by as_aux_lemma => kernel_rfl) (by as_aux_lemma => kernel_rfl) (by as_aux_lemma => kernel_rfl) (fun _ _ _ h => h) (Or.inl ⟨by kernel_rfl, by (intro w hSw; (try dsimp only at hSw); go_simp; first | done | with_reducible rfl)⟩) (by assumption) ?_
    (try simp only [List.getElem_toArray, List.getElem_cons_succ, List.getElem_cons_zero, Act.put, List.setIfInBounds_toArray, List.set_cons_zero, List.set_cons_succ])
    refine wpAnyH_take (i := 15) (oi := { dst := some 76, op := .move (.tmp 14), type := 32, pos := "law.go:50", after := #[{ on := 14, ground := .guard }], guard := some (14, true) }) (v := _) rfl (by as_aux_lemma => kernel_rfl) (by as_aux_lemma => kernel_rfl) (by as_aux_lemma => kernel_rfl) (fun _ _ _ h => h) (Or.inl ⟨by kernel_rfl, by (intro w hSw; (try dsimp only at hSw); go_simp; first | done | with_reducible rfl)⟩) (by assumption) ?_
    (try simp only [List.getElem_toArray, List.getElem_cons_succ, List.getElem_cons_zero, Act.put, List.setIfInBounds_toArray, List.set_cons_zero, List.set_cons_succ])
    refine wpAnyH_take (i := 16) (oi := { dst := some 77, op := .move (.tmp 16), type := 32, pos := "law.go:50", after := #[{ on := 14, ground := .guard }], guard := some (14, true) }) (v := _) rfl (by as_aux_lemma => kernel_rfl) (by as_aux_lemma => kernel_rfl) (by as_aux_lemma => kernel_rfl) (fun _ _ _ h => h) (Or.inl ⟨by kernel_rfl, by (intro w hSw; (try dsimp only at hSw); go_simp; first | done | with_reducible rfl)⟩) (by assumption) ?_
    (try simp only [List.getElem_toArray, List.getElem_cons_succ, List.getElem_cons_zero, Act.put, List.setIfInBounds_toArray, List.set_cons_zero, List.set_cons_succ])
    refine wpAnyH_take (i := 17) (oi := { dst := some 78, op := .binOp BinOp.eql 32 (.tmp 76) (.tmp 77) 32, type := 4, pos := "law.go:50", after := #[{ on := 15, ground := .data }, { on := 16, ground := .data }, { on := 14, ground := .guard }], guard := some (14, true) }) (v := _) rfl (by as_aux_lemma => kernel_rfl) (by as_aux_lemma => kernel_rfl) (by as_aux_lemma => kernel_rfl) (fun _ _ _ h => h) (Or.inl ⟨by kernel_rfl, by (intro w hSw; (try dsimp only at hSw); go_simp; first | done | with_reducible rfl)⟩) (by assumption) ?_
    (try simp only [List.getElem_toArray, List.getElem_cons_succ, List.getElem_cons_zero, Act.put, List.setIfInBounds_toArray, List.set_cons_zero, List.set_cons_succ])
    refine wpAnyH_take (i := 18) (oi := { dst := some 79, op := .pick (.tmp 75) (.tmp 78) (.const (Value.bool false)), type := 4, pos := "law.go:50", after := #[{ on := 14, ground := .data }, { on := 17, ground := .data }], guard := none }) (v := _) rfl (by as_aux_lemma => kernel_rfl) (by as_aux_lemma => kernel_rfl) (by as_aux_lemma => kernel_rfl) (fun _ _ _ h => h) (Or.inl ⟨by kernel_rfl, by (intro w hSw; (try dsimp only at hSw); go_simp; first | done | with_reducible rfl)⟩) (by assumption) ?_
    (try simp only [List.getElem_toArray, List.getElem_cons_succ, List.getElem_cons_zero, Act.put, List.setIfInBounds_toArray, List.set_cons_zero, List.set_cons_succ])
    refine wpAnyH_take (i := 19) (oi := { dst := some 80, op := .move (.tmp 79), type := 4, pos := "law.go:50", after := #[{ on := 18, ground := .data }, { on := 14, ground := .chain }], guard := none }) (v := _) rfl (by as_aux_lemma => kernel_rfl) (by as_aux_lemma => kernel_rfl) (by as_aux_lemma => kernel_rfl) (fun _ _ _ h => h) (Or.inl ⟨by kernel_rfl, by (intro w hSw; (try dsimp only at hSw); go_simp; first | done | with_reducible rfl)⟩) (by assumption) ?_
    (try simp only [List.getElem_toArray, List.getElem_cons_succ, List.getElem_cons_zero, Act.put, List.setIfInBounds_toArray, List.set_cons_zero, List.set_cons_succ])
    refine wpAnyH_take (i := 20) (oi := { dst := some 81, op := .move (.tmp 17), type := 9, pos := "law.go:50", after := #[{ on := 19, ground := .guard }], guard := some (19, true) }) (v := _) rfl (by as_aux_lemma => kernel_rfl) (by as_aux_lemma => kernel_rfl) (by as_aux_lemma => kernel_rfl) (fun _ _ _ h => h) (Or.inl ⟨by kernel_rfl, by (intro w hSw; (try dsimp only at hSw); go_simp; first | done | with_reducible rfl)⟩) (by assumption) ?_
    (try simp only [List.getElem_toArray, List.getElem_cons_succ, List.getElem_cons_zero, Act.put, List.setIfInBounds_toArray, List.set_cons_zero, List.set_cons_succ])
    refine wpAnyH_take (i := 21) (oi := { dst := some 82, op := .move (.tmp 19), type := 9, pos := "law.go:50", after := #[{ on := 19, ground := .guard }], guard := some (19, true) }) (v := _) rfl (by as_aux_lemma => kernel_rfl) (by as_aux_lemma => kernel_rfl) (by as_aux_lemma => kernel_rfl) (fun _ _ _ h => h) (Or.inl ⟨by kernel_rfl, by (intro w hSw; (try dsimp only at hSw); go_simp; first | done | with_reducible rfl)⟩) (by assumption) ?_
    (try simp only [List.getElem_toArray, List.getElem_cons_succ, List.getElem_cons_zero, Act.put, List.setIfInBounds_toArray, List.set_cons_zero, List.set_cons_succ])
    refine wpAnyH_take (i := 22) (oi := { dst := some 83, op := .binOp BinOp.eql 9 (.tmp 81) (.tmp 82) 9, type := 4, pos := "law.go:50", after := #[{ on := 20, ground := .data }, { on := 21, ground := .data }, { on := 19, ground := .guard }], guard := some (19, true) }) (v := _) rfl (by as_aux_lemma => kernel_rfl) (by as_aux_lemma => kernel_rfl) (by as_aux_lemma => kernel_rfl) (fun _ _ _ h => h) (Or.inl ⟨by kernel_rfl, by (intro w hSw; (try dsimp only at hSw); go_simp; first | done | with_reducible rfl)⟩) (by assumption) ?_
    (try simp only [List.getElem_toArray, List.getElem_cons_succ, List.getElem_cons_zero, Act.put, List.setIfInBounds_toArray, List.set_cons_zero, List.set_cons_succ])
    refine wpAnyH_take (i := 23) (oi := { dst := some 84, op := .pick (.tmp 80) (.tmp 83) (.const (Value.bool false)), type := 4, pos := "law.go:50", after := #[{ on := 19, ground := .data }, { on := 22, ground := .data }], guard := none }) (v := _) rfl (by as_aux_lemma => kernel_rfl) (by as_aux_lemma => kernel_rfl) (by as_aux_lemma => kernel_rfl) (fun _ _ _ h => h) (Or.inl ⟨by kernel_rfl, by (intro w hSw; (try dsimp only at hSw); go_simp; first | done | with_reducible rfl)⟩) (by assumption) ?_
    (try simp only [List.getElem_toArray, List.getElem_cons_succ, List.getElem_cons_zero, Act.put, List.setIfInBounds_toArray, List.set_cons_zero, List.set_cons_succ])
    refine wpAnyH_take (i := 24) (oi := { dst := some 85, op := .move (.tmp 84), type := 4, pos := "law.go:50", after := #[{ on := 23, ground := .data }, { on := 19, ground := .chain }], guard := none }) (v := _) rfl (by as_aux_lemma => kernel_rfl) (by as_aux_lemma => kernel_rfl) (by as_aux_lemma => kernel_rfl) (fun _ _ _ h => h) (Or.inl ⟨by kernel_rfl, by (intro w hSw; (try dsimp only at hSw); go_simp; first | done | with_reducible rfl)⟩) (by assumption) ?_
    (try simp only [List.getElem_toArray, List.getElem_cons_succ, List.getElem_cons_zero, Act.put, List.setIfInBounds_toArray, List.set_cons_zero, List.set_cons_succ])
    refine wpAnyH_take (i := 25) (oi := { dst := some 86, op := .move (.tmp 18), type := 32, pos := "law.go:50", after := #[{ on := 24, ground := .guard }], guard := some (24, true) }) (v := _) rfl (by as_aux_lemma => kernel_rfl) (by as_aux_lemma => kernel_rfl) (by as_aux_lemma => kernel_rfl) (fun _ _ _ h => h) (Or.inl ⟨by kernel_rfl, by (intro w hSw; (try dsimp only at hSw); go_simp; first | done | with_reducible rfl)⟩) (by assumption) ?_
    (try simp only [List.getElem_toArray, List.getElem_cons_succ, List.getElem_cons_zero, Act.put, List.setIfInBounds_toArray, List.set_cons_zero, List.set_cons_succ])
    refine wpAnyH_take (i := 26) (oi := { dst := some 87, op := .move (.tmp 20), type := 32, pos := "law.go:50", after := #[{ on := 24, ground := .guard }], guard := some (24, true) }) (v := _) rfl (by as_aux_lemma => kernel_rfl) (by as_aux_lemma => kernel_rfl) (by as_aux_lemma => kernel_rfl) (fun _ _ _ h => h) (Or.inl ⟨by kernel_rfl, by (intro w hSw; (try dsimp only at hSw); go_simp; first | done | with_reducible rfl)⟩) (by assumption) ?_
    (try simp only [List.getElem_toArray, List.getElem_cons_succ, List.getElem_cons_zero, Act.put, List.setIfInBounds_toArray, List.set_cons_zero, List.set_cons_succ])
    refine wpAnyH_take (i := 27) (oi := { dst := some 88, op := .binOp BinOp.eql 32 (.tmp 86) (.tmp 87) 32, type := 4, pos := "law.go:50", after := #[{ on := 25, ground := .data }, { on := 26, ground := .data }, { on := 24, ground := .guard }], guard := some (24, true) }) (v := _) rfl (by as_aux_lemma => kernel_rfl) (by as_aux_lemma => kernel_rfl) (by as_aux_lemma => kernel_rfl) (fun _ _ _ h => h) (Or.inl ⟨by kernel_rfl, by (intro w hSw; (try dsimp only at hSw); go_simp; first | done | with_reducible rfl)⟩) (by assumption) ?_
    (try simp only [List.getElem_toArray, List.getElem_cons_succ, List.getElem_cons_zero, Act.put, List.setIfInBounds_toArray, List.set_cons_zero, List.set_cons_succ])
    as_aux_lemma =>
      refine wpAnyH_take (i := 28) (oi := { dst := some 89, op := .pick (.tmp 85) (.tmp 88) (.const (Value.bool false)), type := 4, pos := "law.go:50", after := #[{ on := 24, ground := .data }, { on := 27, ground := .data }], guard := none }) (v := _) rfl (by as_aux_lemma => kernel_rfl) (by as_aux_lemma => kernel_rfl) (by as_aux_lemma => kernel_rfl) (fun _ _ _ h => h) (Or.inl ⟨by kernel_rfl, by (intro w hSw; (try dsimp only at hSw); go_simp; first | done | with_reducible rfl)⟩) (by assumption) ?_
      (try simp only [List.getElem_toArray, List.getElem_cons_succ, List.getElem_cons_zero, Act.put, List.setIfInBounds_toArray, List.set_cons_zero, List.set_cons_succ])
      refine wpAnyH_take (i := 29) (oi := { dst := some 90, op := .move (.tmp 89), type := 4, pos := "law.go:50", after := #[{ on := 28, ground := .data }, { on := 24, ground := .chain }], guard := none }) (v := _) rfl (by as_aux_lemma => kernel_rfl) (by as_aux_lemma => kernel_rfl) (by as_aux_lemma => kernel_rfl) (fun _ _ _ h => h) (Or.inl ⟨by kernel_rfl, by (intro w hSw; (try dsimp only at hSw); go_simp; first | done | with_reducible rfl)⟩) (by assumption) ?_
      (try simp only [List.getElem_toArray, List.getElem_cons_succ, List.getElem_cons_zero, Act.put, List.setIfInBounds_toArray, List.set_cons_zero, List.set_cons_succ])
      refine wpAnyH_take (i := 30) (oi := { dst := some 91, op := .load 27 (.tmp 7), type := 27, pos := "law.go:50", after := #[{ on := 29, ground := .guard }], guard := some (29, true) }) (v := _) rfl (by as_aux_lemma => kernel_rfl) (by as_aux_lemma => kernel_rfl) (by as_aux_lemma => kernel_rfl) (fun _ _ _ h => h) (Or.inl ⟨by kernel_rfl, by (intro w hSw; (try dsimp only at hSw); go_simp; first | done | with_reducible rfl)⟩) (by assumption) ?_
      (try simp only [List.getElem_toArray, List.getElem_cons_succ, List.getElem_cons_zero, Act.put, List.setIfInBounds_toArray, List.set_cons_zero, List.set_cons_succ])
      refine wpAnyH_take (i := 32) (oi := { dst := some 93, op := .load 31 (.tmp 3), type := 31, pos := "law.go:50", after := #[{ on := 29, ground := .guard }], guard := some (29, true) }) (v := _) rfl (by as_aux_lemma => kernel_rfl) (by as_aux_lemma => kernel_rfl) (by as_aux_lemma => kernel_rfl) (fun _ _ _ h => h) (Or.inl ⟨by kernel_rfl, by (intro w hSw; (try dsimp only at hSw); go_simp; first | done | with_reducible rfl)⟩) (by assumption) ?_
      (try simp only [List.getElem_toArray, List.getElem_cons_succ, List.getElem_cons_zero, Act.put, List.setIfInBounds_toArray, List.set_cons_zero, List.set_cons_succ])
      refine wpAnyH_ready (rs := [31]) (by as_aux_lemma => kernel_rfl) (by simp) (AllReadyH.cons rfl (fun K hK => ?_) AllReadyH.nil)
      try simp only [List.getElem_toArray, List.getElem_cons_succ, List.getElem_cons_zero]
      have C1 := Lib.hid (attChk_any a (some ⟨gx, 0, none⟩) n cx v2 _ HW2.out.now.1.2.2.1.rd (Nat.le_refl _) SA.out.1.1 hn (BIG.out _ SA.out.1.2.1) (fun p hp => ⟨BIG.out _ (SA.out.1.2.2 p hp).1, BIG.out _ (SA.out.1.2.2 p hp).2⟩))
      go_simp
      go_at_call 22
      change Calls _ _ #[.agg (attV a (some ⟨gx, 0, none⟩) n cx)] _ _
      (with_reducible refine C1.out.mono ?_)
      rintro e v3 ⟨rfl, hb⟩
      have HW3 := Lib.hid (HW2.out.mono hb)
      have HB3 : Hid (Below w12.drew.heap.size w12.drew v3) := Lib.hid (HB2.out.trans (hb.mono HB2.out.size))
      have SA3 := KS.out _ HB3.out
      clear hb C1
      go_simp
      refine hK.out _ _ (by first | exact SA11 | exact SA10 | exact SA9 | exact SA8 | exact SA7 | exact SA6 | exact SA5 | exact SA4 | exact SA3 | exact SA2 | exact SA1 | exact SA0) (fun hHeld => ?_)
      clear hK K
      (try simp only [List.getElem_toArray, List.getElem_cons_succ, List.getElem_cons_zero, Act.put, List.setIfInBounds_toArray, List.set_cons_zero, List.set_cons_succ])
      refine wpAnyH_ready (rs := [33]) (by as_aux_lemma => kernel_rfl) (by simp) (AllReadyH.cons rfl (fun K hK => ?_) AllReadyH.nil)
      try simp only [List.getElem_toArray, List.getElem_cons_succ, List.getElem_cons_zero]
      have C1 := Lib.hid (rattChk_any a A n c v3 _ HW3.out.now.1.1.rd (Utf8Tabs_below HT.out HW3.out.now.1.2.2.2.2.2.2) (Nat.le_refl _) SA.out.1.1 hn (BIG.out _ SA.out.1.2.1) (fun p hp => ⟨BIG.out _ (SA.out.1.2.2 p hp).1, BIG.out _ (SA.out.1.2.2 p hp).2⟩))
      go_simp
      go_at_call 23
      change Calls _ _ #[.agg (attV a A n c)] _ _
      (with_reducible refine C1.out.mono ?_)
      rintro e v4 ⟨rfl, hb⟩
      have HW4 := Lib.hid (HW3.out.mono hb)
      have HB4 : Hid (Below w12.drew.heap.size w12.drew v4) := Lib.hid (HB3.out.trans (hb.mono HB3.out.size))
      have SA4 := KS.out _ HB4.out
      clear hb C1
      go_simp
      refine hK.out _ _ (by first | exact SA11 | exact SA10 | exact SA9 | exact SA8 | exact SA7 | exact SA6 | exact SA5 | exact SA4 | exact SA3 | exact SA2 | exact SA1 | exact SA0) (fun hHeld => ?_)
      clear hK K
      (try simp only [List.getElem_toArray, List.getElem_cons_succ, List.getElem_cons_zero, Act.put, List.setIfInBounds_toArray, List.set_cons_zero, List.set_cons_succ])
      refine wpAnyH_take (i := 34) (oi := { dst := some 95, op := .binOp BinOp.eql 32 (.tmp 92) (.tmp 94) 32, type := 4, pos := "law.go:50", after := #[{ on := 31, ground := .data }, { on := 33, ground := .data }, { on := 29, ground := .guard }], guard := some (29, true) }) (v := _) rfl (by as_aux_lemma => kernel_rfl) (by as_aux_lemma => kernel_rfl) (by as_aux_lemma => kernel_rfl) (fun _ _ _ h => h) (Or.inl ⟨by kernel_rfl, by (intro w hSw; (try dsimp only at hSw); go_simp; first | done | with_reducible rfl)⟩) (by assumption) ?_
      (try simp only [List.getElem_toArray, List.getElem_cons_succ, List.getElem_cons_zero, Act.put, List.setIfInBounds_toArray, List.set_cons_zero, List.set_cons_succ])
      refine wpAnyH_take (i := 35) (oi := { dst := some 96, op := .pick (.tmp 90) (.tmp 95) (.const (Value.bool false)), type := 4, pos := "law.go:50", after := #[{ on := 29, ground := .data }, { on := 34, ground := .data }], guard := none }) (v := _) rfl (by as_aux_lemma => kernel_rfl) (by as_aux_lemma => kernel_rfl) (by as_aux_lemma => kernel_rfl) (fun _ _ _ h => h) (Or.inl ⟨by kernel_rfl, by (intro w hSw; (try dsimp only at hSw); go_simp; first | done | with_reducible rfl)⟩) (by assumption) ?_
      (try simp only [List.getElem_toArray, List.getElem_cons_succ, List.getElem_cons_zero, Act.put, List.setIfInBounds_toArray, List.set_cons_zero, List.set_cons_succ])
      refine wpAnyH_take (i := 36) (oi := { dst := some 97, op := .move (.tmp 96), type := 4, pos := "law.go:50", after := #[{ on := 35, ground := .data }, { on := 33, ground := .chain }], guard := none }) (v := _) rfl (by as_aux_lemma => kernel_rfl) (by as_aux_lemma => kernel_rfl) (by as_aux_lemma => kernel_rfl) (fun _ _ _ h => h) (Or.inl ⟨by kernel_rfl, by (intro w hSw; (try dsimp only at hSw); go_simp; first | done | with_reducible rfl)⟩) (by assumption) ?_
      (try simp only [List.getElem_toArray, List.getElem_cons_succ, List.getElem_cons_zero, Act.put, List.setIfInBounds_toArray, List.set_cons_zero, List.set_cons_succ])
      refine wpAnyH_take (i := 37) (oi := { dst := some 98, op := .load 27 (.tmp 7), type := 27, pos := "law.go:50", after := #[{ on := 36, ground := .guard }], guard := some (36, true) }) (v := _) rfl (by as_aux_lemma => kernel_rfl) (by as_aux_lemma => kernel_rfl) (by as_aux_lemma => kernel_rfl) (fun _ _ _ h => h) (Or.inl ⟨by kernel_rfl, by (intro w hSw; (try dsimp only at hSw); go_simp; first | done | with_reducible rfl)⟩) (by assumption) ?_
      (try simp only [List.getElem_toArray, List.getElem_cons_succ, List.getElem_cons_zero, Act.put, List.setIfInBounds_toArray, List.set_cons_zero, List.set_cons_succ])
      refine wpAnyH_take (i := 38) (oi := { dst := some 99, op := .load 27 (.tmp 8), type := 27, pos := "law.go:50", after := #[{ on := 36, ground := .guard }], guard := some (36, true) }) (v := _) rfl (by as_aux_lemma => kernel_rfl) (by as_aux_lemma => kernel_rfl) (by as_aux_lemma => kernel_rfl) (fun _ _ _ h => h) (Or.inl ⟨by kernel_rfl, by (intro w hSw; (try dsimp only at hSw); go_simp; first | done | with_reducible rfl)⟩) (by assumption) ?_
      (try simp only [List.getElem_toArray, List.getElem_cons_succ, List.getElem_cons_zero, Act.put, List.setIfInBounds_toArray, List.set_cons_zero, List.set_cons_succ])
      refine wpAnyH_take (i := 40) (oi := { dst := some 101, op := .load 31 (.tmp 3), type := 31, pos := "law.go:50", after := #[{ on := 36, ground := .guard }], guard := some (36, true) }) (v := _) rfl (by as_aux_lemma => kernel_rfl) (by as_aux_lemma => kernel_rfl) (by as_aux_lemma => kernel_rfl) (fun _ _ _ h => h) (Or.inl ⟨by kernel_rfl, by (intro w hSw; (try dsimp only at hSw); go_simp; first | done | with_reducible rfl)⟩) (by assumption) ?_
      (try simp only [List.getElem_toArray, List.getElem_cons_succ, List.getElem_cons_zero, Act.put, List.setIfInBounds_toArray, List.set_cons_zero, List.set_cons_succ])
      refine wpAnyH_take (i := 41) (oi := { dst := some 102, op := .load 31 (.tmp 4), type := 31, pos := "law.go:50", after := #[{ on := 36, ground := .guard }], guard := some (36, true) }) (v := _) rfl (by as_aux_lemma => kernel_rfl) (by as_aux_lemma => kernel_rfl) (by as_aux_lemma => kernel_rfl) (fun _ _ _ h => h) (Or.inl ⟨by kernel_rfl, by (intro w hSw; (try dsimp only at hSw); go_simp; first | done | with_reducible rfl)⟩) (by assumption) ?_
      (try simp only [List.getElem_toArray, List.getElem_cons_succ, List.getElem_cons_zero, Act.put, List.setIfInBounds_toArray, List.set_cons_zero, List.set_cons_succ])
      refine wpAnyH_ready (rs := [39]) (by as_aux_lemma => kernel_rfl) (by simp) (AllReadyH.cons rfl (fun K hK => ?_) AllReadyH.nil)
      try simp only [List.getElem_toArray, List.getElem_cons_succ, List.getElem_cons_zero]
      have C1 := Lib.hid (attSame_any a b (some ⟨gx, 0, none⟩) (some ⟨gy, 0, none⟩) n cx n' cy v4 _ HW4.out.now.1.2.2.1.rd HW4.out.now.1.2.2.2.1.rd (Nat.le_refl _) hn hn')
      go_simp
      go_at_call 24
      change Calls _ _ #[.agg (attV a (some ⟨gx, 0, none⟩) n cx), .agg (attV b (some ⟨gy, 0, none⟩) n' cy)] _ _
      (with_reducible refine C1.out.mono ?_)
      rintro e v5 ⟨rfl, hb⟩
      have HW5 := Lib.hid (HW4.out.mono hb)
      have HB5 : Hid (Below w12.drew.heap.size w12.drew v5) := Lib.hid (HB4.out.trans (hb.mono HB4.out.size))
      have SA5 := KS.out _ HB5.out
      clear hb C1
      go_simp
      refine hK.out _ _ (by first | exact SA11 | exact SA10 | exact SA9 | exact SA8 | exact SA7 | exact SA6 | exact SA5 | exact SA4 | exact SA3 | exact SA2 | exact SA1 | exact SA0) (fun hHeld => ?_)
      clear hK K
      (try simp only [List.getElem_toArray, List.getElem_cons_succ, List.getElem_cons_zero, Act.put, List.setIfInBounds_toArray, List.set_cons_zero, List.set_cons_succ])
      as_aux_lemma =>
        refine wpAnyH_ready (rs := [42]) (by as_aux_lemma => kernel_rfl) (by simp) (AllReadyH.cons rfl (fun K hK => ?_) AllReadyH.nil)
        try simp only [List.getElem_toArray, List.getElem_cons_succ, List.getElem_cons_zero]
        have C1 := Lib.hid (rattSame_any a b A A' n c n' c' v5 _ HW5.out.now.1.1.rd HW5.out.now.1.2.1.rd (Nat.le_refl _) hn hn')
        go_simp
        go_at_call 20
        change Calls _ _ #[.agg (attV a A n c), .agg (attV b A' n' c')] _ _
        (with_reducible refine C1.out.mono ?_)
        rintro e v6 ⟨rfl, hb⟩
        have HW6 := Lib.hid (HW5.out.mono hb)
        have HB6 : Hid (Below w12.drew.heap.size w12.drew v6) := Lib.hid (HB5.out.trans (hb.mono HB5.out.size))
        have SA6 := KS.out _ HB6.out
        clear hb C1
        go_simp
        refine hK.out _ _ (by first | exact SA11 | exact SA10 | exact SA9 | exact SA8 | exact SA7 | exact SA6 | exact SA5 | exact SA4 | exact SA3 | exact SA2 | exact SA1 | exact SA0) (fun hHeld => ?_)
        clear hK K
        (try simp only [List.getElem_toArray, List.getElem_cons_succ, List.getElem_cons_zero, Act.put, List.setIfInBounds_toArray, List.set_cons_zero, List.set_cons_succ])
        refine wpAnyH_take (i := 43) (oi := { dst := some 104, op := .binOp BinOp.eql 4 (.tmp 100) (.tmp 103) 4, type := 4, pos := "law.go:50", after := #[{ on := 39, ground := .data }, { on := 42, ground := .data }, { on := 36, ground := .guard }], guard := some (36, true) }) (v := _) rfl (by as_aux_lemma => kernel_rfl) (by as_aux_lemma => kernel_rfl) (by as_aux_lemma => kernel_rfl) (fun _ _ _ h => h) (Or.inl ⟨by kernel_rfl, by (intro w hSw; (try dsimp only at hSw); go_simp; first | done | with_reducible rfl)⟩) (by assumption) ?_
        (try simp only [List.getElem_toArray, List.getElem_cons_succ, List.getElem_cons_zero, Act.put, List.setIfInBounds_toArray, List.set_cons_zero, List.set_cons_succ])
        refine wpAnyH_take (i := 44) (oi := { dst := some 105, op := .pick (.tmp 97) (.tmp 104) (.const (Value.bool false)), type := 4, pos := "law.go:50", after := #[{ on := 36, ground := .data }, { on := 43, ground := .data }], guard := none }) (v := _) rfl (by as_aux_lemma => kernel_rfl) (by as_aux_lemma => kernel_rfl) (by as_aux_lemma => kernel_rfl) (fun _ _ _ h => h) (Or.inl ⟨by kernel_rfl, by (intro w hSw; (try dsimp only at hSw); go_simp; first | done | with_reducible rfl)⟩) (by assumption) ?_
        (try simp only [List.getElem_toArray, List.getElem_cons_succ, List.getElem_cons_zero, Act.put, List.setIfInBounds_toArray, List.set_cons_zero, List.set_cons_succ])
        refine wpAnyH_take (i := 45) (oi := { dst := some 106, op := .move (.tmp 105), type := 4, pos := "law.go:50", after := #[{ on := 44, ground := .data }, { on := 42, ground := .chain }], guard := none }) (v := _) rfl (by as_aux_lemma => kernel_rfl) (by as_aux_lemma => kernel_rfl) (by as_aux_lemma => kernel_rfl) (fun _ _ _ h => h) (Or.inl ⟨by kernel_rfl, by (intro w hSw; (try dsimp only at hSw); go_simp; first | done | with_reducible rfl)⟩) (by assumption) ?_
        (try simp only [List.getElem_toArray, List.getElem_cons_succ, List.getElem_cons_zero, Act.put, List.setIfInBounds_toArray, List.set_cons_zero, List.set_cons_succ])
        refine wpAnyH_take (i := 46) (oi := { dst := some 107, op := .load 27 (.tmp 7), type := 27, pos := "law.go:50", after := #[{ on := 45, ground := .guard }], guard := some (45, true) }) (v := _) rfl (by as_aux_lemma => kernel_rfl) (by as_aux_lemma => kernel_rfl) (by as_aux_lemma => kernel_rfl) (fun _ _ _ h => h) (Or.inl ⟨by kernel_rfl, by (intro w hSw; (try dsimp only at hSw); go_simp; first | done | with_reducible rfl)⟩) (by assumption) ?_
        (try simp only [List.getElem_toArray, List.getElem_cons_succ, List.getElem_cons_zero, Act.put, List.setIfInBounds_toArray, List.set_cons_zero, List.set_cons_succ])
        refine wpAnyH_take (i := 47) (oi := { dst := some 108, op := .load 31 (.tmp 3), type := 31, pos := "law.go:50", after := #[{ on := 45, ground := .guard }], guard := some (45, true) }) (v := _) rfl (by as_aux_lemma => kernel_rfl) (by as_aux_lemma => kernel_rfl) (by as_aux_lemma => kernel_rfl) (fun _ _ _ h => h) (Or.inl ⟨by kernel_rfl, by (intro w hSw; (try dsimp only at hSw); go_simp; first | done | with_reducible rfl)⟩) (by assumption) ?_
        (try simp only [List.getElem_toArray, List.getElem_cons_succ, List.getElem_cons_zero, Act.put, List.setIfInBounds_toArray, List.set_cons_zero, List.set_cons_succ])
        refine wpAnyH_ready (rs := [48]) (by as_aux_lemma => kernel_rfl) (by simp) (AllReadyH.cons rfl (fun K hK => ?_) AllReadyH.nil)
        try simp only [List.getElem_toArray, List.getElem_cons_succ, List.getElem_cons_zero]
        have C1 := Lib.hid (attOwn_any a A n c v6 _ HW6.out.now.1.1.rd (Nat.le_refl _) hn32)
        go_simp
        go_at_call 6
        change Calls _ _ #[.agg (attV a A n c)] _ _
        (with_reducible refine C1.out.mono ?_)
        rintro e v7 ⟨g2, cap2, rfl, ho, hb⟩
        have HR2 : Hid (Reads v7 v7.heap.size 2 (some ⟨g2, 0, none⟩) n (xtV a.xs)) := Lib.hid (MarkB.of ho).1.rd
        clear ho
        have HW7 := Lib.hid (HW6.out.mono hb)
        have HB7 : Hid (Below w12.drew.heap.size w12.drew v7) := Lib.hid (HB6.out.trans (hb.mono HB6.out.size))
        have SA7 := KS.out _ HB7.out
        clear hb C1
        go_simp
        refine hK.out _ _ (by first | exact SA11 | exact SA10 | exact SA9 | exact SA8 | exact SA7 | exact SA6 | exact SA5 | exact SA4 | exact SA3 | exact SA2 | exact SA1 | exact SA0) (fun hHeld => ?_)
        clear hK K
        (try simp only [List.getElem_toArray, List.getElem_cons_succ, List.getElem_cons_zero, Act.put, List.setIfInBounds_toArray, List.set_cons_zero, List.set_cons_succ])
        refine wpAnyH_ready (rs := [49]) (by as_aux_lemma => kernel_rfl) (by simp) (AllReadyH.cons rfl (fun K hK => ?_) AllReadyH.nil)
        try simp only [List.getElem_toArray, List.getElem_cons_succ, List.getElem_cons_zero]
        have C1 := Lib.hid (attSame_any a a (some ⟨gx, 0, none⟩) (some ⟨g2, 0, none⟩) n cx n cap2 v7 _ HW7.out.now.1.2.2.1.rd HR2.out (Nat.le_refl _) hn hn)
        rw [SSH.out] at C1
        go_simp
        go_at_call 24
        change Calls _ _ #[.agg (attV a (some ⟨gx, 0, none⟩) n cx), .agg (attV a (some ⟨g2, 0, none⟩) n cap2)] _ _
        (with_reducible refine C1.out.mono ?_)
        rintro e v8 ⟨rfl, hb⟩
        have HW8 := Lib.hid (HW7.out.mono hb)
        have HB8 : Hid (Below w12.drew.heap.size w12.drew v8) := Lib.hid (HB7.out.trans (hb.mono HB7.out.size))
        have SA8 := KS.out _ HB8.out
        clear hb C1
        go_simp
        refine hK.out _ _ (by first | exact SA11 | exact SA10 | exact SA9 | exact SA8 | exact SA7 | exact SA6 | exact SA5 | exact SA4 | exact SA3 | exact SA2 | exact SA1 | exact SA0) (fun hHeld => ?_)
        clear hK K
        (try simp only [List.getElem_toArray, List.getElem_cons_succ, List.getElem_cons_zero, Act.put, List.setIfInBounds_toArray, List.set_cons_zero, List.set_cons_succ])
        refine wpAnyH_take (i := 50) (oi := { dst := some 111, op := .pick (.tmp 106) (.tmp 110) (.const (Value.bool false)), type := 4, pos := "law.go:50", after := #[{ on := 45, ground := .data }, { on := 49, ground := .data }], guard := none }) (v := _) rfl (by as_aux_lemma => kernel_rfl) (by as_aux_lemma => kernel_rfl) (by as_aux_lemma => kernel_rfl) (fun _ _ _ h => h) (Or.inl ⟨by kernel_rfl, by (intro w hSw; (try dsimp only at hSw); go_simp; first | done | with_reducible rfl)⟩) (by assumption) ?_
        (try simp only [List.getElem_toArray, List.getElem_cons_succ, List.getElem_cons_zero, Act.put, List.setIfInBounds_toArray, List.set_cons_zero, List.set_cons_succ])
        refine wpAnyH_take (i := 51) (oi := { dst := some 112, op := .move (.tmp 111), type := 4, pos := "law.go:50", after := #[{ on := 50, ground := .data }, { on := 49, ground := .chain }], guard := none }) (v := _) rfl (by as_aux_lemma => kernel_rfl) (by as_aux_lemma => kernel_rfl) (by as_aux_lemma => kernel_rfl) (fun _ _ _ h => h) (Or.inl ⟨by kernel_rfl, by (intro w hSw; (try dsimp only at hSw); go_simp; first | done | with_reducible rfl)⟩) (by assumption) ?_
        (try simp only [List.getElem_toArray, List.getElem_cons_succ, List.getElem_cons_zero, Act.put, List.setIfInBounds_toArray, List.set_cons_zero, List.set_cons_succ])
        refine wpAnyH_take (i := 52) (oi := { dst := some 113, op := .load 27 (.tmp 7), type := 27, pos := "law.go:50", after := #[{ on := 51, ground := .guard }], guard := some (51, true) }) (v := _) rfl (by as_aux_lemma => kernel_rfl) (by as_aux_lemma => kernel_rfl) (by as_aux_lemma => kernel_rfl) (fun _ _ _ h => h) (Or.inl ⟨by kernel_rfl, by (intro w hSw; (try dsimp only at hSw); go_simp; first | done | with_reducible rfl)⟩) (by assumption) ?_
        (try simp only [List.getElem_toArray, List.getElem_cons_succ, List.getElem_cons_zero, Act.put, List.setIfInBounds_toArray, List.set_cons_zero, List.set_cons_succ])
        refine wpAnyH_take (i := 53) (oi := { dst := some 114, op := .load 31 (.tmp 3), type := 31, pos := "law.go:50", after := #[{ on := 51, ground := .guard }], guard := some (51, true) }) (v := _) rfl (by as_aux_lemma => kernel_rfl) (by as_aux_lemma => kernel_rfl) (by as_aux_lemma => kernel_rfl) (fun _ _ _ h => h) (Or.inl ⟨by kernel_rfl, by (intro w hSw; (try dsimp only at hSw); go_simp; first | done | with_reducible rfl)⟩) (by assumption) ?_
        (try simp only [List.getElem_toArray, List.getElem_cons_succ, List.getElem_cons_zero, Act.put, List.setIfInBounds_toArray, List.set_cons_zero, List.set_cons_succ])
        refine wpAnyH_ready (rs := [54]) (by as_aux_lemma => kernel_rfl) (by simp) (AllReadyH.cons rfl (fun K hK => ?_) AllReadyH.nil)
        try simp only [List.getElem_toArray, List.getElem_cons_succ, List.getElem_cons_zero]
        have C1 := Lib.hid (attKept_any a A n c gx cx v8 _ HW8.out.now.1.1.rd HW8.out.now.1.2.2.2.2.1 (Nat.le_refl _) hn32 hcx)
        go_simp
        go_at_call 12
        change Calls _ _ #[.agg (attV a (some ⟨gx, 0, none⟩) n cx), .agg (attV a A n c)] _ _
        (with_reducible refine C1.out.mono ?_)
        rintro e v9 ⟨rfl, hb⟩
        have HW9 := Lib.hid (HW8.out.mono hb)
        have HB9 : Hid (Below w12.drew.heap.size w12.drew v9) := Lib.hid (HB8.out.trans (hb.mono HB8.out.size))
        have SA9 := KS.out _ HB9.out
        clear hb C1
        go_simp
        refine hK.out _ _ (by first | exact SA11 | exact SA10 | exact SA9 | exact SA8 | exact SA7 | exact SA6 | exact SA5 | exact SA4 | exact SA3 | exact SA2 | exact SA1 | exact SA0) (fun hHeld => ?_)
        clear hK K
        (try simp only [List.getElem_toArray, List.getElem_cons_succ, List.getElem_cons_zero, Act.put, List.setIfInBounds_toArray, List.set_cons_zero, List.set_cons_succ])
        refine wpAnyH_take (i := 55) (oi := { dst := some 116, op := .pick (.tmp 112) (.tmp 115) (.const (Value.bool false)), type := 4, pos := "law.go:50", after := #[{ on := 51, ground := .data }, { on := 54, ground := .data }], guard := none }) (v := _) rfl (by as_aux_lemma => kernel_rfl) (by as_aux_lemma => kernel_rfl) (by as_aux_lemma => kernel_rfl) (fun _ _ _ h => h) (Or.inl ⟨by kernel_rfl, by (intro w hSw; (try dsimp only at hSw); go_simp; first | done | with_reducible rfl)⟩) (by assumption) ?_
        (try simp only [List.getElem_toArray, List.getElem_cons_succ, List.getElem_cons_zero, Act.put, List.setIfInBounds_toArray, List.set_cons_zero, List.set_cons_succ])
        as_aux_lemma =>
          refine wpAnyH_take (i := 56) (oi := { dst := some 117, op := .move (.tmp 116), type := 4, pos := "law.go:50", after := #[{ on := 55, ground := .data }, { on := 54, ground := .chain }], guard := none }) (v := _) rfl (by as_aux_lemma => kernel_rfl) (by as_aux_lemma => kernel_rfl) (by as_aux_lemma => kernel_rfl) (fun _ _ _ h => h) (Or.inl ⟨by kernel_rfl, by (intro w hSw; (try dsimp only at hSw); go_simp; first | done | with_reducible rfl)⟩) (by assumption) ?_
          (try simp only [List.getElem_toArray, List.getElem_cons_succ, List.getElem_cons_zero, Act.put, List.setIfInBounds_toArray, List.set_cons_zero, List.set_cons_succ])
          refine wpAnyH_take (i := 57) (oi := { dst := some 118, op := .load 27 (.tmp 8), type := 27, pos := "law.go:50", after := #[{ on := 56, ground := .guard }], guard := some (56, true) }) (v := _) rfl (by as_aux_lemma => kernel_rfl) (by as_aux_lemma => kernel_rfl) (by as_aux_lemma => kernel_rfl) (fun _ _ _ h => h) (Or.inl ⟨by kernel_rfl, by (intro w hSw; (try dsimp only at hSw); go_simp; first | done | with_reducible rfl)⟩) (by assumption) ?_
          (try simp only [List.getElem_toArray, List.getElem_cons_succ, List.getElem_cons_zero, Act.put, List.setIfInBounds_toArray, List.set_cons_zero, List.set_cons_succ])
          refine wpAnyH_take (i := 58) (oi := { dst := some 119, op := .load 31 (.tmp 4), type := 31, pos := "law.go:50", after := #[{ on := 56, ground := .guard }], guard := some (56, true) }) (v := _) rfl (by as_aux_lemma => kernel_rfl) (by as_aux_lemma => kernel_rfl) (by as_aux_lemma => kernel_rfl) (fun _ _ _ h => h) (Or.inl ⟨by kernel_rfl, by (intro w hSw; (try dsimp only at hSw); go_simp; first | done | with_reducible rfl)⟩) (by assumption) ?_
          (try simp only [List.getElem_toArray, List.getElem_cons_succ, List.getElem_cons_zero, Act.put, List.setIfInBounds_toArray, List.set_cons_zero, List.set_cons_succ])
          refine wpAnyH_ready (rs := [59]) (by as_aux_lemma => kernel_rfl) (by simp) (AllReadyH.cons rfl (fun K hK => ?_) AllReadyH.nil)
          try simp only [List.getElem_toArray, List.getElem_cons_succ, List.getElem_cons_zero]
          have C1 := Lib.hid (attKept_any b A' n' c' gy cy v9 _ HW9.out.now.1.2.1.rd HW9.out.now.1.2.2.2.2.2.1 (Nat.le_refl _) hn32' hcy)
          go_simp
          go_at_call 12
          change Calls _ _ #[.agg (attV b (some ⟨gy, 0, none⟩) n' cy), .agg (attV b A' n' c')] _ _
          (with_reducible refine C1.out.mono ?_)
          rintro e v10 ⟨rfl, hb⟩
          have HW10 := Lib.hid (HW9.out.mono hb)
          have HB10 : Hid (Below w12.drew.heap.size w12.drew v10) := Lib.hid (HB9.out.trans (hb.mono HB9.out.size))
          have SA10 := KS.out _ HB10.out
          clear hb C1
          go_simp
          refine hK.out _ _ (by first | exact SA11 | exact SA10 | exact SA9 | exact SA8 | exact SA7 | exact SA6 | exact SA5 | exact SA4 | exact SA3 | exact SA2 | exact SA1 | exact SA0) (fun hHeld => ?_)
          clear hK K
          (try simp only [List.getElem_toArray, List.getElem_cons_succ, List.getElem_cons_zero, Act.put, List.setIfInBounds_toArray, List.set_cons_zero, List.set_cons_succ])
          refine wpAnyH_take (i := 60) (oi := { dst := some 121, op := .pick (.tmp 117) (.tmp 120) (.const (Value.bool false)), type := 4, pos := "law.go:50", after := #[{ on := 56, ground := .data }, { on := 59, ground := .data }], guard := none }) (v := _) rfl (by as_aux_lemma => kernel_rfl) (by as_aux_lemma => kernel_rfl) (by as_aux_lemma => kernel_rfl) (fun _ _ _ h => h) (Or.inl ⟨by kernel_rfl, by (intro w hSw; (try dsimp only at hSw); go_simp; first | done | with_reducible rfl)⟩) (by assumption) ?_
          (try simp only [List.getElem_toArray, List.getElem_cons_succ, List.getElem_cons_zero, Act.put, List.setIfInBounds_toArray, List.set_cons_zero, List.set_cons_succ])
          refine wpAnyH_take (i := 61) (oi := { dst := some 122, op := .move (.tmp 121), type := 4, pos := "law.go:50", after := #[{ on := 60, ground := .data }, { on := 59, ground := .chain }], guard := none }) (v := _) rfl (by as_aux_lemma => kernel_rfl) (by as_aux_lemma => kernel_rfl) (by as_aux_lemma => kernel_rfl) (fun _ _ _ h => h) (Or.inl ⟨by kernel_rfl, by (intro w hSw; (try dsimp only at hSw); go_simp; first | done | with_reducible rfl)⟩) (by assumption) ?_
          (try simp only [List.getElem_toArray, List.getElem_cons_succ, List.getElem_cons_zero, Act.put, List.setIfInBounds_toArray, List.set_cons_zero, List.set_cons_succ])
          refine wpAnyH_ready (rs := [62]) (by as_aux_lemma => kernel_rfl) (by simp) (AllReadyH.cons rfl (fun K hK => ?_) AllReadyH.nil)
          try simp only [List.getElem_toArray, List.getElem_cons_succ, List.getElem_cons_zero]
          have C1 := Lib.hid (attAwake_any v10)
          go_simp
          go_at_call 13
          (with_reducible refine C1.out.mono ?_)
          rintro e v11 ⟨rfl, hb⟩
          have HW11 := Lib.hid (HW10.out.mono hb)
          have HB11 : Hid (Below w12.drew.heap.size w12.drew v11) := Lib.hid (HB10.out.trans (hb.mono HB10.out.size))
          have SA11 := KS.out _ HB11.out
          clear hb C1
          go_simp
          refine hK.out _ _ (by first | exact SA11 | exact SA10 | exact SA9 | exact SA8 | exact SA7 | exact SA6 | exact SA5 | exact SA4 | exact SA3 | exact SA2 | exact SA1 | exact SA0) (fun hHeld => ?_)
          clear hK K
          (try simp only [List.getElem_toArray, List.getElem_cons_succ, List.getElem_cons_zero, Act.put, List.setIfInBounds_toArray, List.set_cons_zero, List.set_cons_succ])
          refine wpAnyH_take (i := 63) (oi := { dst := some 124, op := .pick (.tmp 122) (.tmp 123) (.const (Value.bool false)), type := 4, pos := "law.go:50", after := #[{ on := 61, ground := .data }, { on := 62, ground := .data }], guard := none }) (v := _) rfl (by as_aux_lemma => kernel_rfl) (by as_aux_lemma => kernel_rfl) (by as_aux_lemma => kernel_rfl) (fun _ _ _ h => h) (Or.inl ⟨by kernel_rfl, by (intro w hSw; (try dsimp only at hSw); go_simp; first | done | with_reducible rfl)⟩) (by assumption) ?_
          (try simp only [List.getElem_toArray, List.getElem_cons_succ, List.getElem_cons_zero, Act.put, List.setIfInBounds_toArray, List.set_cons_zero, List.set_cons_succ])
          refine wpAnyH_take (i := 64) (oi := { dst := some 6, op := .assign (.tmp 124), type := 4, pos := "law.go:50", after := ([{ on := 63, ground := .data }, { on := 62, ground := .chain }, { on := 0, ground := .phase }, { on := 1, ground := .phase }, { on := 2, ground := .phase }, { on := 3, ground := .phase }, { on := 4, ground := .phase }, { on := 5, ground := .phase }, { on := 6, ground := .phase }, { on := 7, ground := .phase }, { on := 8, ground := .phase }, { on := 9, ground := .phase }, { on := 10, ground := .phase }, { on := 11, ground := .phase }, { on := 12, ground := .phase }, { on := 13, ground := .phase }, { on := 14, ground := .phase }, { on := 15, ground := .phase }, { on := 16, ground := .phase }, { on := 17, ground := .phase }, { on := 18, ground := .phase }, { on := 19, ground := .phase }, { on := 20, ground := .phase }, { on := 21, ground := .phase }, { on := 22, ground := .phase }, { on := 23, ground := .phase }, { on := 24, ground := .phase }, { on := 25, ground := .phase }, { on := 26, ground := .phase }, { on := 27, ground := .phase }, { on := 28, ground := .phase }, { on := 29, ground := .phase }, { on := 30, ground := .phase }].append [{ on := 31, ground := .phase }, { on := 32, ground := .phase }, { on := 33, ground := .phase }, { on := 34, ground := .phase }, { on := 35, ground := .phase }, { on := 36, ground := .phase }, { on := 37, ground := .phase }, { on := 38, ground := .phase }, { on := 39, ground := .phase }, { on := 40, ground := .phase }, { on := 41, ground := .phase }, { on := 42, ground := .phase }, { on := 43, ground := .phase }, { on := 44, ground := .phase }, { on := 45, ground := .phase }, { on := 46, ground := .phase }, { on := 47, ground := .phase }, { on := 48, ground := .phase }, { on := 49, ground := .phase }, { on := 50, ground := .phase }, { on := 51, ground := .phase }, { on := 52, ground := .phase }, { on := 53, ground := .phase }, { on := 54, ground := .phase }, { on := 55, ground := .phase }, { on := 56, ground := .phase }, { on := 57, ground := .phase }, { on := 58, ground := .phase }, { on := 59, ground := .phase }, { on := 60, ground := .phase }, { on := 61, ground := .phase }, { on := 62, ground := .phase }, { on := 63, ground := .phase }]).toArray, guard := none }) (v := _) rfl (by as_aux_lemma => kernel_rfl) (by as_aux_lemma => kernel_rfl) (by as_aux_lemma => kernel_rfl) (fun _ _ _ h => h) (Or.inl ⟨by kernel_rfl, by (intro w hSw; (try dsimp only at hSw); go_simp; first | done | with_reducible rfl)⟩) (by assumption) ?_
          (try simp only [List.getElem_toArray, List.getElem_cons_succ, List.getElem_cons_zero, Act.put, List.setIfInBounds_toArray, List.set_cons_zero, List.set_cons_succ])
          refine wpAnyH_done (by as_aux_lemma => kernel_rfl) ?_ _
          clear SA0 SA1 SA2 SA3 SA4 SA5 SA6 SA7 SA8 SA9 SA10 SA11
          go_wp2
          go_ret
          exact ⟨rfl, HW11.out.now.1.2.2.2.2.2.2⟩
end Go.Proofs.YtpfccicahfncbaaDoor
namespace Go.Proofs.YtpfccicahfncbaaDoor
open Go.RowKit
theorem tabs_of {laid : List (String × DataW Unit)} {W : World} (hp : (laid.all fun x => x.2.handleName?.isNone) = true) (h : laidMetH Tryd.prog laid W) (h1 : ("unicode/utf8.first", Rows.laid_unicode_utf8_first) ∈ laid) (h2 : ("unicode/utf8.acceptRanges", (Rows.laid_unicode_utf8_acceptRanges : DataW Unit)) ∈ laid) : Tabs W := by
  rw [MakeChecks.laidMetH_plain _ _ _ hp] at h
  have r1 := Lib.laidMet.reads h h1
  have r2 := Lib.laidMet.reads h h2
  have e1 : Rows.laid_unicode_utf8_first = Lib.firstData := Pinned.utf8First_eq
  have e2 : (Rows.laid_unicode_utf8_acceptRanges : DataW Unit) = Lib.acceptData := by kernel_rfl
  rw [e1] at r1
  rw [e2] at r2
  exact utf8Tabs_of_reads Tryd.lays260 ⟨by kernel_rfl, by kernel_rfl, by kernel_rfl, by kernel_rfl, by kernel_rfl, by kernel_rfl, by kernel_rfl⟩ r1 r2
end Go.Proofs.YtpfccicahfncbaaDoor
