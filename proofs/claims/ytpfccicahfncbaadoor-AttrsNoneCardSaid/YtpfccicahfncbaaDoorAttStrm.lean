/- Walk: attrs.Stream. -/
import Derived.Test.YtpfccicahfncbaaDoorAtts
namespace Go.Proofs.YtpfccicahfncbaaDoor
open Go.RowKit Wir
set_option linter.unusedVariables false
set_option linter.unusedSimpArgs false
theorem strF_step (s : ByteArray) (l : List Att) (k : Nat) (h : k < l.length) : strF s (l.drop k) = if chkA l[k] = 0 then strF (s ++ txL (layA l[k])) (l.drop (k + 1)) else (ByteArray.empty, 1) := by
  rw [List.drop_eq_getElem_cons h, strF]
/-- The seven cells of an element, as a walk spells them. -/
theorem seven_cells {w : World} {ad : Addr} {q : AttM} {i : Nat} (h : ∀ j, j < 7 → w.cell? ((ad.add (i * 7)).add j) = q.v[j]?) :
    w.cell? (ad.add (i * 7)) = some (.int .u8 (q.a.nd.toNat : Int)) ∧ w.cell? ⟨(ad.add (i * 7)).block, (ad.add (i * 7)).off + 1, none⟩ = some (.int .u32 (q.a.md.toNat : Int)) ∧ w.cell? ⟨(ad.add (i * 7)).block, (ad.add (i * 7)).off + 2, none⟩ = some (.int .u32 (q.a.ui.toNat : Int)) ∧ w.cell? ⟨(ad.add (i * 7)).block, (ad.add (i * 7)).off + 3, none⟩ = some (.int .u32 (q.a.gi.toNat : Int)) ∧ w.cell? ⟨(ad.add (i * 7)).block, (ad.add (i * 7)).off + 4, none⟩ = some (.int .i64 q.a.mt) ∧ w.cell? ⟨(ad.add (i * 7)).block, (ad.add (i * 7)).off + 5, none⟩ = some (.string q.a.tg) ∧ w.cell? ⟨(ad.add (i * 7)).block, (ad.add (i * 7)).off + 6, none⟩ = some (.slice q.A q.n q.c) := by
  refine ⟨?_, h 1 (by omega), h 2 (by omega), h 3 (by omega), h 4 (by omega), h 5 (by omega), h 6 (by omega)⟩
  have := h 0 (by omega)
  rw [show (ad.add (i * 7)).add 0 = ad.add (i * 7) from by rw [add_of_add, Nat.add_zero]] at this
  exact this
set_option maxRecDepth 100000 in
set_option maxHeartbeats 1000000 in
theorem attStrm_any (A : Option Addr) (n c : Nat) (M : List AttM) (w : World) (B : Nat) (hr : Reads w B 7 A n (attsV M)) (hM : AllRd w B M) (hz : ∀ q ∈ M, q.a.sized ∧ q.n ≤ 4611686018427387904) (hB : B ≤ w.heap.size) (hn : n ≤ 4611686018427387904) :
    Calls Tryd.prog 7 #[.slice A n c] w fun e w' => e = .returned (.tuple #[.string (strR (M.map (·.a))).1, .int .i64 (strR (M.map (·.a))).2]) ∧ Below w.heap.size w w' := by
  have HR := Lib.hid hr
  have HM := Lib.hid hM
  have HZ := Lib.hid hz
  have HL := Lib.hid hr.attLen
  have HLm : Hid ((M.map (·.a)).length = n) := Lib.hid (by rw [List.length_map]; exact hr.attLen)
  clear hr hM hz
  by_cases hbad : n < 1 ∨ 257 < n
  · have E : Hid (strR (M.map (·.a)) = (ByteArray.empty, 1)) := Lib.hid (by rw [strR, HLm.out, if_pos hbad])
    have hb' : n < 1 ∨ (1 ≤ n ∧ 257 < n) := by omega
    clear hbad
    go_enter Tryd.func7, Tryd.ntmps7
    rcases hb' with h | ⟨h, h'⟩
    all_goals
      go_wp2
      go_ret2
      exact ⟨by rw [E.out]; rfl, Below.refl _ _⟩
  · have h1 : 1 ≤ n := by omega
    have h2 : n ≤ 257 := by omega
    have E : Hid (strR (M.map (·.a)) = strF (bs (putL n)) (M.map (·.a))) := Lib.hid (by rw [strR, HLm.out, if_neg hbad])
    clear hbad
    have PU := Lib.hid (put_any ⟨#[]⟩ n w (by omega) (by decide))
    have ep : (⟨#[]⟩ : ByteArray) ++ bs (putL n) = bs (putL n) := ByteArray.empty_append
    rw [ep] at PU
    have hz0 : (bs (putL n)).size ≤ 10 := by have := putN_length 9 n; rw [bs_size]; show (putN 9 n).length ≤ _; omega
    obtain ⟨s0, hs0⟩ : ∃ s0, bs (putL n) = s0 := ⟨_, rfl⟩
    rw [hs0] at PU E hz0
    clear ep hs0
    have g1 : decide ((n : Int) < 1) = false := by rw [decide_eq_false_iff_not]; omega
    have g2 : decide (257 < (n : Int)) = false := by rw [decide_eq_false_iff_not]; omega
    go_enter Tryd.func7, Tryd.ntmps7
    go_wp2_with fail
    (with_reducible refine PU.out.mono ?_)
    rintro e w1 ⟨rfl, hb1⟩
    have HB1 := Lib.hid hb1
    clear hb1 PU
    go_wp2_with fail
    go_loopw [4, 23] (fun v i wr => ∃ (k : Nat) (t : ByteArray), k ≤ n ∧ i = .int .i64 k ∧ v = .string t ∧ t.size ≤ 10 + 80010 * k ∧ Hid (strR (M.map (·.a)) = strF t ((M.map (·.a)).drop k)) ∧ Hid (Below w.heap.size w wr)) (fun _ i _ => n - (intOf i).toNat)
    case atStart => exact ⟨0, s0, by omega, rfl, rfl, by omega, Lib.hid (by rw [List.drop_zero]; exact E.out), HB1⟩
    case round =>
      obtain ⟨k, t, hk, rfl, rfl, ht, HX, HK⟩ := hrel
      by_cases hlt : k < n
      · obtain ⟨ad, hkl, rfl, hbl, hcl⟩ := atts_cells HR.out k hlt
        have hcl2 : ∀ j, j < 7 → wr.cell? ((ad.add (k * 7)).add j) = (M[k]).v[j]? := fun j hj => by
          rw [HK.out.cell (by rw [block_of_add, block_of_add]; omega)]; exact hcl j hj
        obtain ⟨c0, c1, c2, c3, c4, c5, c6⟩ := seven_cells hcl2
        have hkm : k < (M.map (·.a)).length := by rw [HLm.out]; exact hlt
        have HS := Lib.hid (HX.out.trans (strF_step t (M.map (·.a)) k hkm))
        rw [List.getElem_map] at HS
        obtain ⟨⟨sz1, sz2, sz3⟩, sz4⟩ := HZ.out _ (List.getElem_mem hkl)
        have hrd := HM.out _ (List.getElem_mem hkl)
        have HRD := Lib.hid (hrd.below (HK.out.mono hB))
        obtain ⟨q, hq⟩ : ∃ q, M[k] = q := ⟨_, rfl⟩
        rw [hq] at c0 c1 c2 c3 c4 c5 c6 HS sz1 sz2 sz3 sz4 HRD
        have SZ3 := Lib.hid sz3
        have SZ1 := Lib.hid sz1
        clear hq hcl hcl2 hkm hrd sz3 sz1 HX
        have hki : (k : Int) < (n : Int) := by omega
        go_upto_region 7 with fail
        have BN : Hid (Blk (wr.alloc (.cells (attV q.a q.A q.n q.c) 27)) wr.heap.size 27 (attV q.a q.A q.n q.c) ∧ Below w.heap.size w (wr.alloc (.cells (attV q.a q.A q.n q.c) 27)) ∧ Reads (wr.alloc (.cells (attV q.a q.A q.n q.c) 27)) B 2 q.A q.n (xtV q.a.xs) ∧ B ≤ (wr.alloc (.cells (attV q.a q.A q.n q.c) 27)).heap.size) := Lib.hid (by
          have hs := HK.out.size
          exact ⟨Blk.new _ _ _, HK.out.alloc HK.out.size _, HRD.out.alloc (by omega) _, by simp; omega⟩)
        change Code.wp _ _ _ _ (wr.alloc (.cells (attV q.a q.A q.n q.c) 27))
        generalize wr.alloc (.cells (attV q.a q.A q.n q.c) 27) = w2 at BN ⊢
        generalize wr.heap.size = xb at BN ⊢
        clear c0 c1 c2 c3 c4 c5 c6 HRD
        obtain ⟨c0, c1, c2, c3, c4, c5, c6⟩ := att_cells q.a q.A q.n q.c w2 _ BN.out.1
        have P2 := Lib.hid (attPut_any q.a q.A q.n q.c w2 B BN.out.2.2.1 BN.out.2.2.2 SZ1.out sz4 (by omega) (fun p hp => ⟨Nat.le_trans (SZ3.out p hp).1 (by omega), Nat.le_trans (SZ3.out p hp).2 (by omega)⟩))
        go_wp2_with fail
        change Calls _ _ #[.agg (attV q.a q.A q.n q.c)] _ _
        (with_reducible refine P2.out.mono ?_)
        rintro e w3 ⟨rfl, hb3⟩
        have HB3 : Hid (Below w.heap.size w w3) := Lib.hid (BN.out.2.1.trans (hb3.mono BN.out.2.1.size))
        clear hb3 P2 BN c0 c1 c2 c3 c4 c5 c6
        by_cases hch : chkA q.a = 0
        · have HY : Hid (strR (M.map (·.a)) = strF (t ++ txL (layA q.a)) ((M.map (·.a)).drop (k + 1))) := Lib.hid (by rw [HS.out, if_pos hch])
          have hl := layA_size hch
          have hpr : putR q.a = layA q.a := by rw [putR, if_pos hch]
          rw [hch, hpr]
          clear hpr hch HS
          generalize layA q.a = u at *
          have T := Lib.hid (fun W => putText_any t u W (by omega) (by omega))
          have hx := txL_size u
          have hz2 : (t ++ txL u).size ≤ 10 + 80010 * (k + 1) := by rw [ByteArray.size_append]; omega
          clear hx
          go_wp2_with fail
          (with_reducible refine (T.out _).mono ?_)
          rintro e w4 ⟨rfl, hb4⟩
          have HB4 := Lib.hid (HB3.out.trans (hb4.mono HB3.out.size))
          clear hb4 T
          go_wp2
          go_roundw
          case rel => exact ⟨k + 1, t ++ txL u, by omega, by go_num, rfl, hz2, HY, HB4⟩
          case measure => simp [intOf]; omega
        · have HY : Hid (strR (M.map (·.a)) = (ByteArray.empty, 1)) := Lib.hid (by rw [HS.out, if_neg hch])
          have hc1 : chkA q.a = 1 := by rcases chkA_or q.a with h | h; exact absurd h hch; exact h
          rw [hc1]
          clear hch hc1 HS
          go_wp2
          go_ret2
          exact ⟨by rw [HY.out]; rfl, HB3.out⟩
      · obtain rfl : k = n := by omega
        have HY : Hid (strR (M.map (·.a)) = (t, 0)) := Lib.hid (by rw [HX.out, List.drop_of_length_le (by rw [HLm.out]; exact Nat.le_refl _)]; rfl)
        go_wp2
        go_ret2
        exact ⟨by rw [HY.out]; rfl, HK.out⟩
end Go.Proofs.YtpfccicahfncbaaDoor
