/- Walk: attrs.Check. -/
import Derived.Test.YtpfccicahfncbaaDoorAtt
import Derived.StillTailTactics
namespace Go.Proofs.YtpfccicahfncbaaDoor
open Go.RowKit Wir
set_option linter.unusedVariables false
set_option linter.unusedSimpArgs false
theorem att_cells (a : Att) (A : Option Addr) (n c : Nat) (w : World) (g : Nat) (h : Blk w g 27 (attV a A n c)) :
    w.cell? ⟨g, 0, none⟩ = some (.int .u8 (a.nd.toNat : Int)) ∧ w.cell? ⟨g, 1, none⟩ = some (.int .u32 (a.md.toNat : Int)) ∧ w.cell? ⟨g, 2, none⟩ = some (.int .u32 (a.ui.toNat : Int)) ∧ w.cell? ⟨g, 3, none⟩ = some (.int .u32 (a.gi.toNat : Int)) ∧ w.cell? ⟨g, 4, none⟩ = some (.int .i64 a.mt) ∧ w.cell? ⟨g, 5, none⟩ = some (.string a.tg) ∧ w.cell? ⟨g, 6, none⟩ = some (.slice A n c) :=
  ⟨h.cell 0, h.cell 1, h.cell 2, h.cell 3, h.cell 4, h.cell 5, h.cell 6⟩
set_option maxRecDepth 100000 in
set_option maxHeartbeats 1000000 in
theorem attChk_any (a : Att) (A : Option Addr) (n c : Nat) (w : World) (B : Nat) (hr : Reads w B 2 A n (xtV a.xs)) (hB : B ≤ w.heap.size) (hf : a.fit) (hn : n ≤ 4611686018427387904) (ht : a.tg.size ≤ 4611686018427387904) (hz : ∀ p ∈ a.xs, p.1.size ≤ 4611686018427387904 ∧ p.2.size ≤ 4611686018427387904) :
    Calls Tryd.prog 22 #[.agg (attV a A n c)] w fun e w' => e = .returned (.int .i64 (chkA a)) ∧ Below w.heap.size w w' := by
  have HR := Lib.hid hr
  have HZ := Lib.hid hz
  have HL := Lib.hid hr.xtLen
  have HB0 : Hid (Blk (w.alloc (.cells (attV a A n c) 27)) w.heap.size 27 (attV a A n c) ∧ Below w.heap.size w (w.alloc (.cells (attV a A n c) 27))) := Lib.hid ⟨Blk.new _ _ _, (Below.refl _ _).alloc (Nat.le_refl _) _⟩
  have b1 := a.nd.toNat_lt
  have b2 := a.md.toNat_lt
  obtain ⟨f1, f2⟩ := hf
  clear hr hz
  have hf7 := fun (w : World) (g : Nat) (h : Blk w g 27 (attV a A n c)) => att_cells a A n c w g h
  by_cases h1 : chk1 a = true
  · have E := Lib.hid (chkA_bad1 h1)
    have h1' : a.nd.toNat < 1 ∨ (1 ≤ a.nd.toNat ∧ 3 < a.nd.toNat) ∨ (1 ≤ a.nd.toNat ∧ a.nd.toNat ≤ 3 ∧ 4095 < a.md.toNat) ∨ (1 ≤ a.nd.toNat ∧ a.nd.toNat ≤ 3 ∧ a.md.toNat ≤ 4095 ∧ a.mt < 0) ∨ (1 ≤ a.nd.toNat ∧ a.nd.toNat ≤ 3 ∧ a.md.toNat ≤ 4095 ∧ 0 ≤ a.mt ∧ 1099511627776 < a.mt) := by
      simp only [chk1, Bool.or_eq_true, decide_eq_true_eq] at h1; omega
    clear h1
    go_enter Tryd.func22, Tryd.ntmps22
    go_upto_region 1 with fail
    generalize w.alloc (.cells (attV a A n c) 27) = w1 at HB0 ⊢
    obtain ⟨c0, c1, c2, c3, c4, c5, c6⟩ := hf7 w1 _ HB0.out.1
    clear hf7
    rcases h1' with h | ⟨h, h'⟩ | ⟨h, h', h''⟩ | ⟨h, h', h'', h3⟩ | ⟨h, h', h'', h3, h4⟩
    all_goals
      go_wp2
      go_ret
      exact ⟨by rw [E.out]; rfl, HB0.out.2⟩
  · have h1f : chk1 a = false := by simpa using h1
    have h1' : 1 ≤ a.nd.toNat ∧ a.nd.toNat ≤ 3 ∧ a.md.toNat ≤ 4095 ∧ 0 ≤ a.mt ∧ a.mt ≤ 1099511627776 := by
      simp only [chk1, Bool.or_eq_true, decide_eq_true_eq] at h1; omega
    obtain ⟨k1, k2, k3, k4, k5⟩ := h1'
    have CT : Hid (∀ W, Calls Tryd.prog 45 #[.string a.tg, .string ⟨#[0]⟩] W fun e w' => e = .returned (.bool (nul a.tg)) ∧ w' = W) := Lib.hid (fun W => Tryd.strings_Contains_one a.tg 0 W)
    clear h1
    have hsp : ∃ lb tb : Bool, ((a.nd.toNat : Int) == 3) = lb ∧ a.tg.toList.isEmpty = tb ∧ decide (a.nd.toNat = 3) = lb := ⟨_, _, rfl, rfl, by
      by_cases h : a.nd.toNat = 3
      · rw [h]; rfl
      · rw [decide_eq_false h]; symm; rw [beq_eq_false_iff_ne]; omega⟩
    obtain ⟨lb, tb, hlb, htb, hlb2⟩ := hsp
    by_cases h2 : chk2 a = true
    · have E := Lib.hid (chkA_bad2 h2)
      have h2' : (lb != !tb) = true ∨ ((lb != !tb) = false ∧ 1024 < a.tg.size) ∨ ((lb != !tb) = false ∧ a.tg.size ≤ 1024 ∧ nul a.tg = true) ∨ ((lb != !tb) = false ∧ a.tg.size ≤ 1024 ∧ nul a.tg = false ∧ 16 < n) := by
        unfold chk2 at h2
        rw [hlb2, htb, HL.out] at h2
        simp only [Bool.or_eq_true, decide_eq_true_eq] at h2
        cases h5 : (lb != !tb) with
        | true => exact .inl rfl
        | false =>
          rw [h5] at h2
          rcases Nat.lt_or_ge 1024 a.tg.size with h6 | h6
          · exact .inr (.inl ⟨rfl, h6⟩)
          · cases h7 : nul a.tg with
            | true => exact .inr (.inr (.inl ⟨rfl, h6, rfl⟩))
            | false =>
              rw [h7] at h2
              refine .inr (.inr (.inr ⟨rfl, h6, rfl, ?_⟩))
              rcases h2 with ((h | h) | h) | h
              · cases h
              · omega
              · cases h
              · exact h
      clear h2 hlb2
      generalize nul a.tg = nb at *
      go_enter Tryd.func22, Tryd.ntmps22
      go_upto_region 1 with fail
      generalize w.alloc (.cells (attV a A n c) 27) = w1 at HB0 ⊢
      obtain ⟨c0, c1, c2, c3, c4, c5, c6⟩ := hf7 w1 _ HB0.out.1
      clear hf7
      rcases h2' with h | ⟨h, h'⟩ | ⟨h, h', rfl⟩ | ⟨h, h', rfl, h3⟩
      · cases lb <;> cases tb
        · go_wp2
          go_ret
          exact ⟨by rw [E.out]; rfl, HB0.out.2⟩
        · cases h
        · cases h
        · go_wp2
          go_ret
          exact ⟨by rw [E.out]; rfl, HB0.out.2⟩
      · cases lb <;> cases tb
        · cases h
        · go_wp2
          go_ret
          exact ⟨by rw [E.out]; rfl, HB0.out.2⟩
        · go_wp2
          go_ret
          exact ⟨by rw [E.out]; rfl, HB0.out.2⟩
        · cases h
      · cases lb <;> cases tb
        · cases h
        · clear h
          go_wp2_with fail
          (with_reducible refine (CT.out _).mono ?_)
          rintro e w2 ⟨rfl, rfl⟩
          go_wp2
          go_ret
          exact ⟨by rw [E.out]; rfl, HB0.out.2⟩
        · clear h
          go_wp2_with fail
          (with_reducible refine (CT.out _).mono ?_)
          rintro e w2 ⟨rfl, rfl⟩
          go_wp2
          go_ret
          exact ⟨by rw [E.out]; rfl, HB0.out.2⟩
        · cases h
      · cases lb <;> cases tb
        · cases h
        · clear h
          go_wp2_with fail
          (with_reducible refine (CT.out _).mono ?_)
          rintro e w2 ⟨rfl, rfl⟩
          go_wp2
          go_ret
          exact ⟨by rw [E.out]; rfl, HB0.out.2⟩
        · clear h
          go_wp2_with fail
          (with_reducible refine (CT.out _).mono ?_)
          rintro e w2 ⟨rfl, rfl⟩
          go_wp2
          go_ret
          exact ⟨by rw [E.out]; rfl, HB0.out.2⟩
        · cases h
    · have h2f : chk2 a = false := by simpa using h2
      have h2' : (lb != !tb) = false ∧ a.tg.size ≤ 1024 ∧ nul a.tg = false ∧ n ≤ 16 := by
        have h3 := h2f
        unfold chk2 at h3
        rw [hlb2, htb, HL.out] at h3
        simp only [Bool.or_eq_false_iff, decide_eq_false_iff_not] at h3
        obtain ⟨⟨⟨q1, q2⟩, q3⟩, q4⟩ := h3
        exact ⟨q1, by omega, q3, by omega⟩
      obtain ⟨h, h', hnb, h3⟩ := h2'
      obtain rfl : lb = !tb := by cases lb <;> cases tb <;> first | rfl | cases h
      clear h
      have tf : ((!tb) != !tb) = false := by simp
      have g1 : decide ((a.nd.toNat : Int) < 1) = false := by rw [decide_eq_false_iff_not]; omega
      have g2 : decide (3 < (a.nd.toNat : Int)) = false := by rw [decide_eq_false_iff_not]; omega
      have g3 : decide (4095 < (a.md.toNat : Int)) = false := by rw [decide_eq_false_iff_not]; omega
      have g4 : decide (a.mt < 0) = false := by rw [decide_eq_false_iff_not]; omega
      have g5 : decide (1099511627776 < a.mt) = false := by rw [decide_eq_false_iff_not]; omega
      have g6 : decide (16 < (n : Int)) = false := by rw [decide_eq_false_iff_not]; omega
      have g7 : decide (1024 < (a.tg.size : Int)) = false := by rw [decide_eq_false_iff_not]; omega
      rw [hnb] at CT
      clear h2 hlb2 hnb
      have E3 := Lib.hid (fun h => chkA_bad3 (a := a) h)
      have E4 := Lib.hid (fun h => chkA_ok (a := a) h1f h2f h)
      clear h1f h2f
      go_enter Tryd.func22, Tryd.ntmps22
      go_upto_region 1 with fail
      have hW0 := Lib.hid (rfl : w.alloc (.cells (attV a A n c) 27) = w.alloc (.cells (attV a A n c) 27))
      generalize w.alloc (.cells (attV a A n c) 27) = w1 at HB0 ⊢
      clear hW0
      obtain ⟨c0, c1, c2, c3, c4, c5, c6⟩ := hf7 w1 _ HB0.out.1
      clear hf7
      go_upto_region 12 with ((go_at_call 45; refine (CT.out _).mono ?_; rintro e w2 ⟨rfl, rfl⟩))
      clear c0 c1 c2 c3 c4 c5 g1 g2 g3 g4 g5 g6 g7 k1 k2 k3 k4 k5 f1 f2 b1 b2 CT tf
      have HBz : Hid (Below w.heap.size w w2) := Lib.hid HB0.out.2
      go_wp2_with fail
      go_loopw [4, 48] (fun v i wr => ∃ (k : Nat) (last : ByteArray), k ≤ n ∧ i = .int .i64 k ∧ v = .string last ∧ Hid (chkX ByteArray.empty a.xs = chkX last (a.xs.drop k)) ∧ Hid (Below w.heap.size w wr)) (fun _ i _ => n - (intOf i).toNat)
      case atStart => exact ⟨0, ByteArray.empty, by omega, rfl, rfl, Lib.hid (by rw [List.drop_zero]), HBz⟩
      case round =>
        obtain ⟨k, last, hk, rfl, rfl, HC, HK⟩ := hrel
        by_cases hlt : k < n
        · obtain ⟨ad, hkl, rfl, hbl, x0, x1⟩ := xt_cells HR.out k hlt
          have HS := Lib.hid (chkX_step last a.xs k hkl)
          obtain ⟨z1, z2⟩ := HZ.out _ (List.getElem_mem hkl)
          have hcell : Hid (∀ W, Below w.heap.size w W → W.cell? (ad.add (k * 2)) = some (.string (a.xs[k]).1) ∧ W.cell? ⟨(ad.add (k * 2)).block, (ad.add (k * 2)).off + 1, none⟩ = some (.string (a.xs[k]).2)) := Lib.hid (fun W hW => by
            show _ ∧ W.cell? ((ad.add (k * 2)).add 1) = _
            rw [hW.cell (by rw [block_of_add]; omega), hW.cell (by rw [block_of_add, block_of_add]; omega)]; exact ⟨x0, x1⟩)
          obtain ⟨x, hx⟩ : ∃ x, a.xs[k] = x := ⟨_, rfl⟩
          rw [hx] at HS z1 z2 hcell
          clear hx x0 x1 c6
          obtain ⟨y0, y1⟩ := hcell.out wr HK.out
          have hki : (k : Int) < (n : Int) := by omega
          have NC := Lib.hid (fun W => nameChk_any x.1 W z1)
          have NL := Lib.hid (fun W => nameLess_any last x.1 W)
          have hHS : Hid (chkX ByteArray.empty a.xs = (decide (nmE x.1 = 0) && decide (x.2.size ≤ 4096) && Op.bytesLess last.toList x.1.toList && chkX x.1 (a.xs.drop (k + 1)))) := Lib.hid (HC.out.trans HS.out)
          clear HS HC
          go_upto_region 16 with fail
          have BN : Hid (Blk (wr.alloc (.cells #[.string x.1, .string x.2] 43)) wr.heap.size 43 #[.string x.1, .string x.2] ∧ Below w.heap.size w (wr.alloc (.cells #[.string x.1, .string x.2] 43))) := Lib.hid ⟨Blk.new _ _ _, HK.out.alloc HK.out.size _⟩
          generalize wr.alloc (.cells #[.string x.1, .string x.2] 43) = w3 at BN ⊢
          have e0 : w3.cell? ⟨wr.heap.size, 0, none⟩ = some (.string x.1) := BN.out.1.cell 0
          have e1 : w3.cell? ⟨wr.heap.size, 1, none⟩ = some (.string x.2) := BN.out.1.cell 1
          clear y0 y1 hcell
          go_wp2_with fail
          (with_reducible refine (NC.out _).mono ?_)
          rintro e w4 ⟨rfl, hb4⟩
          have BN4 : Hid (Blk w4 wr.heap.size 43 #[.string x.1, .string x.2] ∧ Below w.heap.size w w4) := Lib.hid ⟨BN.out.1.below hb4 BN.out.1.lt, BN.out.2.trans (hb4.mono BN.out.2.size)⟩
          clear hb4 NC e0 e1
          have e0 : w4.cell? ⟨wr.heap.size, 0, none⟩ = some (.string x.1) := BN4.out.1.cell 0
          have e1 : w4.cell? ⟨wr.heap.size, 1, none⟩ = some (.string x.2) := BN4.out.1.cell 1
          rcases nmE_or x.1 with hn0 | hn0
          · rw [hn0] at hHS ⊢
            by_cases hv : x.2.size ≤ 4096
            · cases hl : Op.bytesLess last.toList x.1.toList with
              | true =>
                rw [hl] at NL
                have HN : Hid (chkX ByteArray.empty a.xs = chkX x.1 (a.xs.drop (k + 1))) := Lib.hid (by rw [hHS.out, hl, decide_eq_true hv]; rfl)
                clear hl hHS hn0
                have hv2 : decide (4096 < (x.2.size : Int)) = false := by rw [decide_eq_false_iff_not]; omega
                go_wp2_with fail
                (with_reducible refine (NL.out _).mono ?_)
                rintro e w5 ⟨rfl, rfl⟩
                go_wp2
                go_roundw
                case rel => exact ⟨k + 1, x.1, by omega, by go_num, rfl, HN, Lib.hid BN4.out.2⟩
                case measure => simp [intOf]; omega
              | false =>
                rw [hl] at NL
                have HN : Hid (chkA a = 1) := Lib.hid (E3.out (by rw [hHS.out, hl]; simp))
                clear hl hHS hn0
                have hv2 : decide (4096 < (x.2.size : Int)) = false := by rw [decide_eq_false_iff_not]; omega
                go_wp2_with fail
                (with_reducible refine (NL.out _).mono ?_)
                rintro e w5 ⟨rfl, rfl⟩
                go_wp2
                go_ret
                exact ⟨by rw [HN.out]; rfl, BN4.out.2⟩
            · have HN : Hid (chkA a = 1) := Lib.hid (E3.out (by rw [hHS.out, decide_eq_false hv]; simp))
              have hv2 : decide (4096 < (x.2.size : Int)) = true := by rw [decide_eq_true_eq]; omega
              clear hHS hn0
              go_wp2
              go_ret
              exact ⟨by rw [HN.out]; rfl, BN4.out.2⟩
          · rw [hn0] at hHS ⊢
            have HN : Hid (chkA a = 1) := Lib.hid (E3.out (by rw [hHS.out]; simp))
            clear hHS hn0
            go_wp2
            go_ret
            exact ⟨by rw [HN.out]; rfl, BN4.out.2⟩
        · obtain rfl : k = n := by omega
          have HT : Hid (chkX ByteArray.empty a.xs = true) := Lib.hid (by rw [HC.out, List.drop_of_length_le (by rw [HL.out]; exact Nat.le_refl _)]; rfl)
          go_wp2
          go_ret
          exact ⟨by rw [E4.out HT.out]; rfl, HK.out⟩
end Go.Proofs.YtpfccicahfncbaaDoor
