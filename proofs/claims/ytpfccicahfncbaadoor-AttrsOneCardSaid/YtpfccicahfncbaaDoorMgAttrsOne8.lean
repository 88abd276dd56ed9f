/- Several texts of the claim joined into one (part 8): plain facts and walks. No conditions but those that each theorem tells. -/
import Derived.Test.YtpfccicahfncbaaDoorMgAttrsOne2
import Derived.Test.YtpfccicahfncbaaDoorMgAttrsOne7
import Derived.Lib.IndexAny
import Derived.Deep.RegionHeld3
import Derived.Deep.DeepCutAuto
import Derived.Outline
namespace Go.Proofs.YtpfccicahfncbaaDoor
open Go.RowKit Wir
set_option linter.unusedVariables false
set_option linter.unusedSimpArgs false
theorem nul_contains (s : ByteArray) : nul s = s.data.toList.contains 0 := by unfold nul; rw [Lib.contains_iff_indexByte]
def nulTo (s : ByteArray) (k : Nat) : Bool := (s.data.toList.take k).contains 0
theorem nulTo_step (s : ByteArray) (k : Nat) (h : k < s.size) : nulTo s (k + 1) = (nulTo s k || ((byteAt s k).toNat == 0)) := by
  have hl : k < s.data.toList.length := h
  unfold nulTo
  rw [List.take_add_one, List.getElem?_eq_getElem hl, List.contains_eq_any_beq, List.contains_eq_any_beq, List.any_append]
  congr 1
  have e : s.data.toList[k] = byteAt s k := by rw [← byteAt_get s k h]; rfl
  rw [e]
  simp only [Option.toList, List.any_cons, List.any_nil, Bool.or_false]
  rw [Bool.eq_iff_iff, beq_iff_eq, beq_iff_eq, ← UInt8.toNat_inj]
  exact ⟨fun h => h.symm, fun h => h.symm⟩
theorem nulTo_all (s : ByteArray) : nulTo s s.size = nul s := by
  rw [nul_contains]; unfold nulTo; rw [List.take_of_length_le (by exact Nat.le_refl _)]
theorem nulTo_some (s : ByteArray) (k : Nat) (h : k < s.size) (h0 : (byteAt s k).toNat = 0) : nul s = true := by
  have h1 : nulTo s (k + 1) = true := by rw [nulTo_step s k h, h0]; simp
  rw [nul_contains]
  unfold nulTo at h1
  rw [List.contains_iff_mem] at h1 ⊢
  exact List.mem_of_mem_take h1
/-- The name ahead of the k-th. -/
def lastF (xs : List (ByteArray × ByteArray)) : Nat → ByteArray
  | 0 => ByteArray.empty
  | k + 1 => (xs.getD k (ByteArray.empty, ByteArray.empty)).1
theorem lastF_succ (xs : List (ByteArray × ByteArray)) (k : Nat) (h : k < xs.length) : lastF xs (k + 1) = (xs[k]).1 := by
  show (xs.getD k (ByteArray.empty, ByteArray.empty)).1 = _
  rw [List.getD_eq_getElem?_getD, List.getElem?_eq_getElem h]; rfl
theorem less_empty (s : ByteArray) (h : nmE s = 0) : Op.bytesLess ByteArray.empty.toList s.toList = true := by
  have hz : s.size ≠ 0 := by
    intro hz
    rw [nmE_runes, if_pos (.inl (by omega))] at h
    cases h
  have hl : s.toList.length = s.size := by rw [ByteArray.toList_eq]; rfl
  rw [ByteArray.toList_eq ByteArray.empty]
  cases hs : s.toList with
  | nil => rw [hs] at hl; exact absurd hl.symm hz
  | cons b l => rfl
theorem ratt_cells (a : Att) (A : Option Addr) (n c : Nat) (w : World) (g : Nat) (h : Blk w g 31 (attV a A n c)) :
    w.cell? ⟨g, 0, none⟩ = some (.int .u8 (a.nd.toNat : Int)) ∧ w.cell? ⟨g, 1, none⟩ = some (.int .u32 (a.md.toNat : Int)) ∧ w.cell? ⟨g, 2, none⟩ = some (.int .u32 (a.ui.toNat : Int)) ∧ w.cell? ⟨g, 3, none⟩ = some (.int .u32 (a.gi.toNat : Int)) ∧ w.cell? ⟨g, 4, none⟩ = some (.int .i64 a.mt) ∧ w.cell? ⟨g, 5, none⟩ = some (.string a.tg) ∧ w.cell? ⟨g, 6, none⟩ = some (.slice A n c) :=
  ⟨h.cell 0, h.cell 1, h.cell 2, h.cell 3, h.cell 4, h.cell 5, h.cell 6⟩
/-- What is not right ahead of the loops, as the reference asks it. -/
theorem chk_ref (a : Att) (h : chkA a = 0) : True := trivial
theorem toList_empty (s : ByteArray) : s.toList.isEmpty = decide (s.size = 0) := by
  have hl : s.toList.length = s.size := by rw [ByteArray.toList_eq]; rfl
  cases hs : s.toList with
  | nil => rw [hs] at hl; rw [← hl]; rfl
  | cons b l => rw [hs, List.length_cons] at hl; rw [← hl]; rfl
set_option maxRecDepth 100000 in
set_option maxHeartbeats 4000000 in
theorem rattChk_any (a : Att) (A : Option Addr) (n c : Nat) (w : World) (B : Nat) (hr : Reads w B 2 A n (xtV a.xs)) (hT : Tabs w) (hB : B ≤ w.heap.size) (hf : a.fit) (hn : n ≤ 4611686018427387904) (ht : a.tg.size ≤ 4611686018427387904) (hz : ∀ p ∈ a.xs, p.1.size ≤ 4611686018427387904 ∧ p.2.size ≤ 4611686018427387904) :
    Calls Tryd.prog 23 #[.agg (attV a A n c)] w fun e w' => e = .returned (.int .i64 (chkA a)) ∧ Below w.heap.size w w' := by
  have HR := Lib.hid hr
  have HT := Lib.hid hT
  have HZ := Lib.hid hz
  have HL := Lib.hid hr.xtLen
  have HB0 : Hid (Blk (w.alloc (.cells (attV a A n c) 31)) w.heap.size 31 (attV a A n c) ∧ Below w.heap.size w (w.alloc (.cells (attV a A n c) 31))) := Lib.hid ⟨Blk.new _ _ _, (Below.refl _ _).alloc (Nat.le_refl _) _⟩
  have b1 := a.nd.toNat_lt
  have b2 := a.md.toNat_lt
  obtain ⟨f1, f2⟩ := hf
  clear hr hz hT
  have hf7 := fun (w : World) (g : Nat) (h : Blk w g 31 (attV a A n c)) => ratt_cells a A n c w g h
  by_cases h1 : chk1 a = true ∨ 16 < n
  · have E : Hid (chkA a = 1) := Lib.hid (by
      rcases h1 with h | h
      · exact chkA_bad1 h
      · refine chkA_bad2 ?_
        unfold chk2
        rw [HL.out, decide_eq_true h, Bool.or_true])
    have h1' : a.nd.toNat < 1 ∨ (1 ≤ a.nd.toNat ∧ 3 < a.nd.toNat) ∨ (1 ≤ a.nd.toNat ∧ a.nd.toNat ≤ 3 ∧ 4095 < a.md.toNat) ∨ (1 ≤ a.nd.toNat ∧ a.nd.toNat ≤ 3 ∧ a.md.toNat ≤ 4095 ∧ a.mt < 0) ∨ (1 ≤ a.nd.toNat ∧ a.nd.toNat ≤ 3 ∧ a.md.toNat ≤ 4095 ∧ 0 ≤ a.mt ∧ 1099511627776 < a.mt) ∨ (1 ≤ a.nd.toNat ∧ a.nd.toNat ≤ 3 ∧ a.md.toNat ≤ 4095 ∧ 0 ≤ a.mt ∧ a.mt ≤ 1099511627776 ∧ 16 < n) := by
      simp only [chk1, Bool.or_eq_true, decide_eq_true_eq] at h1; omega
    clear h1
    go_enter Tryd.func23, Tryd.ntmps23
    go_upto_region 1 with fail
    generalize w.alloc (.cells (attV a A n c) 31) = w1 at HB0 ⊢
    obtain ⟨c0, c1, c2, c3, c4, c5, c6⟩ := hf7 w1 _ HB0.out.1
    clear hf7
    rcases h1' with h | ⟨h, h'⟩ | ⟨h, h', h''⟩ | ⟨h, h', h'', h3⟩ | ⟨h, h', h'', h3, h4⟩ | ⟨h, h', h'', h3, h4, h5⟩
    all_goals
      go_wp2
      go_ret
      exact ⟨by rw [E.out]; rfl, HB0.out.2⟩
  · have h1f : chk1 a = false := by
      cases h : chk1 a with
      | false => rfl
      | true => exact absurd (.inl h) h1
    have h1' : 1 ≤ a.nd.toNat ∧ a.nd.toNat ≤ 3 ∧ a.md.toNat ≤ 4095 ∧ 0 ≤ a.mt ∧ a.mt ≤ 1099511627776 ∧ n ≤ 16 := by
      simp only [chk1, Bool.or_eq_true, decide_eq_true_eq] at h1; omega
    obtain ⟨k1, k2, k3, k4, k5, k6⟩ := h1'
    have HC2 : Hid (chk2 a = ((decide (a.nd.toNat = 3) != !decide (a.tg.size = 0)) || decide (1024 < a.tg.size) || nul a.tg)) := Lib.hid (by
      unfold chk2
      rw [HL.out, decide_eq_false (by omega : ¬ 16 < n), Bool.or_false, toList_empty])
    have E3 := Lib.hid (fun h => chkA_bad3 (a := a) h)
    have E2 := Lib.hid (fun h => chkA_bad2 (a := a) h)
    have E4 := Lib.hid (fun h2 h => chkA_ok (a := a) h1f h2 h)
    clear h1 h1f
    have te := toList_empty a.tg
    by_cases h2 : (a.nd.toNat ≠ 3 ∧ a.tg.size ≠ 0) ∨ (a.nd.toNat = 3 ∧ (a.tg.size = 0 ∨ 1024 < a.tg.size))
    · have E : Hid (chkA a = 1) := Lib.hid (E2.out (by
        rw [HC2.out]
        rcases h2 with ⟨p, q⟩ | ⟨p, q | q⟩
        · rw [decide_eq_false p, decide_eq_false q]; rfl
        · rw [decide_eq_true p, decide_eq_true q]; rfl
        · rw [decide_eq_true q]; simp))
      clear E2 E3 E4 HC2
      go_enter Tryd.func23, Tryd.ntmps23
      go_upto_region 1 with fail
      generalize w.alloc (.cells (attV a A n c) 31) = w1 at HB0 ⊢
      obtain ⟨c0, c1, c2, c3, c4, c5, c6⟩ := hf7 w1 _ HB0.out.1
      clear hf7
      rcases h2 with ⟨p, q⟩ | ⟨p, q | q⟩
      · rw [decide_eq_false q] at te
        have p1 : ((a.nd.toNat : Int) == 3) = false := by rw [beq_eq_false_iff_ne]; omega
        have p2 : ((a.nd.toNat : Int) != 3) = true := by rw [bne, p1]; rfl
        clear p
        go_wp2
        go_ret
        exact ⟨by rw [E.out]; rfl, HB0.out.2⟩
      · rw [decide_eq_true q] at te
        have p1 : ((a.nd.toNat : Int) == 3) = true := by rw [beq_iff_eq]; omega
        have p2 : ((a.nd.toNat : Int) != 3) = false := by rw [bne, p1]; rfl
        clear p q
        go_wp2
        go_ret
        exact ⟨by rw [E.out]; rfl, HB0.out.2⟩
      · rw [decide_eq_false (by omega : ¬ a.tg.size = 0)] at te
        have p1 : ((a.nd.toNat : Int) == 3) = true := by rw [beq_iff_eq]; omega
        have p2 : ((a.nd.toNat : Int) != 3) = false := by rw [bne, p1]; rfl
        clear p
        go_wp2
        go_ret
        exact ⟨by rw [E.out]; rfl, HB0.out.2⟩
    · have h2' : (a.nd.toNat ≠ 3 ∧ a.tg.size = 0) ∨ (a.nd.toNat = 3 ∧ a.tg.size ≠ 0 ∧ a.tg.size ≤ 1024) := by omega
      have h1024 : a.tg.size ≤ 1024 := by omega
      have HC3 : Hid (chk2 a = nul a.tg) := Lib.hid (by
        rw [HC2.out, decide_eq_false (by omega : ¬ 1024 < a.tg.size)]
        rcases h2' with ⟨p, q⟩ | ⟨p, q, _⟩
        · rw [decide_eq_false p, decide_eq_true q]; simp
        · rw [decide_eq_true p, decide_eq_false q]; simp)
      clear h2 HC2
      go_enter Tryd.func23, Tryd.ntmps23
      go_upto_region 1 with fail
      generalize w.alloc (.cells (attV a A n c) 31) = w1 at HB0 ⊢
      obtain ⟨c0, c1, c2, c3, c4, c5, c6⟩ := hf7 w1 _ HB0.out.1
      clear hf7
      have g1 : decide ((a.nd.toNat : Int) < 1) = false := by rw [decide_eq_false_iff_not]; omega
      have g2 : decide (3 < (a.nd.toNat : Int)) = false := by rw [decide_eq_false_iff_not]; omega
      have g3 : decide (4095 < (a.md.toNat : Int)) = false := by rw [decide_eq_false_iff_not]; omega
      have g4 : decide (a.mt < 0) = false := by rw [decide_eq_false_iff_not]; omega
      have g5 : decide (1099511627776 < a.mt) = false := by rw [decide_eq_false_iff_not]; omega
      have g6 : decide (16 < (n : Int)) = false := by rw [decide_eq_false_iff_not]; omega
      have g7 : decide (1024 < (a.tg.size : Int)) = false := by rw [decide_eq_false_iff_not]; omega
      go_upto_region 3 with fail
      go_cut [58] (fun v wx => v = .bool false ∧ w1 = wx)
      case first =>
        rcases h2' with ⟨p, q⟩ | ⟨p, q, r⟩
        · rw [decide_eq_true q] at te
          have p1 : ((a.nd.toNat : Int) == 3) = false := by rw [beq_eq_false_iff_ne]; omega
          have p2 : ((a.nd.toNat : Int) != 3) = true := by rw [bne, p1]; rfl
          clear p q
          go_wp2
          go_meet
          exact ⟨rfl, rfl⟩
        · rw [decide_eq_false q] at te
          have p1 : ((a.nd.toNat : Int) == 3) = true := by rw [beq_iff_eq]; omega
          have p2 : ((a.nd.toNat : Int) != 3) = false := by rw [bne, p1]; rfl
          clear p
          go_wp2
          go_meet
          exact ⟨rfl, rfl⟩
      case rest =>
        obtain ⟨rfl, rfl⟩ := hcut
        clear g1 g2 g3 g4 g5 g6 g7 k1 k2 k3 k4 k5 f1 f2 b1 b2 te h2' c0 c1 c2 c3 c4
        go_wp2_with fail
        go_loopw [3] (fun i wr => ∃ k : Nat, k ≤ a.tg.size ∧ i = .int .i64 (k : Int) ∧ w1 = wr ∧ Hid (nulTo a.tg k = false)) (fun i _ => a.tg.size - (intOf i).toNat)
        case atStart => exact ⟨0, by omega, rfl, rfl, Lib.hid rfl⟩
        case round =>
          obtain ⟨k, hk, rfl, rfl, HK⟩ := hrel
          by_cases hlt : k < a.tg.size
          · have HS := Lib.hid (nulTo_step a.tg k hlt)
            have HZ2 : Hid ((byteAt a.tg k).toNat = 0 → chkA a = 1) := Lib.hid (fun h => E2.out (HC3.out.trans (nulTo_some a.tg k hlt h)))
            have hbk := byteAt_get a.tg k hlt
            have hki : (k : Int) < (a.tg.size : Int) := by omega
            clear E2 E3 E4 HC3
            by_cases h0 : (byteAt a.tg k).toNat = 0
            · have E := Lib.hid (HZ2.out h0)
              have hb0 : (((byteAt a.tg k).toNat : Int) == 0) = true := by rw [beq_iff_eq]; omega
              clear h0 HS HZ2
              go_wp2
              go_ret
              exact ⟨by rw [E.out]; rfl, HB0.out.2⟩
            · have hb0 : (((byteAt a.tg k).toNat : Int) == 0) = false := by rw [beq_eq_false_iff_ne]; omega
              have HN : Hid (nulTo a.tg (k + 1) = false) := Lib.hid (by rw [HS.out, HK.out, beq_eq_false_iff_ne.2 h0]; rfl)
              clear h0 HS HZ2
              go_wp2
              go_roundw
              case rel => exact ⟨k + 1, by omega, by go_num, trivial, HN⟩
              case measure => simp [intOf]; omega
          · obtain rfl : k = a.tg.size := by omega
            have HC4 : Hid (chk2 a = false) := Lib.hid (by rw [HC3.out, ← nulTo_all]; exact HK.out)
            have E4' := Lib.hid (E4.out HC4.out)
            clear E2 E4 HC3 HC4 HK
            have HBz : Hid (Blk w1 w.heap.size 31 (attV a A n c) ∧ Below w.heap.size w w1) := HB0
            go_upto_region 10 with fail
            clear c5 c6
            go_wp2_with fail
            go_loopw [4] (fun i wq => ∃ k : Nat, k ≤ n ∧ i = .int .i64 (k : Int) ∧ Hid (chkX ByteArray.empty a.xs = chkX (lastF a.xs k) (a.xs.drop k)) ∧ Hid (Blk wq w.heap.size 31 (attV a A n c) ∧ Below w.heap.size w wq)) (fun i _ => n - (intOf i).toNat)
            case atStart => exact ⟨0, by omega, rfl, Lib.hid (by rw [List.drop_zero]; rfl), HBz⟩
            case round =>
              obtain ⟨k, hk, rfl, HC, HK⟩ := hrel
              have c6 : wr.cell? ⟨w.heap.size, 6, none⟩ = some (.slice A n c) := HK.out.1.cell 6
              by_cases hlt : k < n
              · obtain ⟨ad, hkl, rfl, hbl, x0, x1⟩ := xt_cells HR.out k hlt
                have HS := Lib.hid (chkX_step (lastF a.xs k) a.xs k hkl)
                have HLS := Lib.hid (lastF_succ a.xs k hkl)
                obtain ⟨z1, z2⟩ := HZ.out _ (List.getElem_mem hkl)
                have y0 : wr.cell? (ad.add (k * 2)) = some (.string (a.xs[k]).1) := by rw [HK.out.2.cell (by rw [block_of_add]; omega)]; exact x0
                have y1 : wr.cell? ⟨(ad.add (k * 2)).block, (ad.add (k * 2)).off + 1, none⟩ = some (.string (a.xs[k]).2) := by
                  show wr.cell? ((ad.add (k * 2)).add 1) = _
                  rw [HK.out.2.cell (by rw [block_of_add, block_of_add]; omega)]; exact x1
                obtain ⟨x, hx⟩ : ∃ x, a.xs[k] = x := ⟨_, rfl⟩
                have HX := Lib.hid hx
                rw [hx] at HS HLS z1 z2 y0 y1
                clear hx x0 x1
                have hki : (k : Int) < (n : Int) := by omega
                have hHS : Hid (chkX ByteArray.empty a.xs = (decide (nmE x.1 = 0) && decide (x.2.size ≤ 4096) && Op.bytesLess (lastF a.xs k).toList x.1.toList && chkX x.1 (a.xs.drop (k + 1)))) := Lib.hid (HC.out.trans HS.out)
                clear HS HC
                go_upto_region 14 with fail
                have BN : Hid (Blk (wr.alloc (.cells #[.string x.1, .string x.2] 60)).drew wr.heap.size 60 #[.string x.1, .string x.2] ∧ Blk (wr.alloc (.cells #[.string x.1, .string x.2] 60)).drew w.heap.size 31 (attV a (some ad) n c) ∧ Below w.heap.size w (wr.alloc (.cells #[.string x.1, .string x.2] 60)).drew) := Lib.hid ⟨(Blk.new _ _ _).drew, (HK.out.1.alloc _).drew, (HK.out.2.alloc HK.out.2.size _).drew⟩
                clear y0 y1 c6
                generalize wr.alloc (.cells #[.string x.1, .string x.2] 60) = w3 at BN ⊢
                have NC := Lib.hid (rncheck_any x.1 w3.drew (Utf8Tabs_below HT.out BN.out.2.2) z1)
                have hz4 : (0 : Int) ≤ (k : Int) := by omega
                by_cases hn0 : nmE x.1 = 0
                · rw [hn0] at NC hHS
                  by_cases hs : x.2.size ≤ 4096
                  · have q1 : decide (4096 < (x.2.size : Int)) = false := by rw [decide_eq_false_iff_not]; omega
                    rw [decide_eq_true hs] at hHS
                    by_cases hk0 : k = 0
                    · obtain rfl := hk0
                      have HE : Hid (chkX ByteArray.empty a.xs = chkX (lastF a.xs (0 + 1)) (a.xs.drop (0 + 1))) := Lib.hid (by
                        rw [hHS.out, HLS.out, show lastF a.xs 0 = ByteArray.empty from rfl, less_empty x.1 hn0]; rfl)
                      have KS : Hid (∀ W, Below w3.drew.heap.size w3.drew W → W.cell? ⟨wr.heap.size, 0, none⟩ = some (.string x.1) ∧ W.cell? ⟨wr.heap.size, 1, none⟩ = some (.string x.2) ∧ W.cell? ⟨w.heap.size, 6, none⟩ = some (.slice (some ad) n c)) := Lib.hid (fun W hW => by
                        refine ⟨?_, ?_, ?_⟩
                        · exact (BN.out.1.below hW BN.out.1.lt).cell 0
                        · exact (BN.out.1.below hW BN.out.1.lt).cell 1
                        · exact (BN.out.2.1.below hW BN.out.2.1.lt).cell 6)
                      have SA := KS.out _ (Below.refl _ _)
                      clear hHS hn0
                      refine wp_region_held_drew (S := fun w' => w'.cell? ⟨wr.heap.size, 0, none⟩ = some (.string x.1) ∧ w'.cell? ⟨wr.heap.size, 1, none⟩ = some (.string x.2) ∧ w'.cell? ⟨w.heap.size, 6, none⟩ = some (.slice (some ad) n c)) (by kernel_rfl) (by first | exact SA | exact SB) (fun hHeld => ?_)
                      refine wpAnyH_take (i := 0) (oi := { dst := some 83, op := .fieldAddr 60 (.tmp 5) 0, type := 0, pos := "ref.go:43", after := #[], guard := none }) (v := _) rfl (by as_aux_lemma => kernel_rfl) (by as_aux_lemma => kernel_rfl) (by as_aux_lemma => kernel_rfl) (fun _ _ _ h => h) (Or.inl ⟨by kernel_rfl, by (intro w hSw; (try dsimp only at hSw); go_simp; first | done | with_reducible rfl)⟩) (by assumption) ?_
                      (try simp only [List.getElem_toArray, List.getElem_cons_succ, List.getElem_cons_zero, Act.put, List.setIfInBounds_toArray, List.set_cons_zero, List.set_cons_succ])
                      refine wpAnyH_take (i := 1) (oi := { dst := some 84, op := .load 9 (.tmp 83), type := 9, pos := "ref.go:43", after := #[{ on := 0, ground := .data }], guard := none }) (v := _) rfl (by as_aux_lemma => kernel_rfl) (by as_aux_lemma => kernel_rfl) (by as_aux_lemma => kernel_rfl) (fun _ _ _ h => h) (Or.inl ⟨by kernel_rfl, by (intro w hSw; (try dsimp only at hSw); go_simp; first | done | with_reducible rfl)⟩) (by assumption) ?_
                      (try simp only [List.getElem_toArray, List.getElem_cons_succ, List.getElem_cons_zero, Act.put, List.setIfInBounds_toArray, List.set_cons_zero, List.set_cons_succ])
                      refine wpAnyH_ready (rs := [2]) (by as_aux_lemma => kernel_rfl) (by simp) (AllReadyH.cons rfl (fun K hK => ?_) AllReadyH.nil)
                      try simp only [List.getElem_toArray, List.getElem_cons_succ, List.getElem_cons_zero]
                      go_simp
                      go_at_call 48
                      refine NC.out.mono ?_
                      rintro e w4 ⟨rfl, hb4⟩
                      have HK4 : Hid (Blk w4 w.heap.size 31 (attV a (some ad) n c) ∧ Below w.heap.size w w4) := Lib.hid ⟨BN.out.2.1.below hb4 BN.out.2.1.lt, BN.out.2.2.trans (hb4.mono BN.out.2.2.size)⟩
                      have SB := KS.out _ hb4
                      clear hb4
                      go_simp
                      refine hK.out _ _ (by first | exact SA | exact SB) (fun hHeld => ?_)
                      clear hK K
                      (try simp only [List.getElem_toArray, List.getElem_cons_succ, List.getElem_cons_zero, Act.put, List.setIfInBounds_toArray, List.set_cons_zero, List.set_cons_succ])
                      refine wpAnyH_take (i := 3) (oi := { dst := some 86, op := .binOp BinOp.neq 32 (.tmp 85) (.const (Value.int IntKind.i64 0)) 32, type := 4, pos := "ref.go:43", after := #[{ on := 2, ground := .data }], guard := none }) (v := _) rfl (by as_aux_lemma => kernel_rfl) (by as_aux_lemma => kernel_rfl) (by as_aux_lemma => kernel_rfl) (fun _ _ _ h => h) (Or.inl ⟨by kernel_rfl, by (intro w hSw; (try dsimp only at hSw); go_simp; first | done | with_reducible rfl)⟩) (by assumption) ?_
                      (try simp only [List.getElem_toArray, List.getElem_cons_succ, List.getElem_cons_zero, Act.put, List.setIfInBounds_toArray, List.set_cons_zero, List.set_cons_succ])
                      refine wpAnyH_take (i := 4) (oi := { dst := some 87, op := .move (.tmp 86), type := 4, pos := "ref.go:43", after := #[{ on := 3, ground := .data }, { on := 2, ground := .chain }], guard := none }) (v := _) rfl (by as_aux_lemma => kernel_rfl) (by as_aux_lemma => kernel_rfl) (by as_aux_lemma => kernel_rfl) (fun _ _ _ h => h) (Or.inl ⟨by kernel_rfl, by (intro w hSw; (try dsimp only at hSw); go_simp; first | done | with_reducible rfl)⟩) (by assumption) ?_
                      (try simp only [List.getElem_toArray, List.getElem_cons_succ, List.getElem_cons_zero, Act.put, List.setIfInBounds_toArray, List.set_cons_zero, List.set_cons_succ])
                      refine wpAnyH_take (i := 5) (oi := { dst := some 88, op := .fieldAddr 60 (.tmp 5) 1, type := 0, pos := "ref.go:43", after := #[{ on := 4, ground := .guard }], guard := some (4, false) }) (v := _) rfl (by as_aux_lemma => kernel_rfl) (by as_aux_lemma => kernel_rfl) (by as_aux_lemma => kernel_rfl) (fun _ _ _ h => h) (Or.inl ⟨by kernel_rfl, by (intro w hSw; (try dsimp only at hSw); go_simp; first | done | with_reducible rfl)⟩) (by assumption) ?_
                      (try simp only [List.getElem_toArray, List.getElem_cons_succ, List.getElem_cons_zero, Act.put, List.setIfInBounds_toArray, List.set_cons_zero, List.set_cons_succ])
                      refine wpAnyH_take (i := 6) (oi := { dst := some 89, op := .load 9 (.tmp 88), type := 9, pos := "ref.go:43", after := #[{ on := 5, ground := .data }, { on := 4, ground := .guard }], guard := some (4, false) }) (v := _) rfl (by as_aux_lemma => kernel_rfl) (by as_aux_lemma => kernel_rfl) (by as_aux_lemma => kernel_rfl) (fun _ _ _ h => h) (Or.inl ⟨by kernel_rfl, by (intro w hSw; (try dsimp only at hSw); go_simp; first | done | with_reducible rfl)⟩) (by assumption) ?_
                      (try simp only [List.getElem_toArray, List.getElem_cons_succ, List.getElem_cons_zero, Act.put, List.setIfInBounds_toArray, List.set_cons_zero, List.set_cons_succ])
                      refine wpAnyH_take (i := 7) (oi := { dst := some 90, op := .call { callee := Callee.builtin Builtin.len, args := #[.tmp 89], argTypes := #[9] }, type := 3, pos := "ref.go:43", after := #[{ on := 6, ground := .data }, { on := 4, ground := .guard }], guard := some (4, false) }) (v := _) rfl (by as_aux_lemma => kernel_rfl) (by as_aux_lemma => kernel_rfl) (by as_aux_lemma => kernel_rfl) (fun _ _ _ h => h) (Or.inl ⟨by kernel_rfl, by (intro w hSw; (try dsimp only at hSw); go_simp; first | done | with_reducible rfl)⟩) (by assumption) ?_
                      (try simp only [List.getElem_toArray, List.getElem_cons_succ, List.getElem_cons_zero, Act.put, List.setIfInBounds_toArray, List.set_cons_zero, List.set_cons_succ])
                      refine wpAnyH_take (i := 8) (oi := { dst := some 91, op := .binOp BinOp.gtr 3 (.tmp 90) (.const (Value.int IntKind.i64 4096)) 3, type := 4, pos := "ref.go:43", after := #[{ on := 7, ground := .data }, { on := 4, ground := .guard }], guard := some (4, false) }) (v := _) rfl (by as_aux_lemma => kernel_rfl) (by as_aux_lemma => kernel_rfl) (by as_aux_lemma => kernel_rfl) (fun _ _ _ h => h) (Or.inl ⟨by kernel_rfl, by (intro w hSw; (try dsimp only at hSw); go_simp; first | done | with_reducible rfl)⟩) (by assumption) ?_
                      (try simp only [List.getElem_toArray, List.getElem_cons_succ, List.getElem_cons_zero, Act.put, List.setIfInBounds_toArray, List.set_cons_zero, List.set_cons_succ])
                      refine wpAnyH_take (i := 9) (oi := { dst := some 92, op := .pick (.tmp 87) (.const (Value.bool true)) (.tmp 91), type := 4, pos := "ref.go:43", after := #[{ on := 4, ground := .data }, { on := 8, ground := .data }], guard := none }) (v := _) rfl (by as_aux_lemma => kernel_rfl) (by as_aux_lemma => kernel_rfl) (by as_aux_lemma => kernel_rfl) (fun _ _ _ h => h) (Or.inl ⟨by kernel_rfl, by (intro w hSw; (try dsimp only at hSw); go_simp; first | done | with_reducible rfl)⟩) (by assumption) ?_
                      (try simp only [List.getElem_toArray, List.getElem_cons_succ, List.getElem_cons_zero, Act.put, List.setIfInBounds_toArray, List.set_cons_zero, List.set_cons_succ])
                      refine wpAnyH_take (i := 10) (oi := { dst := some 93, op := .move (.tmp 92), type := 4, pos := "ref.go:43", after := #[{ on := 9, ground := .data }, { on := 4, ground := .chain }], guard := none }) (v := _) rfl (by as_aux_lemma => kernel_rfl) (by as_aux_lemma => kernel_rfl) (by as_aux_lemma => kernel_rfl) (fun _ _ _ h => h) (Or.inl ⟨by kernel_rfl, by (intro w hSw; (try dsimp only at hSw); go_simp; first | done | with_reducible rfl)⟩) (by assumption) ?_
                      (try simp only [List.getElem_toArray, List.getElem_cons_succ, List.getElem_cons_zero, Act.put, List.setIfInBounds_toArray, List.set_cons_zero, List.set_cons_succ])
                      refine wpAnyH_take (i := 11) (oi := { dst := some 94, op := .move (.tmp 4), type := 3, pos := "ref.go:43", after := #[{ on := 10, ground := .guard }], guard := some (10, false) }) (v := _) rfl (by as_aux_lemma => kernel_rfl) (by as_aux_lemma => kernel_rfl) (by as_aux_lemma => kernel_rfl) (fun _ _ _ h => h) (Or.inl ⟨by kernel_rfl, by (intro w hSw; (try dsimp only at hSw); go_simp; first | done | with_reducible rfl)⟩) (by assumption) ?_
                      (try simp only [List.getElem_toArray, List.getElem_cons_succ, List.getElem_cons_zero, Act.put, List.setIfInBounds_toArray, List.set_cons_zero, List.set_cons_succ])
                      refine wpAnyH_take (i := 12) (oi := { dst := some 95, op := .binOp BinOp.gtr 3 (.tmp 94) (.const (Value.int IntKind.i64 0)) 3, type := 4, pos := "ref.go:43", after := #[{ on := 11, ground := .data }, { on := 10, ground := .guard }], guard := some (10, false) }) (v := _) rfl (by as_aux_lemma => kernel_rfl) (by as_aux_lemma => kernel_rfl) (by as_aux_lemma => kernel_rfl) (fun _ _ _ h => h) (Or.inl ⟨by kernel_rfl, by (intro w hSw; (try dsimp only at hSw); go_simp; first | done | with_reducible rfl)⟩) (by assumption) ?_
                      (try simp only [List.getElem_toArray, List.getElem_cons_succ, List.getElem_cons_zero, Act.put, List.setIfInBounds_toArray, List.set_cons_zero, List.set_cons_succ])
                      refine wpAnyH_take (i := 13) (oi := { dst := some 96, op := .move (.tmp 95), type := 4, pos := "ref.go:43", after := #[{ on := 12, ground := .data }, { on := 10, ground := .chain }, { on := 10, ground := .guard }], guard := some (10, false) }) (v := _) rfl (by as_aux_lemma => kernel_rfl) (by as_aux_lemma => kernel_rfl) (by as_aux_lemma => kernel_rfl) (fun _ _ _ h => h) (Or.inl ⟨by kernel_rfl, by (intro w hSw; (try dsimp only at hSw); go_simp; first | done | with_reducible rfl)⟩) (by assumption) ?_
                      (try simp only [List.getElem_toArray, List.getElem_cons_succ, List.getElem_cons_zero, Act.put, List.setIfInBounds_toArray, List.set_cons_zero, List.set_cons_succ])
                      as_aux_lemma =>
                        refine wpAnyH_take (i := 14) (oi := _) (v := undef) rfl (by as_aux_lemma => kernel_rfl) (by as_aux_lemma => kernel_rfl) (by as_aux_lemma => kernel_rfl) (fun _ _ _ h => h) (Or.inr ⟨by kernel_rfl, rfl⟩) (by assumption) ?_
                        (try simp only [List.getElem_toArray, List.getElem_cons_succ, List.getElem_cons_zero, Act.put, List.setIfInBounds_toArray, List.set_cons_zero, List.set_cons_succ])
                        refine wpAnyH_take (i := 15) (oi := _) (v := undef) rfl (by as_aux_lemma => kernel_rfl) (by as_aux_lemma => kernel_rfl) (by as_aux_lemma => kernel_rfl) (fun _ _ _ h => h) (Or.inr ⟨by kernel_rfl, rfl⟩) (by assumption) ?_
                        (try simp only [List.getElem_toArray, List.getElem_cons_succ, List.getElem_cons_zero, Act.put, List.setIfInBounds_toArray, List.set_cons_zero, List.set_cons_succ])
                        refine wpAnyH_take (i := 16) (oi := _) (v := undef) rfl (by as_aux_lemma => kernel_rfl) (by as_aux_lemma => kernel_rfl) (by as_aux_lemma => kernel_rfl) (fun _ _ _ h => h) (Or.inr ⟨by kernel_rfl, rfl⟩) (by assumption) ?_
                        (try simp only [List.getElem_toArray, List.getElem_cons_succ, List.getElem_cons_zero, Act.put, List.setIfInBounds_toArray, List.set_cons_zero, List.set_cons_succ])
                        refine wpAnyH_take (i := 17) (oi := _) (v := undef) rfl (by as_aux_lemma => kernel_rfl) (by as_aux_lemma => kernel_rfl) (by as_aux_lemma => kernel_rfl) (fun _ _ _ h => h) (Or.inr ⟨by kernel_rfl, rfl⟩) (by assumption) ?_
                        (try simp only [List.getElem_toArray, List.getElem_cons_succ, List.getElem_cons_zero, Act.put, List.setIfInBounds_toArray, List.set_cons_zero, List.set_cons_succ])
                        refine wpAnyH_take (i := 18) (oi := _) (v := undef) rfl (by as_aux_lemma => kernel_rfl) (by as_aux_lemma => kernel_rfl) (by as_aux_lemma => kernel_rfl) (fun _ _ _ h => h) (Or.inr ⟨by kernel_rfl, rfl⟩) (by assumption) ?_
                        (try simp only [List.getElem_toArray, List.getElem_cons_succ, List.getElem_cons_zero, Act.put, List.setIfInBounds_toArray, List.set_cons_zero, List.set_cons_succ])
                        refine wpAnyH_take (i := 19) (oi := _) (v := undef) rfl (by as_aux_lemma => kernel_rfl) (by as_aux_lemma => kernel_rfl) (by as_aux_lemma => kernel_rfl) (fun _ _ _ h => h) (Or.inr ⟨by kernel_rfl, rfl⟩) (by assumption) ?_
                        (try simp only [List.getElem_toArray, List.getElem_cons_succ, List.getElem_cons_zero, Act.put, List.setIfInBounds_toArray, List.set_cons_zero, List.set_cons_succ])
                        refine wpAnyH_take (i := 20) (oi := _) (v := undef) rfl (by as_aux_lemma => kernel_rfl) (by as_aux_lemma => kernel_rfl) (by as_aux_lemma => kernel_rfl) (fun _ _ _ h => h) (Or.inr ⟨by kernel_rfl, rfl⟩) (by assumption) ?_
                        (try simp only [List.getElem_toArray, List.getElem_cons_succ, List.getElem_cons_zero, Act.put, List.setIfInBounds_toArray, List.set_cons_zero, List.set_cons_succ])
                        refine wpAnyH_take (i := 21) (oi := _) (v := undef) rfl (by as_aux_lemma => kernel_rfl) (by as_aux_lemma => kernel_rfl) (by as_aux_lemma => kernel_rfl) (fun _ _ _ h => h) (Or.inr ⟨by kernel_rfl, rfl⟩) (by assumption) ?_
                        (try simp only [List.getElem_toArray, List.getElem_cons_succ, List.getElem_cons_zero, Act.put, List.setIfInBounds_toArray, List.set_cons_zero, List.set_cons_succ])
                        refine wpAnyH_take (i := 22) (oi := _) (v := undef) rfl (by as_aux_lemma => kernel_rfl) (by as_aux_lemma => kernel_rfl) (by as_aux_lemma => kernel_rfl) (fun _ _ _ h => h) (Or.inr ⟨by kernel_rfl, rfl⟩) (by assumption) ?_
                        (try simp only [List.getElem_toArray, List.getElem_cons_succ, List.getElem_cons_zero, Act.put, List.setIfInBounds_toArray, List.set_cons_zero, List.set_cons_succ])
                        refine wpAnyH_take (i := 23) (oi := _) (v := undef) rfl (by as_aux_lemma => kernel_rfl) (by as_aux_lemma => kernel_rfl) (by as_aux_lemma => kernel_rfl) (fun _ _ _ h => h) (Or.inr ⟨by kernel_rfl, rfl⟩) (by assumption) ?_
                        (try simp only [List.getElem_toArray, List.getElem_cons_succ, List.getElem_cons_zero, Act.put, List.setIfInBounds_toArray, List.set_cons_zero, List.set_cons_succ])
                        refine wpAnyH_take (i := 24) (oi := { dst := some 107, op := .pick (.tmp 96) (.tmp 106) (.const (Value.bool false)), type := 4, pos := "ref.go:43", after := #[{ on := 13, ground := .data }, { on := 23, ground := .data }, { on := 10, ground := .guard }], guard := some (10, false) }) (v := _) rfl (by as_aux_lemma => kernel_rfl) (by as_aux_lemma => kernel_rfl) (by as_aux_lemma => kernel_rfl) (fun _ _ _ h => h) (Or.inl ⟨by kernel_rfl, by (intro w hSw; (try dsimp only at hSw); go_simp; first | done | with_reducible rfl)⟩) (by assumption) ?_
                        (try simp only [List.getElem_toArray, List.getElem_cons_succ, List.getElem_cons_zero, Act.put, List.setIfInBounds_toArray, List.set_cons_zero, List.set_cons_succ])
                        refine wpAnyH_take (i := 25) (oi := { dst := some 108, op := .pick (.tmp 93) (.const (Value.bool true)) (.tmp 107), type := 4, pos := "ref.go:43", after := #[{ on := 10, ground := .data }, { on := 24, ground := .data }], guard := none }) (v := _) rfl (by as_aux_lemma => kernel_rfl) (by as_aux_lemma => kernel_rfl) (by as_aux_lemma => kernel_rfl) (fun _ _ _ h => h) (Or.inl ⟨by kernel_rfl, by (intro w hSw; (try dsimp only at hSw); go_simp; first | done | with_reducible rfl)⟩) (by assumption) ?_
                        (try simp only [List.getElem_toArray, List.getElem_cons_succ, List.getElem_cons_zero, Act.put, List.setIfInBounds_toArray, List.set_cons_zero, List.set_cons_succ])
                        refine wpAnyH_done (by as_aux_lemma => kernel_rfl) ?_ _
                        clear SA SB
                        go_wp2
                        go_roundw
                        case rel => exact ⟨0 + 1, by omega, by go_num, HE, HK4⟩
                        case measure => simp [intOf]; omega
                    · obtain ⟨j, hj⟩ : ∃ j, k = j + 1 := ⟨k - 1, by omega⟩
                      have HJ := Lib.hid hj
                      obtain ⟨ad', hjl, had, _, p0, _⟩ := xt_cells HR.out j (by omega)
                      injection had with had
                      subst had
                      have HLJ : Hid (lastF a.xs k = (a.xs[j]).1) := Lib.hid (by rw [hj]; exact lastF_succ a.xs j hjl)
                      have hj0 : (0 : Int) ≤ (j : Int) := by omega
                      have hjn : (j : Int) < (n : Int) := by omega
                      have hjk : IntKind.i64.wrap ((k : Int) - 1) = (j : Int) := by rw [IntWalk.i64_in _ (by omega)]; omega
                      have hkp : decide (0 < (k : Int)) = true := by rw [decide_eq_true_eq]; omega
                      have hkq : 0 < k := by omega
                      have KS : Hid (∀ W, Below w3.drew.heap.size w3.drew W → W.cell? ⟨wr.heap.size, 0, none⟩ = some (.string x.1) ∧ W.cell? ⟨wr.heap.size, 1, none⟩ = some (.string x.2) ∧ W.cell? ⟨w.heap.size, 6, none⟩ = some (.slice (some ad) n c) ∧ W.cell? (ad.add (j * 2)) = some (.string (a.xs[j]).1)) := Lib.hid (fun W hW => by
                        refine ⟨?_, ?_, ?_, ?_⟩
                        · exact (BN.out.1.below hW BN.out.1.lt).cell 0
                        · exact (BN.out.1.below hW BN.out.1.lt).cell 1
                        · exact (BN.out.2.1.below hW BN.out.2.1.lt).cell 6
                        · have hbb := BN.out.2.2.trans (hW.mono BN.out.2.2.size)
                          rw [hbb.cell (by rw [block_of_add]; omega)]; exact p0)
                      generalize a.xs[j] = y at KS HLJ p0
                      clear p0 hj hk0
                      have SA := KS.out _ (Below.refl _ _)
                      cases hb : Op.bytesLess y.1.toList x.1.toList with
                      | false =>
                        have E : Hid (chkA a = 1) := Lib.hid (E3.out (by rw [hHS.out, HLJ.out, hb]; rfl))
                        clear hHS hn0
                        refine wp_region_held_drew (S := fun w' => w'.cell? ⟨wr.heap.size, 0, none⟩ = some (.string x.1) ∧ w'.cell? ⟨wr.heap.size, 1, none⟩ = some (.string x.2) ∧ w'.cell? ⟨w.heap.size, 6, none⟩ = some (.slice (some ad) n c) ∧ w'.cell? (ad.add (j * 2)) = some (.string y.1)) (by kernel_rfl) (by first | exact SA | exact SB) (fun hHeld => ?_)
                        refine wpAnyH_take (i := 0) (oi := { dst := some 83, op := .fieldAddr 60 (.tmp 5) 0, type := 0, pos := "ref.go:43", after := #[], guard := none }) (v := _) rfl (by as_aux_lemma => kernel_rfl) (by as_aux_lemma => kernel_rfl) (by as_aux_lemma => kernel_rfl) (fun _ _ _ h => h) (Or.inl ⟨by kernel_rfl, by (intro w hSw; (try dsimp only at hSw); go_simp; first | done | with_reducible rfl)⟩) (by assumption) ?_
                        (try simp only [List.getElem_toArray, List.getElem_cons_succ, List.getElem_cons_zero, Act.put, List.setIfInBounds_toArray, List.set_cons_zero, List.set_cons_succ])
                        refine wpAnyH_take (i := 1) (oi := { dst := some 84, op := .load 9 (.tmp 83), type := 9, pos := "ref.go:43", after := #[{ on := 0, ground := .data }], guard := none }) (v := _) rfl (by as_aux_lemma => kernel_rfl) (by as_aux_lemma => kernel_rfl) (by as_aux_lemma => kernel_rfl) (fun _ _ _ h => h) (Or.inl ⟨by kernel_rfl, by (intro w hSw; (try dsimp only at hSw); go_simp; first | done | with_reducible rfl)⟩) (by assumption) ?_
                        (try simp only [List.getElem_toArray, List.getElem_cons_succ, List.getElem_cons_zero, Act.put, List.setIfInBounds_toArray, List.set_cons_zero, List.set_cons_succ])
                        refine wpAnyH_ready (rs := [2]) (by as_aux_lemma => kernel_rfl) (by simp) (AllReadyH.cons rfl (fun K hK => ?_) AllReadyH.nil)
                        try simp only [List.getElem_toArray, List.getElem_cons_succ, List.getElem_cons_zero]
                        go_simp
                        go_at_call 48
                        refine NC.out.mono ?_
                        rintro e w4 ⟨rfl, hb4⟩
                        have HK4 : Hid (Blk w4 w.heap.size 31 (attV a (some ad) n c) ∧ Below w.heap.size w w4) := Lib.hid ⟨BN.out.2.1.below hb4 BN.out.2.1.lt, BN.out.2.2.trans (hb4.mono BN.out.2.2.size)⟩
                        have SB := KS.out _ hb4
                        clear hb4
                        go_simp
                        refine hK.out _ _ (by first | exact SA | exact SB) (fun hHeld => ?_)
                        clear hK K
                        (try simp only [List.getElem_toArray, List.getElem_cons_succ, List.getElem_cons_zero, Act.put, List.setIfInBounds_toArray, List.set_cons_zero, List.set_cons_succ])
                        refine wpAnyH_take (i := 3) (oi := { dst := some 86, op := .binOp BinOp.neq 32 (.tmp 85) (.const (Value.int IntKind.i64 0)) 32, type := 4, pos := "ref.go:43", after := #[{ on := 2, ground := .data }], guard := none }) (v := _) rfl (by as_aux_lemma => kernel_rfl) (by as_aux_lemma => kernel_rfl) (by as_aux_lemma => kernel_rfl) (fun _ _ _ h => h) (Or.inl ⟨by kernel_rfl, by (intro w hSw; (try dsimp only at hSw); go_simp; first | done | with_reducible rfl)⟩) (by assumption) ?_
                        (try simp only [List.getElem_toArray, List.getElem_cons_succ, List.getElem_cons_zero, Act.put, List.setIfInBounds_toArray, List.set_cons_zero, List.set_cons_succ])
                        refine wpAnyH_take (i := 4) (oi := { dst := some 87, op := .move (.tmp 86), type := 4, pos := "ref.go:43", after := #[{ on := 3, ground := .data }, { on := 2, ground := .chain }], guard := none }) (v := _) rfl (by as_aux_lemma => kernel_rfl) (by as_aux_lemma => kernel_rfl) (by as_aux_lemma => kernel_rfl) (fun _ _ _ h => h) (Or.inl ⟨by kernel_rfl, by (intro w hSw; (try dsimp only at hSw); go_simp; first | done | with_reducible rfl)⟩) (by assumption) ?_
                        (try simp only [List.getElem_toArray, List.getElem_cons_succ, List.getElem_cons_zero, Act.put, List.setIfInBounds_toArray, List.set_cons_zero, List.set_cons_succ])
                        refine wpAnyH_take (i := 5) (oi := { dst := some 88, op := .fieldAddr 60 (.tmp 5) 1, type := 0, pos := "ref.go:43", after := #[{ on := 4, ground := .guard }], guard := some (4, false) }) (v := _) rfl (by as_aux_lemma => kernel_rfl) (by as_aux_lemma => kernel_rfl) (by as_aux_lemma => kernel_rfl) (fun _ _ _ h => h) (Or.inl ⟨by kernel_rfl, by (intro w hSw; (try dsimp only at hSw); go_simp; first | done | with_reducible rfl)⟩) (by assumption) ?_
                        (try simp only [List.getElem_toArray, List.getElem_cons_succ, List.getElem_cons_zero, Act.put, List.setIfInBounds_toArray, List.set_cons_zero, List.set_cons_succ])
                        refine wpAnyH_take (i := 6) (oi := { dst := some 89, op := .load 9 (.tmp 88), type := 9, pos := "ref.go:43", after := #[{ on := 5, ground := .data }, { on := 4, ground := .guard }], guard := some (4, false) }) (v := _) rfl (by as_aux_lemma => kernel_rfl) (by as_aux_lemma => kernel_rfl) (by as_aux_lemma => kernel_rfl) (fun _ _ _ h => h) (Or.inl ⟨by kernel_rfl, by (intro w hSw; (try dsimp only at hSw); go_simp; first | done | with_reducible rfl)⟩) (by assumption) ?_
                        (try simp only [List.getElem_toArray, List.getElem_cons_succ, List.getElem_cons_zero, Act.put, List.setIfInBounds_toArray, List.set_cons_zero, List.set_cons_succ])
                        refine wpAnyH_take (i := 7) (oi := { dst := some 90, op := .call { callee := Callee.builtin Builtin.len, args := #[.tmp 89], argTypes := #[9] }, type := 3, pos := "ref.go:43", after := #[{ on := 6, ground := .data }, { on := 4, ground := .guard }], guard := some (4, false) }) (v := _) rfl (by as_aux_lemma => kernel_rfl) (by as_aux_lemma => kernel_rfl) (by as_aux_lemma => kernel_rfl) (fun _ _ _ h => h) (Or.inl ⟨by kernel_rfl, by (intro w hSw; (try dsimp only at hSw); go_simp; first | done | with_reducible rfl)⟩) (by assumption) ?_
                        (try simp only [List.getElem_toArray, List.getElem_cons_succ, List.getElem_cons_zero, Act.put, List.setIfInBounds_toArray, List.set_cons_zero, List.set_cons_succ])
                        refine wpAnyH_take (i := 8) (oi := { dst := some 91, op := .binOp BinOp.gtr 3 (.tmp 90) (.const (Value.int IntKind.i64 4096)) 3, type := 4, pos := "ref.go:43", after := #[{ on := 7, ground := .data }, { on := 4, ground := .guard }], guard := some (4, false) }) (v := _) rfl (by as_aux_lemma => kernel_rfl) (by as_aux_lemma => kernel_rfl) (by as_aux_lemma => kernel_rfl) (fun _ _ _ h => h) (Or.inl ⟨by kernel_rfl, by (intro w hSw; (try dsimp only at hSw); go_simp; first | done | with_reducible rfl)⟩) (by assumption) ?_
                        (try simp only [List.getElem_toArray, List.getElem_cons_succ, List.getElem_cons_zero, Act.put, List.setIfInBounds_toArray, List.set_cons_zero, List.set_cons_succ])
                        refine wpAnyH_take (i := 9) (oi := { dst := some 92, op := .pick (.tmp 87) (.const (Value.bool true)) (.tmp 91), type := 4, pos := "ref.go:43", after := #[{ on := 4, ground := .data }, { on := 8, ground := .data }], guard := none }) (v := _) rfl (by as_aux_lemma => kernel_rfl) (by as_aux_lemma => kernel_rfl) (by as_aux_lemma => kernel_rfl) (fun _ _ _ h => h) (Or.inl ⟨by kernel_rfl, by (intro w hSw; (try dsimp only at hSw); go_simp; first | done | with_reducible rfl)⟩) (by assumption) ?_
                        (try simp only [List.getElem_toArray, List.getElem_cons_succ, List.getElem_cons_zero, Act.put, List.setIfInBounds_toArray, List.set_cons_zero, List.set_cons_succ])
                        refine wpAnyH_take (i := 10) (oi := { dst := some 93, op := .move (.tmp 92), type := 4, pos := "ref.go:43", after := #[{ on := 9, ground := .data }, { on := 4, ground := .chain }], guard := none }) (v := _) rfl (by as_aux_lemma => kernel_rfl) (by as_aux_lemma => kernel_rfl) (by as_aux_lemma => kernel_rfl) (fun _ _ _ h => h) (Or.inl ⟨by kernel_rfl, by (intro w hSw; (try dsimp only at hSw); go_simp; first | done | with_reducible rfl)⟩) (by assumption) ?_
                        (try simp only [List.getElem_toArray, List.getElem_cons_succ, List.getElem_cons_zero, Act.put, List.setIfInBounds_toArray, List.set_cons_zero, List.set_cons_succ])
                        refine wpAnyH_take (i := 11) (oi := { dst := some 94, op := .move (.tmp 4), type := 3, pos := "ref.go:43", after := #[{ on := 10, ground := .guard }], guard := some (10, false) }) (v := _) rfl (by as_aux_lemma => kernel_rfl) (by as_aux_lemma => kernel_rfl) (by as_aux_lemma => kernel_rfl) (fun _ _ _ h => h) (Or.inl ⟨by kernel_rfl, by (intro w hSw; (try dsimp only at hSw); go_simp; first | done | with_reducible rfl)⟩) (by assumption) ?_
                        (try simp only [List.getElem_toArray, List.getElem_cons_succ, List.getElem_cons_zero, Act.put, List.setIfInBounds_toArray, List.set_cons_zero, List.set_cons_succ])
                        refine wpAnyH_take (i := 12) (oi := { dst := some 95, op := .binOp BinOp.gtr 3 (.tmp 94) (.const (Value.int IntKind.i64 0)) 3, type := 4, pos := "ref.go:43", after := #[{ on := 11, ground := .data }, { on := 10, ground := .guard }], guard := some (10, false) }) (v := _) rfl (by as_aux_lemma => kernel_rfl) (by as_aux_lemma => kernel_rfl) (by as_aux_lemma => kernel_rfl) (fun _ _ _ h => h) (Or.inl ⟨by kernel_rfl, by (intro w hSw; (try dsimp only at hSw); go_simp; first | done | with_reducible rfl)⟩) (by assumption) ?_
                        (try simp only [List.getElem_toArray, List.getElem_cons_succ, List.getElem_cons_zero, Act.put, List.setIfInBounds_toArray, List.set_cons_zero, List.set_cons_succ])
                        refine wpAnyH_take (i := 13) (oi := { dst := some 96, op := .move (.tmp 95), type := 4, pos := "ref.go:43", after := #[{ on := 12, ground := .data }, { on := 10, ground := .chain }, { on := 10, ground := .guard }], guard := some (10, false) }) (v := _) rfl (by as_aux_lemma => kernel_rfl) (by as_aux_lemma => kernel_rfl) (by as_aux_lemma => kernel_rfl) (fun _ _ _ h => h) (Or.inl ⟨by kernel_rfl, by (intro w hSw; (try dsimp only at hSw); go_simp; first | done | with_reducible rfl)⟩) (by assumption) ?_
                        (try simp only [List.getElem_toArray, List.getElem_cons_succ, List.getElem_cons_zero, Act.put, List.setIfInBounds_toArray, List.set_cons_zero, List.set_cons_succ])
                        as_aux_lemma =>
                          refine wpAnyH_take (i := 14) (oi := { dst := some 97, op := .fieldAddr 31 (.tmp 1) 6, type := 0, pos := "ref.go:43", after := #[{ on := 13, ground := .guard }], guard := some (13, true) }) (v := _) rfl (by as_aux_lemma => kernel_rfl) (by as_aux_lemma => kernel_rfl) (by as_aux_lemma => kernel_rfl) (fun _ _ _ h => h) (Or.inl ⟨by kernel_rfl, by (intro w hSw; (try dsimp only at hSw); go_simp; first | done | with_reducible rfl)⟩) (by assumption) ?_
                          (try simp only [List.getElem_toArray, List.getElem_cons_succ, List.getElem_cons_zero, Act.put, List.setIfInBounds_toArray, List.set_cons_zero, List.set_cons_succ])
                          refine wpAnyH_take (i := 15) (oi := { dst := some 98, op := .load 29 (.tmp 97), type := 29, pos := "ref.go:43", after := #[{ on := 14, ground := .data }, { on := 13, ground := .guard }], guard := some (13, true) }) (v := _) rfl (by as_aux_lemma => kernel_rfl) (by as_aux_lemma => kernel_rfl) (by as_aux_lemma => kernel_rfl) (fun _ _ _ h => h) (Or.inl ⟨by kernel_rfl, by (intro w hSw; (try dsimp only at hSw); go_simp; first | done | with_reducible rfl)⟩) (by assumption) ?_
                          (try simp only [List.getElem_toArray, List.getElem_cons_succ, List.getElem_cons_zero, Act.put, List.setIfInBounds_toArray, List.set_cons_zero, List.set_cons_succ])
                          refine wpAnyH_take (i := 16) (oi := { dst := some 99, op := .move (.tmp 4), type := 3, pos := "ref.go:43", after := #[{ on := 13, ground := .guard }], guard := some (13, true) }) (v := _) rfl (by as_aux_lemma => kernel_rfl) (by as_aux_lemma => kernel_rfl) (by as_aux_lemma => kernel_rfl) (fun _ _ _ h => h) (Or.inl ⟨by kernel_rfl, by (intro w hSw; (try dsimp only at hSw); go_simp; first | done | with_reducible rfl)⟩) (by assumption) ?_
                          (try simp only [List.getElem_toArray, List.getElem_cons_succ, List.getElem_cons_zero, Act.put, List.setIfInBounds_toArray, List.set_cons_zero, List.set_cons_succ])
                          refine wpAnyH_take (i := 17) (oi := { dst := some 100, op := .binOp BinOp.sub 3 (.tmp 99) (.const (Value.int IntKind.i64 1)) 3, type := 3, pos := "ref.go:43", after := #[{ on := 16, ground := .data }, { on := 13, ground := .guard }], guard := some (13, true) }) (v := _) rfl (by as_aux_lemma => kernel_rfl) (by as_aux_lemma => kernel_rfl) (by as_aux_lemma => kernel_rfl) (fun _ _ _ h => h) (Or.inl ⟨by kernel_rfl, by (intro w hSw; (try dsimp only at hSw); go_simp; first | done | with_reducible rfl)⟩) (by assumption) ?_
                          (try simp only [List.getElem_toArray, List.getElem_cons_succ, List.getElem_cons_zero, Act.put, List.setIfInBounds_toArray, List.set_cons_zero, List.set_cons_succ])
                          refine wpAnyH_take (i := 18) (oi := { dst := some 101, op := .indexAddr 29 (.tmp 98) (.tmp 100), type := 0, pos := "ref.go:43", after := #[{ on := 15, ground := .data }, { on := 17, ground := .data }, { on := 13, ground := .guard }], guard := some (13, true) }) (v := _) rfl (by as_aux_lemma => kernel_rfl) (by as_aux_lemma => kernel_rfl) (by as_aux_lemma => kernel_rfl) (fun _ _ _ h => h) (Or.inl ⟨by kernel_rfl, by (intro w hSw; (try dsimp only at hSw); go_simp; first | done | with_reducible rfl)⟩) (by assumption) ?_
                          (try simp only [List.getElem_toArray, List.getElem_cons_succ, List.getElem_cons_zero, Act.put, List.setIfInBounds_toArray, List.set_cons_zero, List.set_cons_succ])
                          refine wpAnyH_take (i := 19) (oi := { dst := some 102, op := .fieldAddr 60 (.tmp 101) 0, type := 0, pos := "ref.go:43", after := #[{ on := 18, ground := .data }, { on := 13, ground := .guard }], guard := some (13, true) }) (v := _) rfl (by as_aux_lemma => kernel_rfl) (by as_aux_lemma => kernel_rfl) (by as_aux_lemma => kernel_rfl) (fun _ _ _ h => h) (Or.inl ⟨by kernel_rfl, by (intro w hSw; (try dsimp only at hSw); go_simp; first | done | with_reducible rfl)⟩) (by assumption) ?_
                          (try simp only [List.getElem_toArray, List.getElem_cons_succ, List.getElem_cons_zero, Act.put, List.setIfInBounds_toArray, List.set_cons_zero, List.set_cons_succ])
                          refine wpAnyH_take (i := 20) (oi := { dst := some 103, op := .load 9 (.tmp 102), type := 9, pos := "ref.go:43", after := #[{ on := 19, ground := .data }, { on := 13, ground := .guard }], guard := some (13, true) }) (v := _) rfl (by as_aux_lemma => kernel_rfl) (by as_aux_lemma => kernel_rfl) (by as_aux_lemma => kernel_rfl) (fun _ _ _ h => h) (Or.inl ⟨by kernel_rfl, by (intro w hSw; (try dsimp only at hSw); go_simp; first | done | with_reducible rfl)⟩) (by assumption) ?_
                          (try simp only [List.getElem_toArray, List.getElem_cons_succ, List.getElem_cons_zero, Act.put, List.setIfInBounds_toArray, List.set_cons_zero, List.set_cons_succ])
                          refine wpAnyH_take (i := 21) (oi := { dst := some 104, op := .fieldAddr 60 (.tmp 5) 0, type := 0, pos := "ref.go:43", after := #[{ on := 13, ground := .guard }], guard := some (13, true) }) (v := _) rfl (by as_aux_lemma => kernel_rfl) (by as_aux_lemma => kernel_rfl) (by as_aux_lemma => kernel_rfl) (fun _ _ _ h => h) (Or.inl ⟨by kernel_rfl, by (intro w hSw; (try dsimp only at hSw); go_simp; first | done | with_reducible rfl)⟩) (by assumption) ?_
                          (try simp only [List.getElem_toArray, List.getElem_cons_succ, List.getElem_cons_zero, Act.put, List.setIfInBounds_toArray, List.set_cons_zero, List.set_cons_succ])
                          refine wpAnyH_take (i := 22) (oi := { dst := some 105, op := .load 9 (.tmp 104), type := 9, pos := "ref.go:43", after := #[{ on := 21, ground := .data }, { on := 13, ground := .guard }], guard := some (13, true) }) (v := _) rfl (by as_aux_lemma => kernel_rfl) (by as_aux_lemma => kernel_rfl) (by as_aux_lemma => kernel_rfl) (fun _ _ _ h => h) (Or.inl ⟨by kernel_rfl, by (intro w hSw; (try dsimp only at hSw); go_simp; first | done | with_reducible rfl)⟩) (by assumption) ?_
                          (try simp only [List.getElem_toArray, List.getElem_cons_succ, List.getElem_cons_zero, Act.put, List.setIfInBounds_toArray, List.set_cons_zero, List.set_cons_succ])
                          refine wpAnyH_take (i := 23) (oi := { dst := some 106, op := .binOp BinOp.geq 9 (.tmp 103) (.tmp 105) 9, type := 4, pos := "ref.go:43", after := #[{ on := 20, ground := .data }, { on := 22, ground := .data }, { on := 13, ground := .guard }], guard := some (13, true) }) (v := _) rfl (by as_aux_lemma => kernel_rfl) (by as_aux_lemma => kernel_rfl) (by as_aux_lemma => kernel_rfl) (fun _ _ _ h => h) (Or.inl ⟨by kernel_rfl, by (intro w hSw; (try dsimp only at hSw); go_simp; first | done | with_reducible rfl)⟩) (by assumption) ?_
                          (try simp only [List.getElem_toArray, List.getElem_cons_succ, List.getElem_cons_zero, Act.put, List.setIfInBounds_toArray, List.set_cons_zero, List.set_cons_succ])
                          refine wpAnyH_take (i := 24) (oi := { dst := some 107, op := .pick (.tmp 96) (.tmp 106) (.const (Value.bool false)), type := 4, pos := "ref.go:43", after := #[{ on := 13, ground := .data }, { on := 23, ground := .data }, { on := 10, ground := .guard }], guard := some (10, false) }) (v := _) rfl (by as_aux_lemma => kernel_rfl) (by as_aux_lemma => kernel_rfl) (by as_aux_lemma => kernel_rfl) (fun _ _ _ h => h) (Or.inl ⟨by kernel_rfl, by (intro w hSw; (try dsimp only at hSw); go_simp; first | done | with_reducible rfl)⟩) (by assumption) ?_
                          (try simp only [List.getElem_toArray, List.getElem_cons_succ, List.getElem_cons_zero, Act.put, List.setIfInBounds_toArray, List.set_cons_zero, List.set_cons_succ])
                          refine wpAnyH_take (i := 25) (oi := { dst := some 108, op := .pick (.tmp 93) (.const (Value.bool true)) (.tmp 107), type := 4, pos := "ref.go:43", after := #[{ on := 10, ground := .data }, { on := 24, ground := .data }], guard := none }) (v := _) rfl (by as_aux_lemma => kernel_rfl) (by as_aux_lemma => kernel_rfl) (by as_aux_lemma => kernel_rfl) (fun _ _ _ h => h) (Or.inl ⟨by kernel_rfl, by (intro w hSw; (try dsimp only at hSw); go_simp; first | done | with_reducible rfl)⟩) (by assumption) ?_
                          (try simp only [List.getElem_toArray, List.getElem_cons_succ, List.getElem_cons_zero, Act.put, List.setIfInBounds_toArray, List.set_cons_zero, List.set_cons_succ])
                          refine wpAnyH_done (by as_aux_lemma => kernel_rfl) ?_ _
                          clear SA SB
                          go_wp2
                          go_ret
                          exact ⟨by rw [E.out]; rfl, HK4.out.2⟩
                      | true =>
                        have HE : Hid (chkX ByteArray.empty a.xs = chkX (lastF a.xs (k + 1)) (a.xs.drop (k + 1))) := Lib.hid (by
                          rw [hHS.out, HLS.out, HLJ.out, hb]; rfl)
                        clear hHS hn0
                        refine wp_region_held_drew (S := fun w' => w'.cell? ⟨wr.heap.size, 0, none⟩ = some (.string x.1) ∧ w'.cell? ⟨wr.heap.size, 1, none⟩ = some (.string x.2) ∧ w'.cell? ⟨w.heap.size, 6, none⟩ = some (.slice (some ad) n c) ∧ w'.cell? (ad.add (j * 2)) = some (.string y.1)) (by kernel_rfl) (by first | exact SA | exact SB) (fun hHeld => ?_)
                        refine wpAnyH_take (i := 0) (oi := { dst := some 83, op := .fieldAddr 60 (.tmp 5) 0, type := 0, pos := "ref.go:43", after := #[], guard := none }) (v := _) rfl (by as_aux_lemma => kernel_rfl) (by as_aux_lemma => kernel_rfl) (by as_aux_lemma => kernel_rfl) (fun _ _ _ h => h) (Or.inl ⟨by kernel_rfl, by (intro w hSw; (try dsimp only at hSw); go_simp; first | done | with_reducible rfl)⟩) (by assumption) ?_
                        (try simp only [List.getElem_toArray, List.getElem_cons_succ, List.getElem_cons_zero, Act.put, List.setIfInBounds_toArray, List.set_cons_zero, List.set_cons_succ])
                        refine wpAnyH_take (i := 1) (oi := { dst := some 84, op := .load 9 (.tmp 83), type := 9, pos := "ref.go:43", after := #[{ on := 0, ground := .data }], guard := none }) (v := _) rfl (by as_aux_lemma => kernel_rfl) (by as_aux_lemma => kernel_rfl) (by as_aux_lemma => kernel_rfl) (fun _ _ _ h => h) (Or.inl ⟨by kernel_rfl, by (intro w hSw; (try dsimp only at hSw); go_simp; first | done | with_reducible rfl)⟩) (by assumption) ?_
                        (try simp only [List.getElem_toArray, List.getElem_cons_succ, List.getElem_cons_zero, Act.put, List.setIfInBounds_toArray, List.set_cons_zero, List.set_cons_succ])
                        refine wpAnyH_ready (rs := [2]) (by as_aux_lemma => kernel_rfl) (by simp) (AllReadyH.cons rfl (fun K hK => ?_) AllReadyH.nil)
                        try simp only [List.getElem_toArray, List.getElem_cons_succ, List.getElem_cons_zero]
                        go_simp
                        go_at_call 48
                        refine NC.out.mono ?_
                        rintro e w4 ⟨rfl, hb4⟩
                        have HK4 : Hid (Blk w4 w.heap.size 31 (attV a (some ad) n c) ∧ Below w.heap.size w w4) := Lib.hid ⟨BN.out.2.1.below hb4 BN.out.2.1.lt, BN.out.2.2.trans (hb4.mono BN.out.2.2.size)⟩
                        have SB := KS.out _ hb4
                        clear hb4
                        go_simp
                        refine hK.out _ _ (by first | exact SA | exact SB) (fun hHeld => ?_)
                        clear hK K
                        (try simp only [List.getElem_toArray, List.getElem_cons_succ, List.getElem_cons_zero, Act.put, List.setIfInBounds_toArray, List.set_cons_zero, List.set_cons_succ])
                        refine wpAnyH_take (i := 3) (oi := { dst := some 86, op := .binOp BinOp.neq 32 (.tmp 85) (.const (Value.int IntKind.i64 0)) 32, type := 4, pos := "ref.go:43", after := #[{ on := 2, ground := .data }], guard := none }) (v := _) rfl (by as_aux_lemma => kernel_rfl) (by as_aux_lemma => kernel_rfl) (by as_aux_lemma => kernel_rfl) (fun _ _ _ h => h) (Or.inl ⟨by kernel_rfl, by (intro w hSw; (try dsimp only at hSw); go_simp; first | done | with_reducible rfl)⟩) (by assumption) ?_
                        (try simp only [List.getElem_toArray, List.getElem_cons_succ, List.getElem_cons_zero, Act.put, List.setIfInBounds_toArray, List.set_cons_zero, List.set_cons_succ])
                        refine wpAnyH_take (i := 4) (oi := { dst := some 87, op := .move (.tmp 86), type := 4, pos := "ref.go:43", after := #[{ on := 3, ground := .data }, { on := 2, ground := .chain }], guard := none }) (v := _) rfl (by as_aux_lemma => kernel_rfl) (by as_aux_lemma => kernel_rfl) (by as_aux_lemma => kernel_rfl) (fun _ _ _ h => h) (Or.inl ⟨by kernel_rfl, by (intro w hSw; (try dsimp only at hSw); go_simp; first | done | with_reducible rfl)⟩) (by assumption) ?_
                        (try simp only [List.getElem_toArray, List.getElem_cons_succ, List.getElem_cons_zero, Act.put, List.setIfInBounds_toArray, List.set_cons_zero, List.set_cons_succ])
                        refine wpAnyH_take (i := 5) (oi := { dst := some 88, op := .fieldAddr 60 (.tmp 5) 1, type := 0, pos := "ref.go:43", after := #[{ on := 4, ground := .guard }], guard := some (4, false) }) (v := _) rfl (by as_aux_lemma => kernel_rfl) (by as_aux_lemma => kernel_rfl) (by as_aux_lemma => kernel_rfl) (fun _ _ _ h => h) (Or.inl ⟨by kernel_rfl, by (intro w hSw; (try dsimp only at hSw); go_simp; first | done | with_reducible rfl)⟩) (by assumption) ?_
                        (try simp only [List.getElem_toArray, List.getElem_cons_succ, List.getElem_cons_zero, Act.put, List.setIfInBounds_toArray, List.set_cons_zero, List.set_cons_succ])
                        refine wpAnyH_take (i := 6) (oi := { dst := some 89, op := .load 9 (.tmp 88), type := 9, pos := "ref.go:43", after := #[{ on := 5, ground := .data }, { on := 4, ground := .guard }], guard := some (4, false) }) (v := _) rfl (by as_aux_lemma => kernel_rfl) (by as_aux_lemma => kernel_rfl) (by as_aux_lemma => kernel_rfl) (fun _ _ _ h => h) (Or.inl ⟨by kernel_rfl, by (intro w hSw; (try dsimp only at hSw); go_simp; first | done | with_reducible rfl)⟩) (by assumption) ?_
                        (try simp only [List.getElem_toArray, List.getElem_cons_succ, List.getElem_cons_zero, Act.put, List.setIfInBounds_toArray, List.set_cons_zero, List.set_cons_succ])
                        refine wpAnyH_take (i := 7) (oi := { dst := some 90, op := .call { callee := Callee.builtin Builtin.len, args := #[.tmp 89], argTypes := #[9] }, type := 3, pos := "ref.go:43", after := #[{ on := 6, ground := .data }, { on := 4, ground := .guard }], guard := some (4, false) }) (v := _) rfl (by as_aux_lemma => kernel_rfl) (by as_aux_lemma => kernel_rfl) (by as_aux_lemma => kernel_rfl) (fun _ _ _ h => h) (Or.inl ⟨by kernel_rfl, by (intro w hSw; (try dsimp only at hSw); go_simp; first | done | with_reducible rfl)⟩) (by assumption) ?_
                        (try simp only [List.getElem_toArray, List.getElem_cons_succ, List.getElem_cons_zero, Act.put, List.setIfInBounds_toArray, List.set_cons_zero, List.set_cons_succ])
                        refine wpAnyH_take (i := 8) (oi := { dst := some 91, op := .binOp BinOp.gtr 3 (.tmp 90) (.const (Value.int IntKind.i64 4096)) 3, type := 4, pos := "ref.go:43", after := #[{ on := 7, ground := .data }, { on := 4, ground := .guard }], guard := some (4, false) }) (v := _) rfl (by as_aux_lemma => kernel_rfl) (by as_aux_lemma => kernel_rfl) (by as_aux_lemma => kernel_rfl) (fun _ _ _ h => h) (Or.inl ⟨by kernel_rfl, by (intro w hSw; (try dsimp only at hSw); go_simp; first | done | with_reducible rfl)⟩) (by assumption) ?_
                        (try simp only [List.getElem_toArray, List.getElem_cons_succ, List.getElem_cons_zero, Act.put, List.setIfInBounds_toArray, List.set_cons_zero, List.set_cons_succ])
                        refine wpAnyH_take (i := 9) (oi := { dst := some 92, op := .pick (.tmp 87) (.const (Value.bool true)) (.tmp 91), type := 4, pos := "ref.go:43", after := #[{ on := 4, ground := .data }, { on := 8, ground := .data }], guard := none }) (v := _) rfl (by as_aux_lemma => kernel_rfl) (by as_aux_lemma => kernel_rfl) (by as_aux_lemma => kernel_rfl) (fun _ _ _ h => h) (Or.inl ⟨by kernel_rfl, by (intro w hSw; (try dsimp only at hSw); go_simp; first | done | with_reducible rfl)⟩) (by assumption) ?_
                        (try simp only [List.getElem_toArray, List.getElem_cons_succ, List.getElem_cons_zero, Act.put, List.setIfInBounds_toArray, List.set_cons_zero, List.set_cons_succ])
                        refine wpAnyH_take (i := 10) (oi := { dst := some 93, op := .move (.tmp 92), type := 4, pos := "ref.go:43", after := #[{ on := 9, ground := .data }, { on := 4, ground := .chain }], guard := none }) (v := _) rfl (by as_aux_lemma => kernel_rfl) (by as_aux_lemma => kernel_rfl) (by as_aux_lemma => kernel_rfl) (fun _ _ _ h => h) (Or.inl ⟨by kernel_rfl, by (intro w hSw; (try dsimp only at hSw); go_simp; first | done | with_reducible rfl)⟩) (by assumption) ?_
                        (try simp only [List.getElem_toArray, List.getElem_cons_succ, List.getElem_cons_zero, Act.put, List.setIfInBounds_toArray, List.set_cons_zero, List.set_cons_succ])
                        refine wpAnyH_take (i := 11) (oi := { dst := some 94, op := .move (.tmp 4), type := 3, pos := "ref.go:43", after := #[{ on := 10, ground := .guard }], guard := some (10, false) }) (v := _) rfl (by as_aux_lemma => kernel_rfl) (by as_aux_lemma => kernel_rfl) (by as_aux_lemma => kernel_rfl) (fun _ _ _ h => h) (Or.inl ⟨by kernel_rfl, by (intro w hSw; (try dsimp only at hSw); go_simp; first | done | with_reducible rfl)⟩) (by assumption) ?_
                        (try simp only [List.getElem_toArray, List.getElem_cons_succ, List.getElem_cons_zero, Act.put, List.setIfInBounds_toArray, List.set_cons_zero, List.set_cons_succ])
                        refine wpAnyH_take (i := 12) (oi := { dst := some 95, op := .binOp BinOp.gtr 3 (.tmp 94) (.const (Value.int IntKind.i64 0)) 3, type := 4, pos := "ref.go:43", after := #[{ on := 11, ground := .data }, { on := 10, ground := .guard }], guard := some (10, false) }) (v := _) rfl (by as_aux_lemma => kernel_rfl) (by as_aux_lemma => kernel_rfl) (by as_aux_lemma => kernel_rfl) (fun _ _ _ h => h) (Or.inl ⟨by kernel_rfl, by (intro w hSw; (try dsimp only at hSw); go_simp; first | done | with_reducible rfl)⟩) (by assumption) ?_
                        (try simp only [List.getElem_toArray, List.getElem_cons_succ, List.getElem_cons_zero, Act.put, List.setIfInBounds_toArray, List.set_cons_zero, List.set_cons_succ])
                        refine wpAnyH_take (i := 13) (oi := { dst := some 96, op := .move (.tmp 95), type := 4, pos := "ref.go:43", after := #[{ on := 12, ground := .data }, { on := 10, ground := .chain }, { on := 10, ground := .guard }], guard := some (10, false) }) (v := _) rfl (by as_aux_lemma => kernel_rfl) (by as_aux_lemma => kernel_rfl) (by as_aux_lemma => kernel_rfl) (fun _ _ _ h => h) (Or.inl ⟨by kernel_rfl, by (intro w hSw; (try dsimp only at hSw); go_simp; first | done | with_reducible rfl)⟩) (by assumption) ?_
                        (try simp only [List.getElem_toArray, List.getElem_cons_succ, List.getElem_cons_zero, Act.put, List.setIfInBounds_toArray, List.set_cons_zero, List.set_cons_succ])
                        as_aux_lemma =>
                          refine wpAnyH_take (i := 14) (oi := { dst := some 97, op := .fieldAddr 31 (.tmp 1) 6, type := 0, pos := "ref.go:43", after := #[{ on := 13, ground := .guard }], guard := some (13, true) }) (v := _) rfl (by as_aux_lemma => kernel_rfl) (by as_aux_lemma => kernel_rfl) (by as_aux_lemma => kernel_rfl) (fun _ _ _ h => h) (Or.inl ⟨by kernel_rfl, by (intro w hSw; (try dsimp only at hSw); go_simp; first | done | with_reducible rfl)⟩) (by assumption) ?_
                          (try simp only [List.getElem_toArray, List.getElem_cons_succ, List.getElem_cons_zero, Act.put, List.setIfInBounds_toArray, List.set_cons_zero, List.set_cons_succ])
                          refine wpAnyH_take (i := 15) (oi := { dst := some 98, op := .load 29 (.tmp 97), type := 29, pos := "ref.go:43", after := #[{ on := 14, ground := .data }, { on := 13, ground := .guard }], guard := some (13, true) }) (v := _) rfl (by as_aux_lemma => kernel_rfl) (by as_aux_lemma => kernel_rfl) (by as_aux_lemma => kernel_rfl) (fun _ _ _ h => h) (Or.inl ⟨by kernel_rfl, by (intro w hSw; (try dsimp only at hSw); go_simp; first | done | with_reducible rfl)⟩) (by assumption) ?_
                          (try simp only [List.getElem_toArray, List.getElem_cons_succ, List.getElem_cons_zero, Act.put, List.setIfInBounds_toArray, List.set_cons_zero, List.set_cons_succ])
                          refine wpAnyH_take (i := 16) (oi := { dst := some 99, op := .move (.tmp 4), type := 3, pos := "ref.go:43", after := #[{ on := 13, ground := .guard }], guard := some (13, true) }) (v := _) rfl (by as_aux_lemma => kernel_rfl) (by as_aux_lemma => kernel_rfl) (by as_aux_lemma => kernel_rfl) (fun _ _ _ h => h) (Or.inl ⟨by kernel_rfl, by (intro w hSw; (try dsimp only at hSw); go_simp; first | done | with_reducible rfl)⟩) (by assumption) ?_
                          (try simp only [List.getElem_toArray, List.getElem_cons_succ, List.getElem_cons_zero, Act.put, List.setIfInBounds_toArray, List.set_cons_zero, List.set_cons_succ])
                          refine wpAnyH_take (i := 17) (oi := { dst := some 100, op := .binOp BinOp.sub 3 (.tmp 99) (.const (Value.int IntKind.i64 1)) 3, type := 3, pos := "ref.go:43", after := #[{ on := 16, ground := .data }, { on := 13, ground := .guard }], guard := some (13, true) }) (v := _) rfl (by as_aux_lemma => kernel_rfl) (by as_aux_lemma => kernel_rfl) (by as_aux_lemma => kernel_rfl) (fun _ _ _ h => h) (Or.inl ⟨by kernel_rfl, by (intro w hSw; (try dsimp only at hSw); go_simp; first | done | with_reducible rfl)⟩) (by assumption) ?_
                          (try simp only [List.getElem_toArray, List.getElem_cons_succ, List.getElem_cons_zero, Act.put, List.setIfInBounds_toArray, List.set_cons_zero, List.set_cons_succ])
                          refine wpAnyH_take (i := 18) (oi := { dst := some 101, op := .indexAddr 29 (.tmp 98) (.tmp 100), type := 0, pos := "ref.go:43", after := #[{ on := 15, ground := .data }, { on := 17, ground := .data }, { on := 13, ground := .guard }], guard := some (13, true) }) (v := _) rfl (by as_aux_lemma => kernel_rfl) (by as_aux_lemma => kernel_rfl) (by as_aux_lemma => kernel_rfl) (fun _ _ _ h => h) (Or.inl ⟨by kernel_rfl, by (intro w hSw; (try dsimp only at hSw); go_simp; first | done | with_reducible rfl)⟩) (by assumption) ?_
                          (try simp only [List.getElem_toArray, List.getElem_cons_succ, List.getElem_cons_zero, Act.put, List.setIfInBounds_toArray, List.set_cons_zero, List.set_cons_succ])
                          refine wpAnyH_take (i := 19) (oi := { dst := some 102, op := .fieldAddr 60 (.tmp 101) 0, type := 0, pos := "ref.go:43", after := #[{ on := 18, ground := .data }, { on := 13, ground := .guard }], guard := some (13, true) }) (v := _) rfl (by as_aux_lemma => kernel_rfl) (by as_aux_lemma => kernel_rfl) (by as_aux_lemma => kernel_rfl) (fun _ _ _ h => h) (Or.inl ⟨by kernel_rfl, by (intro w hSw; (try dsimp only at hSw); go_simp; first | done | with_reducible rfl)⟩) (by assumption) ?_
                          (try simp only [List.getElem_toArray, List.getElem_cons_succ, List.getElem_cons_zero, Act.put, List.setIfInBounds_toArray, List.set_cons_zero, List.set_cons_succ])
                          refine wpAnyH_take (i := 20) (oi := { dst := some 103, op := .load 9 (.tmp 102), type := 9, pos := "ref.go:43", after := #[{ on := 19, ground := .data }, { on := 13, ground := .guard }], guard := some (13, true) }) (v := _) rfl (by as_aux_lemma => kernel_rfl) (by as_aux_lemma => kernel_rfl) (by as_aux_lemma => kernel_rfl) (fun _ _ _ h => h) (Or.inl ⟨by kernel_rfl, by (intro w hSw; (try dsimp only at hSw); go_simp; first | done | with_reducible rfl)⟩) (by assumption) ?_
                          (try simp only [List.getElem_toArray, List.getElem_cons_succ, List.getElem_cons_zero, Act.put, List.setIfInBounds_toArray, List.set_cons_zero, List.set_cons_succ])
                          refine wpAnyH_take (i := 21) (oi := { dst := some 104, op := .fieldAddr 60 (.tmp 5) 0, type := 0, pos := "ref.go:43", after := #[{ on := 13, ground := .guard }], guard := some (13, true) }) (v := _) rfl (by as_aux_lemma => kernel_rfl) (by as_aux_lemma => kernel_rfl) (by as_aux_lemma => kernel_rfl) (fun _ _ _ h => h) (Or.inl ⟨by kernel_rfl, by (intro w hSw; (try dsimp only at hSw); go_simp; first | done | with_reducible rfl)⟩) (by assumption) ?_
                          (try simp only [List.getElem_toArray, List.getElem_cons_succ, List.getElem_cons_zero, Act.put, List.setIfInBounds_toArray, List.set_cons_zero, List.set_cons_succ])
                          refine wpAnyH_take (i := 22) (oi := { dst := some 105, op := .load 9 (.tmp 104), type := 9, pos := "ref.go:43", after := #[{ on := 21, ground := .data }, { on := 13, ground := .guard }], guard := some (13, true) }) (v := _) rfl (by as_aux_lemma => kernel_rfl) (by as_aux_lemma => kernel_rfl) (by as_aux_lemma => kernel_rfl) (fun _ _ _ h => h) (Or.inl ⟨by kernel_rfl, by (intro w hSw; (try dsimp only at hSw); go_simp; first | done | with_reducible rfl)⟩) (by assumption) ?_
                          (try simp only [List.getElem_toArray, List.getElem_cons_succ, List.getElem_cons_zero, Act.put, List.setIfInBounds_toArray, List.set_cons_zero, List.set_cons_succ])
                          refine wpAnyH_take (i := 23) (oi := { dst := some 106, op := .binOp BinOp.geq 9 (.tmp 103) (.tmp 105) 9, type := 4, pos := "ref.go:43", after := #[{ on := 20, ground := .data }, { on := 22, ground := .data }, { on := 13, ground := .guard }], guard := some (13, true) }) (v := _) rfl (by as_aux_lemma => kernel_rfl) (by as_aux_lemma => kernel_rfl) (by as_aux_lemma => kernel_rfl) (fun _ _ _ h => h) (Or.inl ⟨by kernel_rfl, by (intro w hSw; (try dsimp only at hSw); go_simp; first | done | with_reducible rfl)⟩) (by assumption) ?_
                          (try simp only [List.getElem_toArray, List.getElem_cons_succ, List.getElem_cons_zero, Act.put, List.setIfInBounds_toArray, List.set_cons_zero, List.set_cons_succ])
                          refine wpAnyH_take (i := 24) (oi := { dst := some 107, op := .pick (.tmp 96) (.tmp 106) (.const (Value.bool false)), type := 4, pos := "ref.go:43", after := #[{ on := 13, ground := .data }, { on := 23, ground := .data }, { on := 10, ground := .guard }], guard := some (10, false) }) (v := _) rfl (by as_aux_lemma => kernel_rfl) (by as_aux_lemma => kernel_rfl) (by as_aux_lemma => kernel_rfl) (fun _ _ _ h => h) (Or.inl ⟨by kernel_rfl, by (intro w hSw; (try dsimp only at hSw); go_simp; first | done | with_reducible rfl)⟩) (by assumption) ?_
                          (try simp only [List.getElem_toArray, List.getElem_cons_succ, List.getElem_cons_zero, Act.put, List.setIfInBounds_toArray, List.set_cons_zero, List.set_cons_succ])
                          refine wpAnyH_take (i := 25) (oi := { dst := some 108, op := .pick (.tmp 93) (.const (Value.bool true)) (.tmp 107), type := 4, pos := "ref.go:43", after := #[{ on := 10, ground := .data }, { on := 24, ground := .data }], guard := none }) (v := _) rfl (by as_aux_lemma => kernel_rfl) (by as_aux_lemma => kernel_rfl) (by as_aux_lemma => kernel_rfl) (fun _ _ _ h => h) (Or.inl ⟨by kernel_rfl, by (intro w hSw; (try dsimp only at hSw); go_simp; first | done | with_reducible rfl)⟩) (by assumption) ?_
                          (try simp only [List.getElem_toArray, List.getElem_cons_succ, List.getElem_cons_zero, Act.put, List.setIfInBounds_toArray, List.set_cons_zero, List.set_cons_succ])
                          refine wpAnyH_done (by as_aux_lemma => kernel_rfl) ?_ _
                          clear SA SB
                          go_wp2
                          go_roundw
                          case rel => exact ⟨k + 1, by omega, by go_num, HE, HK4⟩
                          case measure => simp [intOf]; omega
                  · have q1 : decide (4096 < (x.2.size : Int)) = true := by rw [decide_eq_true_eq]; omega
                    have E : Hid (chkA a = 1) := Lib.hid (E3.out (by rw [hHS.out, decide_eq_false hs]; rfl))
                    have KS : Hid (∀ W, Below w3.drew.heap.size w3.drew W → W.cell? ⟨wr.heap.size, 0, none⟩ = some (.string x.1) ∧ W.cell? ⟨wr.heap.size, 1, none⟩ = some (.string x.2) ∧ W.cell? ⟨w.heap.size, 6, none⟩ = some (.slice (some ad) n c)) := Lib.hid (fun W hW => by
                      refine ⟨?_, ?_, ?_⟩
                      · exact (BN.out.1.below hW BN.out.1.lt).cell 0
                      · exact (BN.out.1.below hW BN.out.1.lt).cell 1
                      · exact (BN.out.2.1.below hW BN.out.2.1.lt).cell 6)
                    have SA := KS.out _ (Below.refl _ _)
                    clear hHS hn0
                    refine wp_region_held_drew (S := fun w' => w'.cell? ⟨wr.heap.size, 0, none⟩ = some (.string x.1) ∧ w'.cell? ⟨wr.heap.size, 1, none⟩ = some (.string x.2) ∧ w'.cell? ⟨w.heap.size, 6, none⟩ = some (.slice (some ad) n c)) (by kernel_rfl) (by first | exact SA | exact SB) (fun hHeld => ?_)
                    refine wpAnyH_take (i := 0) (oi := { dst := some 83, op := .fieldAddr 60 (.tmp 5) 0, type := 0, pos := "ref.go:43", after := #[], guard := none }) (v := _) rfl (by as_aux_lemma => kernel_rfl) (by as_aux_lemma => kernel_rfl) (by as_aux_lemma => kernel_rfl) (fun _ _ _ h => h) (Or.inl ⟨by kernel_rfl, by (intro w hSw; (try dsimp only at hSw); go_simp; first | done | with_reducible rfl)⟩) (by assumption) ?_
                    (try simp only [List.getElem_toArray, List.getElem_cons_succ, List.getElem_cons_zero, Act.put, List.setIfInBounds_toArray, List.set_cons_zero, List.set_cons_succ])
                    refine wpAnyH_take (i := 1) (oi := { dst := some 84, op := .load 9 (.tmp 83), type := 9, pos := "ref.go:43", after := #[{ on := 0, ground := .data }], guard := none }) (v := _) rfl (by as_aux_lemma => kernel_rfl) (by as_aux_lemma => kernel_rfl) (by as_aux_lemma => kernel_rfl) (fun _ _ _ h => h) (Or.inl ⟨by kernel_rfl, by (intro w hSw; (try dsimp only at hSw); go_simp; first | done | with_reducible rfl)⟩) (by assumption) ?_
                    (try simp only [List.getElem_toArray, List.getElem_cons_succ, List.getElem_cons_zero, Act.put, List.setIfInBounds_toArray, List.set_cons_zero, List.set_cons_succ])
                    refine wpAnyH_ready (rs := [2]) (by as_aux_lemma => kernel_rfl) (by simp) (AllReadyH.cons rfl (fun K hK => ?_) AllReadyH.nil)
                    try simp only [List.getElem_toArray, List.getElem_cons_succ, List.getElem_cons_zero]
                    go_simp
                    go_at_call 48
                    refine NC.out.mono ?_
                    rintro e w4 ⟨rfl, hb4⟩
                    have HK4 : Hid (Blk w4 w.heap.size 31 (attV a (some ad) n c) ∧ Below w.heap.size w w4) := Lib.hid ⟨BN.out.2.1.below hb4 BN.out.2.1.lt, BN.out.2.2.trans (hb4.mono BN.out.2.2.size)⟩
                    have SB := KS.out _ hb4
                    clear hb4
                    go_simp
                    refine hK.out _ _ (by first | exact SA | exact SB) (fun hHeld => ?_)
                    clear hK K
                    (try simp only [List.getElem_toArray, List.getElem_cons_succ, List.getElem_cons_zero, Act.put, List.setIfInBounds_toArray, List.set_cons_zero, List.set_cons_succ])
                    refine wpAnyH_take (i := 3) (oi := { dst := some 86, op := .binOp BinOp.neq 32 (.tmp 85) (.const (Value.int IntKind.i64 0)) 32, type := 4, pos := "ref.go:43", after := #[{ on := 2, ground := .data }], guard := none }) (v := _) rfl (by as_aux_lemma => kernel_rfl) (by as_aux_lemma => kernel_rfl) (by as_aux_lemma => kernel_rfl) (fun _ _ _ h => h) (Or.inl ⟨by kernel_rfl, by (intro w hSw; (try dsimp only at hSw); go_simp; first | done | with_reducible rfl)⟩) (by assumption) ?_
                    (try simp only [List.getElem_toArray, List.getElem_cons_succ, List.getElem_cons_zero, Act.put, List.setIfInBounds_toArray, List.set_cons_zero, List.set_cons_succ])
                    refine wpAnyH_take (i := 4) (oi := { dst := some 87, op := .move (.tmp 86), type := 4, pos := "ref.go:43", after := #[{ on := 3, ground := .data }, { on := 2, ground := .chain }], guard := none }) (v := _) rfl (by as_aux_lemma => kernel_rfl) (by as_aux_lemma => kernel_rfl) (by as_aux_lemma => kernel_rfl) (fun _ _ _ h => h) (Or.inl ⟨by kernel_rfl, by (intro w hSw; (try dsimp only at hSw); go_simp; first | done | with_reducible rfl)⟩) (by assumption) ?_
                    (try simp only [List.getElem_toArray, List.getElem_cons_succ, List.getElem_cons_zero, Act.put, List.setIfInBounds_toArray, List.set_cons_zero, List.set_cons_succ])
                    refine wpAnyH_take (i := 5) (oi := { dst := some 88, op := .fieldAddr 60 (.tmp 5) 1, type := 0, pos := "ref.go:43", after := #[{ on := 4, ground := .guard }], guard := some (4, false) }) (v := _) rfl (by as_aux_lemma => kernel_rfl) (by as_aux_lemma => kernel_rfl) (by as_aux_lemma => kernel_rfl) (fun _ _ _ h => h) (Or.inl ⟨by kernel_rfl, by (intro w hSw; (try dsimp only at hSw); go_simp; first | done | with_reducible rfl)⟩) (by assumption) ?_
                    (try simp only [List.getElem_toArray, List.getElem_cons_succ, List.getElem_cons_zero, Act.put, List.setIfInBounds_toArray, List.set_cons_zero, List.set_cons_succ])
                    refine wpAnyH_take (i := 6) (oi := { dst := some 89, op := .load 9 (.tmp 88), type := 9, pos := "ref.go:43", after := #[{ on := 5, ground := .data }, { on := 4, ground := .guard }], guard := some (4, false) }) (v := _) rfl (by as_aux_lemma => kernel_rfl) (by as_aux_lemma => kernel_rfl) (by as_aux_lemma => kernel_rfl) (fun _ _ _ h => h) (Or.inl ⟨by kernel_rfl, by (intro w hSw; (try dsimp only at hSw); go_simp; first | done | with_reducible rfl)⟩) (by assumption) ?_
                    (try simp only [List.getElem_toArray, List.getElem_cons_succ, List.getElem_cons_zero, Act.put, List.setIfInBounds_toArray, List.set_cons_zero, List.set_cons_succ])
                    refine wpAnyH_take (i := 7) (oi := { dst := some 90, op := .call { callee := Callee.builtin Builtin.len, args := #[.tmp 89], argTypes := #[9] }, type := 3, pos := "ref.go:43", after := #[{ on := 6, ground := .data }, { on := 4, ground := .guard }], guard := some (4, false) }) (v := _) rfl (by as_aux_lemma => kernel_rfl) (by as_aux_lemma => kernel_rfl) (by as_aux_lemma => kernel_rfl) (fun _ _ _ h => h) (Or.inl ⟨by kernel_rfl, by (intro w hSw; (try dsimp only at hSw); go_simp; first | done | with_reducible rfl)⟩) (by assumption) ?_
                    (try simp only [List.getElem_toArray, List.getElem_cons_succ, List.getElem_cons_zero, Act.put, List.setIfInBounds_toArray, List.set_cons_zero, List.set_cons_succ])
                    refine wpAnyH_take (i := 8) (oi := { dst := some 91, op := .binOp BinOp.gtr 3 (.tmp 90) (.const (Value.int IntKind.i64 4096)) 3, type := 4, pos := "ref.go:43", after := #[{ on := 7, ground := .data }, { on := 4, ground := .guard }], guard := some (4, false) }) (v := _) rfl (by as_aux_lemma => kernel_rfl) (by as_aux_lemma => kernel_rfl) (by as_aux_lemma => kernel_rfl) (fun _ _ _ h => h) (Or.inl ⟨by kernel_rfl, by (intro w hSw; (try dsimp only at hSw); go_simp; first | done | with_reducible rfl)⟩) (by assumption) ?_
                    (try simp only [List.getElem_toArray, List.getElem_cons_succ, List.getElem_cons_zero, Act.put, List.setIfInBounds_toArray, List.set_cons_zero, List.set_cons_succ])
                    refine wpAnyH_take (i := 9) (oi := { dst := some 92, op := .pick (.tmp 87) (.const (Value.bool true)) (.tmp 91), type := 4, pos := "ref.go:43", after := #[{ on := 4, ground := .data }, { on := 8, ground := .data }], guard := none }) (v := _) rfl (by as_aux_lemma => kernel_rfl) (by as_aux_lemma => kernel_rfl) (by as_aux_lemma => kernel_rfl) (fun _ _ _ h => h) (Or.inl ⟨by kernel_rfl, by (intro w hSw; (try dsimp only at hSw); go_simp; first | done | with_reducible rfl)⟩) (by assumption) ?_
                    (try simp only [List.getElem_toArray, List.getElem_cons_succ, List.getElem_cons_zero, Act.put, List.setIfInBounds_toArray, List.set_cons_zero, List.set_cons_succ])
                    refine wpAnyH_take (i := 10) (oi := { dst := some 93, op := .move (.tmp 92), type := 4, pos := "ref.go:43", after := #[{ on := 9, ground := .data }, { on := 4, ground := .chain }], guard := none }) (v := _) rfl (by as_aux_lemma => kernel_rfl) (by as_aux_lemma => kernel_rfl) (by as_aux_lemma => kernel_rfl) (fun _ _ _ h => h) (Or.inl ⟨by kernel_rfl, by (intro w hSw; (try dsimp only at hSw); go_simp; first | done | with_reducible rfl)⟩) (by assumption) ?_
                    (try simp only [List.getElem_toArray, List.getElem_cons_succ, List.getElem_cons_zero, Act.put, List.setIfInBounds_toArray, List.set_cons_zero, List.set_cons_succ])
                    refine wpAnyH_take (i := 11) (oi := _) (v := undef) rfl (by as_aux_lemma => kernel_rfl) (by as_aux_lemma => kernel_rfl) (by as_aux_lemma => kernel_rfl) (fun _ _ _ h => h) (Or.inr ⟨by kernel_rfl, rfl⟩) (by assumption) ?_
                    (try simp only [List.getElem_toArray, List.getElem_cons_succ, List.getElem_cons_zero, Act.put, List.setIfInBounds_toArray, List.set_cons_zero, List.set_cons_succ])
                    refine wpAnyH_take (i := 12) (oi := _) (v := undef) rfl (by as_aux_lemma => kernel_rfl) (by as_aux_lemma => kernel_rfl) (by as_aux_lemma => kernel_rfl) (fun _ _ _ h => h) (Or.inr ⟨by kernel_rfl, rfl⟩) (by assumption) ?_
                    (try simp only [List.getElem_toArray, List.getElem_cons_succ, List.getElem_cons_zero, Act.put, List.setIfInBounds_toArray, List.set_cons_zero, List.set_cons_succ])
                    refine wpAnyH_take (i := 13) (oi := _) (v := undef) rfl (by as_aux_lemma => kernel_rfl) (by as_aux_lemma => kernel_rfl) (by as_aux_lemma => kernel_rfl) (fun _ _ _ h => h) (Or.inr ⟨by kernel_rfl, rfl⟩) (by assumption) ?_
                    (try simp only [List.getElem_toArray, List.getElem_cons_succ, List.getElem_cons_zero, Act.put, List.setIfInBounds_toArray, List.set_cons_zero, List.set_cons_succ])
                    as_aux_lemma =>
                      refine wpAnyH_take (i := 14) (oi := _) (v := undef) rfl (by as_aux_lemma => kernel_rfl) (by as_aux_lemma => kernel_rfl) (by as_aux_lemma => kernel_rfl) (fun _ _ _ h => h) (Or.inr ⟨by kernel_rfl, rfl⟩) (by assumption) ?_
                      (try simp only [List.getElem_toArray, List.getElem_cons_succ, List.getElem_cons_zero, Act.put, List.setIfInBounds_toArray, List.set_cons_zero, List.set_cons_succ])
                      refine wpAnyH_take (i := 15) (oi := _) (v := undef) rfl (by as_aux_lemma => kernel_rfl) (by as_aux_lemma => kernel_rfl) (by as_aux_lemma => kernel_rfl) (fun _ _ _ h => h) (Or.inr ⟨by kernel_rfl, rfl⟩) (by assumption) ?_
                      (try simp only [List.getElem_toArray, List.getElem_cons_succ, List.getElem_cons_zero, Act.put, List.setIfInBounds_toArray, List.set_cons_zero, List.set_cons_succ])
                      refine wpAnyH_take (i := 16) (oi := _) (v := undef) rfl (by as_aux_lemma => kernel_rfl) (by as_aux_lemma => kernel_rfl) (by as_aux_lemma => kernel_rfl) (fun _ _ _ h => h) (Or.inr ⟨by kernel_rfl, rfl⟩) (by assumption) ?_
                      (try simp only [List.getElem_toArray, List.getElem_cons_succ, List.getElem_cons_zero, Act.put, List.setIfInBounds_toArray, List.set_cons_zero, List.set_cons_succ])
                      refine wpAnyH_take (i := 17) (oi := _) (v := undef) rfl (by as_aux_lemma => kernel_rfl) (by as_aux_lemma => kernel_rfl) (by as_aux_lemma => kernel_rfl) (fun _ _ _ h => h) (Or.inr ⟨by kernel_rfl, rfl⟩) (by assumption) ?_
                      (try simp only [List.getElem_toArray, List.getElem_cons_succ, List.getElem_cons_zero, Act.put, List.setIfInBounds_toArray, List.set_cons_zero, List.set_cons_succ])
                      refine wpAnyH_take (i := 18) (oi := _) (v := undef) rfl (by as_aux_lemma => kernel_rfl) (by as_aux_lemma => kernel_rfl) (by as_aux_lemma => kernel_rfl) (fun _ _ _ h => h) (Or.inr ⟨by kernel_rfl, rfl⟩) (by assumption) ?_
                      (try simp only [List.getElem_toArray, List.getElem_cons_succ, List.getElem_cons_zero, Act.put, List.setIfInBounds_toArray, List.set_cons_zero, List.set_cons_succ])
                      refine wpAnyH_take (i := 19) (oi := _) (v := undef) rfl (by as_aux_lemma => kernel_rfl) (by as_aux_lemma => kernel_rfl) (by as_aux_lemma => kernel_rfl) (fun _ _ _ h => h) (Or.inr ⟨by kernel_rfl, rfl⟩) (by assumption) ?_
                      (try simp only [List.getElem_toArray, List.getElem_cons_succ, List.getElem_cons_zero, Act.put, List.setIfInBounds_toArray, List.set_cons_zero, List.set_cons_succ])
                      refine wpAnyH_take (i := 20) (oi := _) (v := undef) rfl (by as_aux_lemma => kernel_rfl) (by as_aux_lemma => kernel_rfl) (by as_aux_lemma => kernel_rfl) (fun _ _ _ h => h) (Or.inr ⟨by kernel_rfl, rfl⟩) (by assumption) ?_
                      (try simp only [List.getElem_toArray, List.getElem_cons_succ, List.getElem_cons_zero, Act.put, List.setIfInBounds_toArray, List.set_cons_zero, List.set_cons_succ])
                      refine wpAnyH_take (i := 21) (oi := _) (v := undef) rfl (by as_aux_lemma => kernel_rfl) (by as_aux_lemma => kernel_rfl) (by as_aux_lemma => kernel_rfl) (fun _ _ _ h => h) (Or.inr ⟨by kernel_rfl, rfl⟩) (by assumption) ?_
                      (try simp only [List.getElem_toArray, List.getElem_cons_succ, List.getElem_cons_zero, Act.put, List.setIfInBounds_toArray, List.set_cons_zero, List.set_cons_succ])
                      refine wpAnyH_take (i := 22) (oi := _) (v := undef) rfl (by as_aux_lemma => kernel_rfl) (by as_aux_lemma => kernel_rfl) (by as_aux_lemma => kernel_rfl) (fun _ _ _ h => h) (Or.inr ⟨by kernel_rfl, rfl⟩) (by assumption) ?_
                      (try simp only [List.getElem_toArray, List.getElem_cons_succ, List.getElem_cons_zero, Act.put, List.setIfInBounds_toArray, List.set_cons_zero, List.set_cons_succ])
                      refine wpAnyH_take (i := 23) (oi := _) (v := undef) rfl (by as_aux_lemma => kernel_rfl) (by as_aux_lemma => kernel_rfl) (by as_aux_lemma => kernel_rfl) (fun _ _ _ h => h) (Or.inr ⟨by kernel_rfl, rfl⟩) (by assumption) ?_
                      (try simp only [List.getElem_toArray, List.getElem_cons_succ, List.getElem_cons_zero, Act.put, List.setIfInBounds_toArray, List.set_cons_zero, List.set_cons_succ])
                      refine wpAnyH_take (i := 24) (oi := _) (v := undef) rfl (by as_aux_lemma => kernel_rfl) (by as_aux_lemma => kernel_rfl) (by as_aux_lemma => kernel_rfl) (fun _ _ _ h => h) (Or.inr ⟨by kernel_rfl, rfl⟩) (by assumption) ?_
                      (try simp only [List.getElem_toArray, List.getElem_cons_succ, List.getElem_cons_zero, Act.put, List.setIfInBounds_toArray, List.set_cons_zero, List.set_cons_succ])
                      refine wpAnyH_take (i := 25) (oi := { dst := some 108, op := .pick (.tmp 93) (.const (Value.bool true)) (.tmp 107), type := 4, pos := "ref.go:43", after := #[{ on := 10, ground := .data }, { on := 24, ground := .data }], guard := none }) (v := _) rfl (by as_aux_lemma => kernel_rfl) (by as_aux_lemma => kernel_rfl) (by as_aux_lemma => kernel_rfl) (fun _ _ _ h => h) (Or.inl ⟨by kernel_rfl, by (intro w hSw; (try dsimp only at hSw); go_simp; first | done | with_reducible rfl)⟩) (by assumption) ?_
                      (try simp only [List.getElem_toArray, List.getElem_cons_succ, List.getElem_cons_zero, Act.put, List.setIfInBounds_toArray, List.set_cons_zero, List.set_cons_succ])
                      refine wpAnyH_done (by as_aux_lemma => kernel_rfl) ?_ _
                      clear SA SB
                      go_wp2
                      go_ret
                      exact ⟨by rw [E.out]; rfl, HK4.out.2⟩
                · have hn1 : nmE x.1 = 10 := by rcases nmE_or x.1 with h | h; exact absurd h hn0; exact h
                  rw [hn1] at NC
                  have E : Hid (chkA a = 1) := Lib.hid (E3.out (by rw [hHS.out, decide_eq_false hn0]; rfl))
                  have KS : Hid (∀ W, Below w3.drew.heap.size w3.drew W → W.cell? ⟨wr.heap.size, 0, none⟩ = some (.string x.1) ∧ W.cell? ⟨wr.heap.size, 1, none⟩ = some (.string x.2) ∧ W.cell? ⟨w.heap.size, 6, none⟩ = some (.slice (some ad) n c)) := Lib.hid (fun W hW => by
                    refine ⟨?_, ?_, ?_⟩
                    · exact (BN.out.1.below hW BN.out.1.lt).cell 0
                    · exact (BN.out.1.below hW BN.out.1.lt).cell 1
                    · exact (BN.out.2.1.below hW BN.out.2.1.lt).cell 6)
                  have SA := KS.out _ (Below.refl _ _)
                  clear hHS hn0 hn1
                  refine wp_region_held_drew (S := fun w' => w'.cell? ⟨wr.heap.size, 0, none⟩ = some (.string x.1) ∧ w'.cell? ⟨wr.heap.size, 1, none⟩ = some (.string x.2) ∧ w'.cell? ⟨w.heap.size, 6, none⟩ = some (.slice (some ad) n c)) (by kernel_rfl) (by first | exact SA | exact SB) (fun hHeld => ?_)
                  refine wpAnyH_take (i := 0) (oi := { dst := some 83, op := .fieldAddr 60 (.tmp 5) 0, type := 0, pos := "ref.go:43", after := #[], guard := none }) (v := _) rfl (by as_aux_lemma => kernel_rfl) (by as_aux_lemma => kernel_rfl) (by as_aux_lemma => kernel_rfl) (fun _ _ _ h => h) (Or.inl ⟨by kernel_rfl, by (intro w hSw; (try dsimp only at hSw); go_simp; first | done | with_reducible rfl)⟩) (by assumption) ?_
                  (try simp only [List.getElem_toArray, List.getElem_cons_succ, List.getElem_cons_zero, Act.put, List.setIfInBounds_toArray, List.set_cons_zero, List.set_cons_succ])
                  refine wpAnyH_take (i := 1) (oi := { dst := some 84, op := .load 9 (.tmp 83), type := 9, pos := "ref.go:43", after := #[{ on := 0, ground := .data }], guard := none }) (v := _) rfl (by as_aux_lemma => kernel_rfl) (by as_aux_lemma => kernel_rfl) (by as_aux_lemma => kernel_rfl) (fun _ _ _ h => h) (Or.inl ⟨by kernel_rfl, by (intro w hSw; (try dsimp only at hSw); go_simp; first | done | with_reducible rfl)⟩) (by assumption) ?_
                  (try simp only [List.getElem_toArray, List.getElem_cons_succ, List.getElem_cons_zero, Act.put, List.setIfInBounds_toArray, List.set_cons_zero, List.set_cons_succ])
                  refine wpAnyH_ready (rs := [2]) (by as_aux_lemma => kernel_rfl) (by simp) (AllReadyH.cons rfl (fun K hK => ?_) AllReadyH.nil)
                  try simp only [List.getElem_toArray, List.getElem_cons_succ, List.getElem_cons_zero]
                  go_simp
                  go_at_call 48
                  refine NC.out.mono ?_
                  rintro e w4 ⟨rfl, hb4⟩
                  have HK4 : Hid (Blk w4 w.heap.size 31 (attV a (some ad) n c) ∧ Below w.heap.size w w4) := Lib.hid ⟨BN.out.2.1.below hb4 BN.out.2.1.lt, BN.out.2.2.trans (hb4.mono BN.out.2.2.size)⟩
                  have SB := KS.out _ hb4
                  clear hb4
                  go_simp
                  refine hK.out _ _ (by first | exact SA | exact SB) (fun hHeld => ?_)
                  clear hK K
                  (try simp only [List.getElem_toArray, List.getElem_cons_succ, List.getElem_cons_zero, Act.put, List.setIfInBounds_toArray, List.set_cons_zero, List.set_cons_succ])
                  refine wpAnyH_take (i := 3) (oi := { dst := some 86, op := .binOp BinOp.neq 32 (.tmp 85) (.const (Value.int IntKind.i64 0)) 32, type := 4, pos := "ref.go:43", after := #[{ on := 2, ground := .data }], guard := none }) (v := _) rfl (by as_aux_lemma => kernel_rfl) (by as_aux_lemma => kernel_rfl) (by as_aux_lemma => kernel_rfl) (fun _ _ _ h => h) (Or.inl ⟨by kernel_rfl, by (intro w hSw; (try dsimp only at hSw); go_simp; first | done | with_reducible rfl)⟩) (by assumption) ?_
                  (try simp only [List.getElem_toArray, List.getElem_cons_succ, List.getElem_cons_zero, Act.put, List.setIfInBounds_toArray, List.set_cons_zero, List.set_cons_succ])
                  refine wpAnyH_take (i := 4) (oi := { dst := some 87, op := .move (.tmp 86), type := 4, pos := "ref.go:43", after := #[{ on := 3, ground := .data }, { on := 2, ground := .chain }], guard := none }) (v := _) rfl (by as_aux_lemma => kernel_rfl) (by as_aux_lemma => kernel_rfl) (by as_aux_lemma => kernel_rfl) (fun _ _ _ h => h) (Or.inl ⟨by kernel_rfl, by (intro w hSw; (try dsimp only at hSw); go_simp; first | done | with_reducible rfl)⟩) (by assumption) ?_
                  (try simp only [List.getElem_toArray, List.getElem_cons_succ, List.getElem_cons_zero, Act.put, List.setIfInBounds_toArray, List.set_cons_zero, List.set_cons_succ])
                  refine wpAnyH_take (i := 5) (oi := _) (v := undef) rfl (by as_aux_lemma => kernel_rfl) (by as_aux_lemma => kernel_rfl) (by as_aux_lemma => kernel_rfl) (fun _ _ _ h => h) (Or.inr ⟨by kernel_rfl, rfl⟩) (by assumption) ?_
                  (try simp only [List.getElem_toArray, List.getElem_cons_succ, List.getElem_cons_zero, Act.put, List.setIfInBounds_toArray, List.set_cons_zero, List.set_cons_succ])
                  refine wpAnyH_take (i := 6) (oi := _) (v := undef) rfl (by as_aux_lemma => kernel_rfl) (by as_aux_lemma => kernel_rfl) (by as_aux_lemma => kernel_rfl) (fun _ _ _ h => h) (Or.inr ⟨by kernel_rfl, rfl⟩) (by assumption) ?_
                  (try simp only [List.getElem_toArray, List.getElem_cons_succ, List.getElem_cons_zero, Act.put, List.setIfInBounds_toArray, List.set_cons_zero, List.set_cons_succ])
                  refine wpAnyH_take (i := 7) (oi := _) (v := undef) rfl (by as_aux_lemma => kernel_rfl) (by as_aux_lemma => kernel_rfl) (by as_aux_lemma => kernel_rfl) (fun _ _ _ h => h) (Or.inr ⟨by kernel_rfl, rfl⟩) (by assumption) ?_
                  (try simp only [List.getElem_toArray, List.getElem_cons_succ, List.getElem_cons_zero, Act.put, List.setIfInBounds_toArray, List.set_cons_zero, List.set_cons_succ])
                  refine wpAnyH_take (i := 8) (oi := _) (v := undef) rfl (by as_aux_lemma => kernel_rfl) (by as_aux_lemma => kernel_rfl) (by as_aux_lemma => kernel_rfl) (fun _ _ _ h => h) (Or.inr ⟨by kernel_rfl, rfl⟩) (by assumption) ?_
                  (try simp only [List.getElem_toArray, List.getElem_cons_succ, List.getElem_cons_zero, Act.put, List.setIfInBounds_toArray, List.set_cons_zero, List.set_cons_succ])
                  refine wpAnyH_take (i := 9) (oi := { dst := some 92, op := .pick (.tmp 87) (.const (Value.bool true)) (.tmp 91), type := 4, pos := "ref.go:43", after := #[{ on := 4, ground := .data }, { on := 8, ground := .data }], guard := none }) (v := _) rfl (by as_aux_lemma => kernel_rfl) (by as_aux_lemma => kernel_rfl) (by as_aux_lemma => kernel_rfl) (fun _ _ _ h => h) (Or.inl ⟨by kernel_rfl, by (intro w hSw; (try dsimp only at hSw); go_simp; first | done | with_reducible rfl)⟩) (by assumption) ?_
                  (try simp only [List.getElem_toArray, List.getElem_cons_succ, List.getElem_cons_zero, Act.put, List.setIfInBounds_toArray, List.set_cons_zero, List.set_cons_succ])
                  refine wpAnyH_take (i := 10) (oi := { dst := some 93, op := .move (.tmp 92), type := 4, pos := "ref.go:43", after := #[{ on := 9, ground := .data }, { on := 4, ground := .chain }], guard := none }) (v := _) rfl (by as_aux_lemma => kernel_rfl) (by as_aux_lemma => kernel_rfl) (by as_aux_lemma => kernel_rfl) (fun _ _ _ h => h) (Or.inl ⟨by kernel_rfl, by (intro w hSw; (try dsimp only at hSw); go_simp; first | done | with_reducible rfl)⟩) (by assumption) ?_
                  (try simp only [List.getElem_toArray, List.getElem_cons_succ, List.getElem_cons_zero, Act.put, List.setIfInBounds_toArray, List.set_cons_zero, List.set_cons_succ])
                  refine wpAnyH_take (i := 11) (oi := _) (v := undef) rfl (by as_aux_lemma => kernel_rfl) (by as_aux_lemma => kernel_rfl) (by as_aux_lemma => kernel_rfl) (fun _ _ _ h => h) (Or.inr ⟨by kernel_rfl, rfl⟩) (by assumption) ?_
                  (try simp only [List.getElem_toArray, List.getElem_cons_succ, List.getElem_cons_zero, Act.put, List.setIfInBounds_toArray, List.set_cons_zero, List.set_cons_succ])
                  refine wpAnyH_take (i := 12) (oi := _) (v := undef) rfl (by as_aux_lemma => kernel_rfl) (by as_aux_lemma => kernel_rfl) (by as_aux_lemma => kernel_rfl) (fun _ _ _ h => h) (Or.inr ⟨by kernel_rfl, rfl⟩) (by assumption) ?_
                  (try simp only [List.getElem_toArray, List.getElem_cons_succ, List.getElem_cons_zero, Act.put, List.setIfInBounds_toArray, List.set_cons_zero, List.set_cons_succ])
                  refine wpAnyH_take (i := 13) (oi := _) (v := undef) rfl (by as_aux_lemma => kernel_rfl) (by as_aux_lemma => kernel_rfl) (by as_aux_lemma => kernel_rfl) (fun _ _ _ h => h) (Or.inr ⟨by kernel_rfl, rfl⟩) (by assumption) ?_
                  (try simp only [List.getElem_toArray, List.getElem_cons_succ, List.getElem_cons_zero, Act.put, List.setIfInBounds_toArray, List.set_cons_zero, List.set_cons_succ])
                  as_aux_lemma =>
                    refine wpAnyH_take (i := 14) (oi := _) (v := undef) rfl (by as_aux_lemma => kernel_rfl) (by as_aux_lemma => kernel_rfl) (by as_aux_lemma => kernel_rfl) (fun _ _ _ h => h) (Or.inr ⟨by kernel_rfl, rfl⟩) (by assumption) ?_
                    (try simp only [List.getElem_toArray, List.getElem_cons_succ, List.getElem_cons_zero, Act.put, List.setIfInBounds_toArray, List.set_cons_zero, List.set_cons_succ])
                    refine wpAnyH_take (i := 15) (oi := _) (v := undef) rfl (by as_aux_lemma => kernel_rfl) (by as_aux_lemma => kernel_rfl) (by as_aux_lemma => kernel_rfl) (fun _ _ _ h => h) (Or.inr ⟨by kernel_rfl, rfl⟩) (by assumption) ?_
                    (try simp only [List.getElem_toArray, List.getElem_cons_succ, List.getElem_cons_zero, Act.put, List.setIfInBounds_toArray, List.set_cons_zero, List.set_cons_succ])
                    refine wpAnyH_take (i := 16) (oi := _) (v := undef) rfl (by as_aux_lemma => kernel_rfl) (by as_aux_lemma => kernel_rfl) (by as_aux_lemma => kernel_rfl) (fun _ _ _ h => h) (Or.inr ⟨by kernel_rfl, rfl⟩) (by assumption) ?_
                    (try simp only [List.getElem_toArray, List.getElem_cons_succ, List.getElem_cons_zero, Act.put, List.setIfInBounds_toArray, List.set_cons_zero, List.set_cons_succ])
                    refine wpAnyH_take (i := 17) (oi := _) (v := undef) rfl (by as_aux_lemma => kernel_rfl) (by as_aux_lemma => kernel_rfl) (by as_aux_lemma => kernel_rfl) (fun _ _ _ h => h) (Or.inr ⟨by kernel_rfl, rfl⟩) (by assumption) ?_
                    (try simp only [List.getElem_toArray, List.getElem_cons_succ, List.getElem_cons_zero, Act.put, List.setIfInBounds_toArray, List.set_cons_zero, List.set_cons_succ])
                    refine wpAnyH_take (i := 18) (oi := _) (v := undef) rfl (by as_aux_lemma => kernel_rfl) (by as_aux_lemma => kernel_rfl) (by as_aux_lemma => kernel_rfl) (fun _ _ _ h => h) (Or.inr ⟨by kernel_rfl, rfl⟩) (by assumption) ?_
                    (try simp only [List.getElem_toArray, List.getElem_cons_succ, List.getElem_cons_zero, Act.put, List.setIfInBounds_toArray, List.set_cons_zero, List.set_cons_succ])
                    refine wpAnyH_take (i := 19) (oi := _) (v := undef) rfl (by as_aux_lemma => kernel_rfl) (by as_aux_lemma => kernel_rfl) (by as_aux_lemma => kernel_rfl) (fun _ _ _ h => h) (Or.inr ⟨by kernel_rfl, rfl⟩) (by assumption) ?_
                    (try simp only [List.getElem_toArray, List.getElem_cons_succ, List.getElem_cons_zero, Act.put, List.setIfInBounds_toArray, List.set_cons_zero, List.set_cons_succ])
                    refine wpAnyH_take (i := 20) (oi := _) (v := undef) rfl (by as_aux_lemma => kernel_rfl) (by as_aux_lemma => kernel_rfl) (by as_aux_lemma => kernel_rfl) (fun _ _ _ h => h) (Or.inr ⟨by kernel_rfl, rfl⟩) (by assumption) ?_
                    (try simp only [List.getElem_toArray, List.getElem_cons_succ, List.getElem_cons_zero, Act.put, List.setIfInBounds_toArray, List.set_cons_zero, List.set_cons_succ])
                    refine wpAnyH_take (i := 21) (oi := _) (v := undef) rfl (by as_aux_lemma => kernel_rfl) (by as_aux_lemma => kernel_rfl) (by as_aux_lemma => kernel_rfl) (fun _ _ _ h => h) (Or.inr ⟨by kernel_rfl, rfl⟩) (by assumption) ?_
                    (try simp only [List.getElem_toArray, List.getElem_cons_succ, List.getElem_cons_zero, Act.put, List.setIfInBounds_toArray, List.set_cons_zero, List.set_cons_succ])
                    refine wpAnyH_take (i := 22) (oi := _) (v := undef) rfl (by as_aux_lemma => kernel_rfl) (by as_aux_lemma => kernel_rfl) (by as_aux_lemma => kernel_rfl) (fun _ _ _ h => h) (Or.inr ⟨by kernel_rfl, rfl⟩) (by assumption) ?_
                    (try simp only [List.getElem_toArray, List.getElem_cons_succ, List.getElem_cons_zero, Act.put, List.setIfInBounds_toArray, List.set_cons_zero, List.set_cons_succ])
                    refine wpAnyH_take (i := 23) (oi := _) (v := undef) rfl (by as_aux_lemma => kernel_rfl) (by as_aux_lemma => kernel_rfl) (by as_aux_lemma => kernel_rfl) (fun _ _ _ h => h) (Or.inr ⟨by kernel_rfl, rfl⟩) (by assumption) ?_
                    (try simp only [List.getElem_toArray, List.getElem_cons_succ, List.getElem_cons_zero, Act.put, List.setIfInBounds_toArray, List.set_cons_zero, List.set_cons_succ])
                    refine wpAnyH_take (i := 24) (oi := _) (v := undef) rfl (by as_aux_lemma => kernel_rfl) (by as_aux_lemma => kernel_rfl) (by as_aux_lemma => kernel_rfl) (fun _ _ _ h => h) (Or.inr ⟨by kernel_rfl, rfl⟩) (by assumption) ?_
                    (try simp only [List.getElem_toArray, List.getElem_cons_succ, List.getElem_cons_zero, Act.put, List.setIfInBounds_toArray, List.set_cons_zero, List.set_cons_succ])
                    refine wpAnyH_take (i := 25) (oi := { dst := some 108, op := .pick (.tmp 93) (.const (Value.bool true)) (.tmp 107), type := 4, pos := "ref.go:43", after := #[{ on := 10, ground := .data }, { on := 24, ground := .data }], guard := none }) (v := _) rfl (by as_aux_lemma => kernel_rfl) (by as_aux_lemma => kernel_rfl) (by as_aux_lemma => kernel_rfl) (fun _ _ _ h => h) (Or.inl ⟨by kernel_rfl, by (intro w hSw; (try dsimp only at hSw); go_simp; first | done | with_reducible rfl)⟩) (by assumption) ?_
                    (try simp only [List.getElem_toArray, List.getElem_cons_succ, List.getElem_cons_zero, Act.put, List.setIfInBounds_toArray, List.set_cons_zero, List.set_cons_succ])
                    refine wpAnyH_done (by as_aux_lemma => kernel_rfl) ?_ _
                    clear SA SB
                    go_wp2
                    go_ret
                    exact ⟨by rw [E.out]; rfl, HK4.out.2⟩
              · obtain rfl : k = n := by omega
                have E : Hid (chkA a = 0) := Lib.hid (E4'.out (by rw [HC.out, List.drop_eq_nil_of_le (by rw [HL.out]; exact Nat.le_refl _)]; rfl))
                clear E4' HC
                go_wp2
                go_ret
                exact ⟨by rw [E.out]; rfl, HK.out.2⟩
end Go.Proofs.YtpfccicahfncbaaDoor
