/- Several texts of the claim joined into one (part 8): plain facts and walks. No conditions but those that each theorem tells. -/
import Derived.Test.YtfoandpcoakcjaaMgParityTablesUpto3
import Derived.Test.YtfoandpcoakcjaaMgParityTablesUpto2
import Derived.StillTailTactics
namespace Go.Proofs.Ytfoandpcoakcjaa
open Go.RowKit Wir
set_option linter.unusedVariables false
set_option linter.unusedSimpArgs false
attribute [local go_sem ↓] execOp_ld32 execOp_st32
attribute [local go_sem] run_ld32 run_st32
theorem rfl_put (W : World) (s : ByteArray) (n : Nat) (hn : n < 18446744073709551616) (hs : s.size ≤ 4611686018427387904) :
    Calls Try.prog 24 #[.string s, .int .u64 (n : Int)] W fun e w' => e = .returned (.string (s ++ bs (putL n))) ∧ Below W.heap.size W w' := put_any s n W hn hs
theorem index4 (a b c d : Int) (W : World) :
    (Instr.index 60 (.agg #[.int .i64 a, .int .i64 b, .int .i64 c, .int .i64 d]) (.int .i64 0)).run Try.prog W = .ok (.int .i64 a) W ∧
    (Instr.index 60 (.agg #[.int .i64 a, .int .i64 b, .int .i64 c, .int .i64 d]) (.int .i64 1)).run Try.prog W = .ok (.int .i64 b) W ∧
    (Instr.index 60 (.agg #[.int .i64 a, .int .i64 b, .int .i64 c, .int .i64 d]) (.int .i64 2)).run Try.prog W = .ok (.int .i64 c) W ∧
    (Instr.index 60 (.agg #[.int .i64 a, .int .i64 b, .int .i64 c, .int .i64 d]) (.int .i64 3)).run Try.prog W = .ok (.int .i64 d) W := by
  have hu : Try.prog.underlying 60 = some (.array 4 3) := by kernel_rfl
  have hi : (Try.prog.info? 3).isSome = true := by kernel_rfl
  obtain ⟨i, hi⟩ := Option.isSome_iff_exists.1 hi
  have hz : (Try.prog.info? 3).map (·.size) = some 1 := by kernel_rfl
  rw [hi] at hz
  have hz1 : i.size = 1 := by simpa using hz
  refine ⟨?_, ?_, ?_, ?_⟩ <;> simp [Instr.index, run_underlying hu, hi, hz1, sizeOf, typeInfo, go_sem]
theorem chkT_yes {t : Tbl} (h : mayB t = true) : chkT t = 0 := if_pos h
theorem chkT_no {t : Tbl} (h : mayB t = false) : chkT t = 1 := if_neg (by rw [h]; decide)
set_option maxRecDepth 100000 in
set_option maxHeartbeats 2000000 in
theorem tencode_any (t : Tbl) (v : Value) (w : World) (B : Nat) (h : IdR w B v t.ids) (hB : B ≤ w.heap.size) :
    Calls Try.prog 7 #[.agg (tblA t v)] w fun e w' => e = .returned (.tuple #[.string (encR t).1, .int .i64 (encR t).2]) ∧ Below w.heap.size w w' := by
  obtain ⟨A, c, rfl, _⟩ := h.slice
  have BX : Hid (Blk (w.alloc (.cells (tblA t (.slice A t.ids.length c)) 29)) w.heap.size 29 (tblA t (.slice A t.ids.length c)) ∧ Below w.heap.size w (w.alloc (.cells (tblA t (.slice A t.ids.length c)) 29)) ∧ w.heap.size < (w.alloc (.cells (tblA t (.slice A t.ids.length c)) 29)).heap.size) := Lib.hid ⟨Blk.new _ _ _, (Below.refl _ _).alloc (Nat.le_refl _) _, by simp⟩
  have H := Lib.hid h
  have MY := Lib.hid (fun W => tchk_any t A c W)
  clear h
  go_enter Try.func7, Try.ntmps7
  go_upto_region 1 with fail
  change Code.wp _ _ _ _ (w.alloc (.cells (tblA t (.slice A t.ids.length c)) 29))
  generalize w.alloc (.cells (tblA t (.slice A t.ids.length c)) 29) = w1 at BX ⊢
  obtain ⟨c0, c1, c2, c3⟩ := tbl_cells BX.out.1
  go_wp2_with fail
  change Calls _ _ #[.agg (tblA t (.slice A t.ids.length c))] _ _
  (with_reducible refine (MY.out _).mono ?_)
  rintro e w2 ⟨rfl, hb2⟩
  have BX2 : Hid (Blk w2 w.heap.size 29 (tblA t (.slice A t.ids.length c)) ∧ Below w.heap.size w w2) := Lib.hid ⟨BX.out.1.below hb2 BX.out.2.2, BX.out.2.1.trans (hb2.mono BX.out.2.1.size)⟩
  clear hb2 MY BX c0 c1 c2 c3
  cases hm : mayB t with
  | false =>
    have HE := Lib.hid (encR_no hm)
    rw [chkT_no hm]
    clear hm
    go_wp2
    go_ret2
    exact ⟨by rw [HE.out]; rfl, BX2.out.2⟩
  | true =>
    have HE := Lib.hid (encR_ok hm)
    rw [chkT_yes hm]
    obtain ⟨⟨m1, m2, m3, m4⟩, m5, m6, m7⟩ := (mayB_iff t).1 hm
    have HZ := Lib.hid (tblS_size hm)
    clear hm
    obtain ⟨d, hd⟩ : ∃ d : Nat, t.da = d := ⟨t.da.toNat, by omega⟩
    obtain ⟨p, hp⟩ : ∃ p : Nat, t.pa = p := ⟨t.pa.toNat, by omega⟩
    obtain ⟨z, hz⟩ : ∃ z : Nat, t.sz = z := ⟨t.sz.toNat, by omega⟩
    obtain ⟨n, hn⟩ : ∃ n, t.ids.length = n := ⟨_, rfl⟩
    have HN := Lib.hid hn
    have HT : Hid (tblH t = bs (putL 1) ++ bs (putL d) ++ bs (putL p) ++ bs (putL z)) := Lib.hid (by rw [tblH, hd, hp, hz]; rfl)
    have hn64 : n ≤ 64 := by omega
    have hd64 : d ≤ 64 := by omega
    have hp64 : p ≤ 64 := by omega
    have hz26 : z ≤ 67108864 := by omega
    have b (n : Nat) : (bs (putL n)).size ≤ 10 := by have := putN_length 9 n; rw [bs_size]; show (putN 9 n).length ≤ _; omega
    have BXC : Hid (∀ W, Below w2.heap.size w2 W → W.cell? ⟨w.heap.size, 0, none⟩ = some (.int .i64 d) ∧ W.cell? ⟨w.heap.size, 1, none⟩ = some (.int .i64 p) ∧ W.cell? ⟨w.heap.size, 2, none⟩ = some (.int .i64 z) ∧ W.cell? ⟨w.heap.size, 3, none⟩ = some (.slice A n c)) := Lib.hid (fun W hW => by
      have := tbl_cells (BX2.out.1.below hW BX2.out.1.lt)
      rw [hd, hp, hz, hn] at this
      exact this)
    rw [hn] at H
    clear hd hp hz hn m1 m2 m3 m4 m5 m6 m7
    have P1 := Lib.hid (fun W => rfl_put W (⟨#[]⟩ : ByteArray) 1 (by omega) (by decide))
    rw [show (⟨#[]⟩ : ByteArray) ++ bs (putL 1) = bs (putL 1) from ByteArray.empty_append, show ((1 : Nat) : Int) = 1 from rfl] at P1
    have z1 := b 1
    obtain ⟨s1, hs1⟩ : ∃ s, bs (putL 1) = s := ⟨_, rfl⟩
    rw [hs1] at P1 HT z1
    have P2 := Lib.hid (fun W => rfl_put W s1 d (by omega) (by omega))
    have z2 := b d
    have zz2 := ByteArray.size_append (a := s1) (b := bs (putL d))
    obtain ⟨s2, hs2⟩ : ∃ s, s1 ++ bs (putL d) = s := ⟨_, rfl⟩
    rw [hs2] at P2 HT zz2
    have P3 := Lib.hid (fun W => rfl_put W s2 p (by omega) (by omega))
    have z3 := b p
    have zz3 := ByteArray.size_append (a := s2) (b := bs (putL p))
    obtain ⟨s3, hs3⟩ : ∃ s, s2 ++ bs (putL p) = s := ⟨_, rfl⟩
    rw [hs3] at P3 HT zz3
    have P4 := Lib.hid (fun W => rfl_put W s3 z (by omega) (by omega))
    have z4 := b z
    have zz4 := ByteArray.size_append (a := s3) (b := bs (putL z))
    obtain ⟨s4, hs4⟩ : ∃ s, s3 ++ bs (putL z) = s := ⟨_, rfl⟩
    rw [hs4] at P4 HT zz4
    have hz4 : s4.size ≤ 40 := by omega
    clear z1 z2 z3 z4 zz2 zz3 zz4 b hs1 hs2 hs3 hs4
    obtain ⟨c0, c1, c2, c3⟩ := BXC.out _ (Below.refl _ _)
    go_wp2_with fail
    go_loopw [5, 22] (fun sv i wr => ((i = .int .i64 0 ∧ sv = .string ⟨#[]⟩) ∨ (i = .int .i64 1 ∧ sv = .string s1) ∨ (i = .int .i64 2 ∧ sv = .string s2) ∨ (i = .int .i64 3 ∧ sv = .string s3) ∨ (i = .int .i64 4 ∧ sv = .string s4)) ∧ Hid (Below w2.heap.size w2 wr)) (fun _ i _ => 4 - (intOf i).toNat)
    case atStart => exact ⟨.inl ⟨rfl, rfl⟩, Lib.hid (Below.refl _ _)⟩
    case round =>
      obtain ⟨hrel, HK⟩ := hrel
      have IX0 : ∀ W, _ := fun W => (index4 1 d p z W).1
      have IX1 : ∀ W, _ := fun W => (index4 1 d p z W).2.1
      have IX2 : ∀ W, _ := fun W => (index4 1 d p z W).2.2.1
      have IX3 : ∀ W, _ := fun W => (index4 1 d p z W).2.2.2
      rcases hrel with ⟨rfl, rfl⟩ | ⟨rfl, rfl⟩ | ⟨rfl, rfl⟩ | ⟨rfl, rfl⟩ | ⟨rfl, rfl⟩
      · go_wp2_with fail
        (with_reducible refine (P1.out _).mono ?_)
        rintro e w3 ⟨rfl, hb3⟩
        have HB3 := Lib.hid (HK.out.trans (hb3.mono HK.out.size))
        clear hb3
        go_wp2
        go_roundw
        case rel => exact ⟨.inr (.inl ⟨by go_num, rfl⟩), HB3⟩
        case measure => simp [intOf]
      · go_wp2_with fail
        (with_reducible refine (P2.out _).mono ?_)
        rintro e w3 ⟨rfl, hb3⟩
        have HB3 := Lib.hid (HK.out.trans (hb3.mono HK.out.size))
        clear hb3
        go_wp2
        go_roundw
        case rel => exact ⟨.inr (.inr (.inl ⟨by go_num, rfl⟩)), HB3⟩
        case measure => simp [intOf]
      · go_wp2_with fail
        (with_reducible refine (P3.out _).mono ?_)
        rintro e w3 ⟨rfl, hb3⟩
        have HB3 := Lib.hid (HK.out.trans (hb3.mono HK.out.size))
        clear hb3
        go_wp2
        go_roundw
        case rel => exact ⟨.inr (.inr (.inr (.inl ⟨by go_num, rfl⟩))), HB3⟩
        case measure => simp [intOf]
      · go_wp2_with fail
        (with_reducible refine (P4.out _).mono ?_)
        rintro e w3 ⟨rfl, hb3⟩
        have HB3 := Lib.hid (HK.out.trans (hb3.mono HK.out.size))
        clear hb3
        go_wp2
        go_roundw
        case rel => exact ⟨.inr (.inr (.inr (.inr ⟨by go_num, rfl⟩))), HB3⟩
        case measure => simp [intOf]
      · have HB6 := Lib.hid HK.out
        clear HK P1 P2 P3 P4 c0 c1 c2 c3 IX0 IX1 IX2 IX3
        obtain ⟨c0, c1, c2, c3⟩ := BXC.out _ HB6.out
        go_wp2_with fail
        go_loopw [5, 33] (fun sv i wr => ∃ (k : Nat), k ≤ n ∧ i = .int .i64 k ∧ sv = .string (s4 ++ idsB (t.ids.take k)) ∧ Hid (Below w2.heap.size w2 wr)) (fun _ i _ => n - (intOf i).toNat)
        case atStart => exact ⟨0, by omega, rfl, by rw [List.take_zero, idsB, ByteArray.append_empty], HB6⟩
        case round =>
          obtain ⟨k, hk, rfl, rfl, HK⟩ := hrel
          by_cases hlt : k < n
          · have HIR : IdR wr B (.slice A n c) t.ids := (H.out.below (BX2.out.2.mono hB)).below (HK.out.mono (Nat.le_trans hB BX2.out.2.size))
            obtain ⟨g, rfl, hb1, o1, r1⟩ := HIR.at2 (i := k) (by rw [HN.out]; exact hlt)
            have hkl : k < t.ids.length := by rw [HN.out]; exact hlt
            have ES : Hid (s4 ++ idsB (t.ids.take (k + 1)) = s4 ++ idsB (t.ids.take k) ++ bs ((List.range 32).map t.ids[k])) := Lib.hid (by rw [idsB_take _ _ hkl, ByteArray.append_assoc]; rfl)
            obtain ⟨I, hI⟩ : ∃ I, t.ids[k] = I := ⟨_, rfl⟩
            rw [hI] at r1 ES
            clear hI HIR hb1 hkl
            obtain ⟨o2, n2, n3⟩ := new_id wr I
            have f1 := idA_full I
            have NI : Hid ((put32 (wr.alloc zeroId) wr.heap.size 0 (idA I)).rowIs wr.heap.size 27 32 (u8V I) ∧ Below w2.heap.size w2 (put32 (wr.alloc zeroId) wr.heap.size 0 (idA I))) := Lib.hid ⟨n2, HK.out.trans (n3.mono HK.out.size)⟩
            unfold zeroId at o2
            have hki : (k : Int) < (n : Int) := by omega
            have hk0 : (0 : Int) ≤ (k : Int) := by omega
            clear n2 n3
            go_upto_region 13 with fail
            change Code.wp _ _ _ _ (put32 (wr.alloc zeroId) wr.heap.size 0 (idA I))
            generalize put32 (wr.alloc zeroId) wr.heap.size 0 (idA I) = w7 at NI ⊢
            generalize wr.heap.size = xb at NI ⊢
            clear o1 r1 o2 f1
            have RC : Hid (∀ j, j < 32 → w7.cell? (({ block := xb, off := 0 } : Addr).add j) = some (.int .u8 ((((List.range 32).map I).getD j 0).toNat : Int))) := Lib.hid (fun j hj => by
              rw [add0, NI.out.1.cell hj]; simp [u8V, List.getD, hj])
            have L32 : Hid (((List.range 32).map I).length = 32) := Lib.hid (by simp)
            have hall : ∀ W, (Instr.sliceAt 27 (.pointer (some ⟨xb, 0, none⟩)) none none none).run Try.prog W = .ok (.slice (some ⟨xb, 0, none⟩) 32 32) W := fun W => by
              obtain ⟨i, hi⟩ := Option.isSome_iff_exists.1 (show (Try.prog.info? 5).isSome = true by kernel_rfl)
              exact run_all_array (P := Try.prog) W (t := 27) (n := 32) (by kernel_rfl) hi _
            generalize ((List.range 32).map I) = l at RC L32 ES
            have hlz : (bs l).size ≤ 32 := by rw [bs_size, L32.out]; exact Nat.le_refl _
            have hsz : (s4 ++ idsB (t.ids.take k)).size ≤ 5000 := by
              have := idsB_size (t.ids.take k)
              rw [ByteArray.size_append, this, List.length_take]
              omega
            generalize s4 ++ idsB (t.ids.take k) = sx at ES hsz ⊢
            go_wp2_with (with_reducible refine conv_str_wp (e := 5) (by kernel_rfl) (by kernel_rfl) (by kernel_rfl) rfl _ rfl ⟨xb, 0, none⟩ 32 32 rfl l L32.out RC.out ?_)
            go_roundw
            case rel => exact ⟨k + 1, by omega, by go_num, by rw [ES.out], Lib.hid NI.out.2⟩
            case measure => simp [intOf]; omega
          · obtain rfl : k = n := by omega
            have ET : Hid (s4 ++ idsB (t.ids.take k) = tblS t) := Lib.hid (by rw [List.take_of_length_le (by rw [HN.out]; exact Nat.le_refl _), tblS, HT.out])
            have FR := Lib.hid (frame_any (tblS t) wr (by have := HZ.out; omega))
            rw [← ET.out] at FR
            have HE2 : Hid (encR t = (frmB (s4 ++ idsB (t.ids.take k)), 0)) := Lib.hid (by rw [HE.out, ET.out])
            clear ET
            generalize s4 ++ idsB (t.ids.take k) = sx at FR HE2 ⊢
            go_wp2_with fail
            (with_reducible refine FR.out.mono ?_)
            rintro e w7 ⟨rfl, hb7⟩
            have HB7 : Hid (Below w.heap.size w w7) := Lib.hid (by
              have q := BX2.out.2.trans (HK.out.mono BX2.out.2.size)
              exact q.trans (hb7.mono q.size))
            clear hb7 FR
            go_wp2
            go_ret2
            exact ⟨by rw [HE2.out]; rfl, HB7.out⟩
end Go.Proofs.Ytfoandpcoakcjaa
namespace Go.Proofs.Ytfoandpcoakcjaa
open Go.RowKit Wir
set_option linter.unusedVariables false
set_option linter.unusedSimpArgs false
attribute [local go_sem ↓] execOp_ld32 execOp_st32
attribute [local go_sem] run_ld32 run_st32
set_option maxRecDepth 100000 in
set_option maxHeartbeats 1000000 in
theorem rids_any (v v' : Value) (L : List Idn) (w : World) (B : Nat) (h : IdR w B v L) (h' : IdR w B v' L) (hn : L.length ≤ 4611686018427387904) : Calls Try.prog 10 #[v, v'] w fun e w' => e = .returned (.bool true) ∧ Below w.heap.size w w' := by
  have H := Lib.hid h
  have H' := Lib.hid h'
  obtain ⟨A, c, rfl, hc⟩ := h.slice
  obtain ⟨A', c', rfl, hc'⟩ := h'.slice
  clear h h' hc hc'
  obtain ⟨n, hLn⟩ : ∃ n, L.length = n := ⟨_, rfl⟩
  have HL := Lib.hid hLn
  rw [hLn] at H H' hn ⊢
  clear hLn
  go_enter Try.func10, Try.ntmps10
  go_wp2_with fail
  go_loopw [5] (fun i wr => ∃ (k : Nat), k ≤ n ∧ i = .int .i64 k ∧ Hid (Below w.heap.size w wr ∧ IdR wr B (.slice A n c) L ∧ IdR wr B (.slice A' n c') L)) (fun i _ => n - (intOf i).toNat)
  case atStart => exact ⟨0, by omega, rfl, Lib.hid ⟨Below.refl _ _, H.out, H'.out⟩⟩
  case round =>
    obtain ⟨k, hk, rfl, HK⟩ := hrel
    by_cases hlt : k < n
    · obtain ⟨g, c2, e1, hb1, o1, r1⟩ := HK.out.2.1.at_ (i := k) (by rw [HL.out]; exact hlt)
      obtain ⟨g', c3, e2, hb2, o2, r2⟩ := HK.out.2.2.at_ (i := k) (by rw [HL.out]; exact hlt)
      injection e1 with e1 _ _
      injection e2 with e2 _ _
      subst e1 e2
      obtain ⟨I, hI⟩ : ∃ I, L[k]'(by rw [HL.out]; exact hlt) = I := ⟨_, rfl⟩
      rw [hI] at r1 r2
      have f1 := eq_ids I I
      rw [eqB_same] at f1
      have hki : (k : Int) < (n : Int) := by omega
      have hk0 : (0 : Int) ≤ (k : Int) := by omega
      clear hI hb1 hb2
      go_upto_region 6 with fail
      have SA : ok32 wr.drew g (k * 32) = true ∧ row32 wr.drew g (k * 32) = idA I ∧ ok32 wr.drew g' (k * 32) = true ∧ row32 wr.drew g' (k * 32) = idA I := ⟨o1, r1, o2, r2⟩
      clear o1 r1 o2 r2
      refine wp_region_held_drew (S := fun w' => ok32 w' g (k * 32) = true ∧ row32 w' g (k * 32) = idA I ∧ ok32 w' g' (k * 32) = true ∧ row32 w' g' (k * 32) = idA I) (by kernel_rfl) (by exact SA) (fun hHeld => ?_)
      refine wpAnyH_take (i := 0) (oi := { dst := some 17, op := .move (.tmp 0), type := 23, pos := "ref.go:328", after := #[], guard := none }) (v := _) rfl (by as_aux_lemma => kernel_rfl) (by as_aux_lemma => kernel_rfl) (by as_aux_lemma => kernel_rfl) (fun _ _ _ h => h) (Or.inl ⟨by kernel_rfl, by (intro w hSw; (try dsimp only at hSw); go_simp; first | done | with_reducible rfl)⟩) (by assumption) ?_
      (try simp only [List.getElem_toArray, List.getElem_cons_succ, List.getElem_cons_zero, Act.put, List.setIfInBounds_toArray, List.set_cons_zero, List.set_cons_succ])
      refine wpAnyH_take (i := 1) (oi := { dst := some 18, op := .move (.tmp 5), type := 3, pos := "ref.go:328", after := #[], guard := none }) (v := _) rfl (by as_aux_lemma => kernel_rfl) (by as_aux_lemma => kernel_rfl) (by as_aux_lemma => kernel_rfl) (fun _ _ _ h => h) (Or.inl ⟨by kernel_rfl, by (intro w hSw; (try dsimp only at hSw); go_simp; first | done | with_reducible rfl)⟩) (by assumption) ?_
      (try simp only [List.getElem_toArray, List.getElem_cons_succ, List.getElem_cons_zero, Act.put, List.setIfInBounds_toArray, List.set_cons_zero, List.set_cons_succ])
      refine wpAnyH_take (i := 2) (oi := { dst := some 19, op := .indexAddr 23 (.tmp 17) (.tmp 18), type := 0, pos := "ref.go:328", after := #[{ on := 0, ground := .data }, { on := 1, ground := .data }], guard := none }) (v := _) rfl (by as_aux_lemma => kernel_rfl) (by as_aux_lemma => kernel_rfl) (by as_aux_lemma => kernel_rfl) (fun _ _ _ h => h) (Or.inl ⟨by kernel_rfl, by (intro w hSw; (try dsimp only at hSw); go_simp; first | done | with_reducible rfl)⟩) (by assumption) ?_
      (try simp only [List.getElem_toArray, List.getElem_cons_succ, List.getElem_cons_zero, Act.put, List.setIfInBounds_toArray, List.set_cons_zero, List.set_cons_succ])
      refine wpAnyH_take (i := 3) (oi := { dst := some 20, op := .load 27 (.tmp 19), type := 27, pos := "ref.go:328", after := #[{ on := 2, ground := .data }], guard := none }) (v := _) rfl (by as_aux_lemma => kernel_rfl) (by as_aux_lemma => kernel_rfl) (by as_aux_lemma => kernel_rfl) (fun _ _ _ h => h) (Or.inl ⟨by kernel_rfl, by (intro w hSw; (try dsimp only at hSw); go_simp; first | done | with_reducible rfl)⟩) (by assumption) ?_
      (try simp only [List.getElem_toArray, List.getElem_cons_succ, List.getElem_cons_zero, Act.put, List.setIfInBounds_toArray, List.set_cons_zero, List.set_cons_succ])
      refine wpAnyH_take (i := 4) (oi := { dst := some 21, op := .move (.tmp 1), type := 23, pos := "ref.go:328", after := #[], guard := none }) (v := _) rfl (by as_aux_lemma => kernel_rfl) (by as_aux_lemma => kernel_rfl) (by as_aux_lemma => kernel_rfl) (fun _ _ _ h => h) (Or.inl ⟨by kernel_rfl, by (intro w hSw; (try dsimp only at hSw); go_simp; first | done | with_reducible rfl)⟩) (by assumption) ?_
      (try simp only [List.getElem_toArray, List.getElem_cons_succ, List.getElem_cons_zero, Act.put, List.setIfInBounds_toArray, List.set_cons_zero, List.set_cons_succ])
      refine wpAnyH_take (i := 5) (oi := { dst := some 22, op := .move (.tmp 5), type := 3, pos := "ref.go:328", after := #[], guard := none }) (v := _) rfl (by as_aux_lemma => kernel_rfl) (by as_aux_lemma => kernel_rfl) (by as_aux_lemma => kernel_rfl) (fun _ _ _ h => h) (Or.inl ⟨by kernel_rfl, by (intro w hSw; (try dsimp only at hSw); go_simp; first | done | with_reducible rfl)⟩) (by assumption) ?_
      (try simp only [List.getElem_toArray, List.getElem_cons_succ, List.getElem_cons_zero, Act.put, List.setIfInBounds_toArray, List.set_cons_zero, List.set_cons_succ])
      refine wpAnyH_take (i := 6) (oi := { dst := some 23, op := .indexAddr 23 (.tmp 21) (.tmp 22), type := 0, pos := "ref.go:328", after := #[{ on := 4, ground := .data }, { on := 5, ground := .data }], guard := none }) (v := _) rfl (by as_aux_lemma => kernel_rfl) (by as_aux_lemma => kernel_rfl) (by as_aux_lemma => kernel_rfl) (fun _ _ _ h => h) (Or.inl ⟨by kernel_rfl, by (intro w hSw; (try dsimp only at hSw); go_simp; first | done | with_reducible rfl)⟩) (by assumption) ?_
      (try simp only [List.getElem_toArray, List.getElem_cons_succ, List.getElem_cons_zero, Act.put, List.setIfInBounds_toArray, List.set_cons_zero, List.set_cons_succ])
      refine wpAnyH_take (i := 7) (oi := { dst := some 24, op := .load 27 (.tmp 23), type := 27, pos := "ref.go:328", after := #[{ on := 6, ground := .data }], guard := none }) (v := _) rfl (by as_aux_lemma => kernel_rfl) (by as_aux_lemma => kernel_rfl) (by as_aux_lemma => kernel_rfl) (fun _ _ _ h => h) (Or.inl ⟨by kernel_rfl, by (intro w hSw; (try dsimp only at hSw); go_simp; first | done | with_reducible rfl)⟩) (by assumption) ?_
      (try simp only [List.getElem_toArray, List.getElem_cons_succ, List.getElem_cons_zero, Act.put, List.setIfInBounds_toArray, List.set_cons_zero, List.set_cons_succ])
      refine wpAnyH_take (i := 8) (oi := { dst := some 25, op := .binOp BinOp.neq 27 (.tmp 20) (.tmp 24) 27, type := 4, pos := "ref.go:328", after := #[{ on := 3, ground := .data }, { on := 7, ground := .data }], guard := none }) (v := _) rfl (by as_aux_lemma => kernel_rfl) (by as_aux_lemma => kernel_rfl) (by as_aux_lemma => kernel_rfl) (fun _ _ _ h => h) (Or.inl ⟨by kernel_rfl, by (intro w hSw; (try dsimp only at hSw); go_simp; first | done | with_reducible rfl)⟩) (by assumption) ?_
      (try simp only [List.getElem_toArray, List.getElem_cons_succ, List.getElem_cons_zero, Act.put, List.setIfInBounds_toArray, List.set_cons_zero, List.set_cons_succ])
      refine wpAnyH_done (by as_aux_lemma => kernel_rfl) ?_ _
      go_wp2
      go_roundw
      case rel => exact ⟨k + 1, by omega, by go_num, Lib.hid ⟨HK.out.1.drew, HK.out.2⟩⟩
      case measure => simp [intOf]; omega
    · obtain rfl : k = n := by omega
      go_wp2
      go_ret
      exact ⟨rfl, HK.out.1⟩

set_option maxRecDepth 100000 in
set_option maxHeartbeats 1000000 in
theorem alike_any (t : Tbl) (v v' : Value) (w : World) (B : Nat) (h : IdR w B v t.ids) (h' : IdR w B v' t.ids) (hB : B ≤ w.heap.size) (hn : t.ids.length ≤ 4611686018427387904) :
    Calls Try.prog 13 #[.agg (tblA t v), .agg (tblA t v')] w fun e w' => e = .returned (.bool true) ∧ Below w.heap.size w w' := by
  have BX : Hid (Blk ((w.alloc (.cells (tblA t v) 29)).alloc (.cells (tblA t v') 25)) w.heap.size 29 (tblA t v) ∧ Blk ((w.alloc (.cells (tblA t v) 29)).alloc (.cells (tblA t v') 25)) (w.heap.size + 1) 25 (tblA t v') ∧ Below w.heap.size w ((w.alloc (.cells (tblA t v) 29)).alloc (.cells (tblA t v') 25))) := Lib.hid ⟨(Blk.new _ _ _).alloc _, by
    have := Blk.new (w.alloc (.cells (tblA t v) 29)) 25 (tblA t v')
    rwa [show (w.alloc (.cells (tblA t v) 29)).heap.size = w.heap.size + 1 from by simp] at this, ((Below.refl _ _).alloc (Nat.le_refl _) _).alloc (by simp) _⟩
  obtain ⟨A, c, rfl, _⟩ := h.slice
  obtain ⟨A', c', rfl, _⟩ := h'.slice
  go_enter Try.func13, Try.ntmps13
  go_upto_region 1 with fail
  change Code.wp _ _ _ _ ((w.alloc (.cells (tblA t (.slice A t.ids.length c)) 29)).alloc (.cells (tblA t (.slice A' t.ids.length c')) 25))
  generalize (w.alloc (.cells (tblA t (.slice A t.ids.length c)) 29)).alloc (.cells (tblA t (.slice A' t.ids.length c')) 25) = w1 at BX ⊢
  have RI := Lib.hid (rids_any _ _ t.ids w1 B (h.below (BX.out.2.2.mono hB)) (h'.below (BX.out.2.2.mono hB)) hn)
  obtain ⟨c0, c1, c2, c3⟩ := tbl_cells BX.out.1
  obtain ⟨d0, d1, d2, d3⟩ := tbl_cells BX.out.2.1
  have q0 : (t.da == t.da) = true := beq_self_eq_true _
  have q1 : (t.pa == t.pa) = true := beq_self_eq_true _
  have q2 : (t.sz == t.sz) = true := beq_self_eq_true _
  clear h h'
  go_wp2_with fail
  (with_reducible refine RI.out.mono ?_)
  rintro e w2 ⟨rfl, hb2⟩
  have HB2 := Lib.hid (BX.out.2.2.trans (hb2.mono BX.out.2.2.size))
  clear hb2 RI
  go_wp2
  go_ret
  exact ⟨rfl, HB2.out⟩
end Go.Proofs.Ytfoandpcoakcjaa
namespace Go.Proofs.Ytfoandpcoakcjaa
open Go.RowKit
set_option linter.unusedVariables false
set_option linter.unusedSimpArgs false
attribute [local go_sem ↓] execOp_ld32 execOp_st32
attribute [local go_sem] run_ld32 run_st32
theorem results_id1 {fn : Func} {p : Tmp} {ty e : TypeId} {n : Nat} (h : fn.results = #[.cell p ty]) (tmps : Array Value) {P : Program} (w : World) (g : Nat) (t : TypeId) (cs : Array Value) (fr : Nat × Nat)
    (hp : tmps.getD p undef = .pointer (some ⟨g, 0, none⟩)) (hg : w.heap[g]? = some (.cells cs t fr))
    (hu : P.underlying ty = some (.array n e)) (hi : (P.info? ty).map (·.size) = some cs.size) :
    (results fn tmps).run P w = .ok (.agg cs) w := by
  have hp' : tmps[p]?.getD undef = .pointer (some ⟨g, 0, none⟩) := by simpa using hp
  simp [results, h, hp', asAddr, run_loadVar_row w g t ty cs fr (.array n e) hg hu rfl hi]
set_option maxRecDepth 100000 in
set_option maxHeartbeats 1000000 in
theorem idF_any (s : ByteArray) (w : World) (hs : s.size ≤ 9223372036854775807) :
    Calls Try.prog 5 #[.string s] w fun e w' => e = .returned (.agg (idA (byteAt s))) ∧ Below w.heap.size w w' := by
  have ZR := Lib.hid (zero_rows w)
  go_enter Try.func5, Try.ntmps5
  go_upto_region 2 with fail
  change Code.wp _ _ _ _ ((w.alloc zeroId).alloc zeroId)
  generalize (w.alloc zeroId).alloc zeroId = w2 at ZR ⊢
  go_wp2_with fail
  go_loopw [4] (fun i wr => ∃ k : Nat, k ≤ 32 ∧ k ≤ s.size ∧ i = .int .i64 k ∧ Hid (wr.rowIs w.heap.size 27 32 (fun _ => .int .u8 0) ∧ wr.rowIs (w.heap.size + 1) 27 32 (u8V (idS s k)) ∧ Below w.heap.size w wr)) (fun i _ => 32 - (intOf i).toNat)
  case atStart => exact ⟨0, by omega, by omega, rfl, Lib.hid ⟨ZR.out.1, ZR.out.2.1.congr fun i _ => by unfold idS; simp only [u8V]; rw [if_neg (by omega)]; rfl, ZR.out.2.2⟩⟩
  case round =>
    obtain ⟨k, hk, hks, rfl, HL⟩ := hrel
    by_cases hgo : k < s.size ∧ k < 32
    · obtain ⟨h1, h2⟩ := hgo
      obtain ⟨v1, hc1⟩ : ∃ v, wr.cell? ⟨w.heap.size + 1, k, none⟩ = some v := ⟨_, HL.out.2.1.cell h2⟩
      have hf1 : wr.frozen? ⟨w.heap.size + 1, k, none⟩ = false := HL.out.2.1.frozen _
      have hk32 : (k : Int) < 32 := by omega
      have hki : (k : Int) < (s.size : Int) := by omega
      have hk0 : (0 : Int) ≤ (k : Int) := by omega
      have E := Lib.hid (byteAt_get s k h1)
      have HL' : Hid ((wr.setCell ⟨w.heap.size + 1, k, none⟩ (.int .u8 ((s[k].toNat : Nat) : Int))).rowIs w.heap.size 27 32 (fun _ => .int .u8 0) ∧ (wr.setCell ⟨w.heap.size + 1, k, none⟩ (.int .u8 ((s[k].toNat : Nat) : Int))).rowIs (w.heap.size + 1) 27 32 (u8V (idS s (k + 1))) ∧ Below w.heap.size w (wr.setCell ⟨w.heap.size + 1, k, none⟩ (.int .u8 ((s[k].toNat : Nat) : Int)))) := Lib.hid ⟨HL.out.1.of_block (Below.heap_setCell _ _ _ _ (by show w.heap.size ≠ w.heap.size + 1; omega)), (HL.out.2.1.set k _).congr (fun i hi => by
          simp only [u8V, idS]
          by_cases e : i = k
          · rw [if_pos e, if_pos (by omega), e, E.out]
          · rw [if_neg e]
            by_cases h3 : i < k
            · rw [if_pos h3, if_pos (by omega)]
            · rw [if_neg h3, if_neg (by omega)]), HL.out.2.2.setCell (p := ⟨w.heap.size + 1, k, none⟩) (by show _ ≤ w.heap.size + 1; omega) _⟩
      go_wp2
      go_roundw
      case rel => exact ⟨k + 1, by omega, by omega, by go_num, HL'⟩
      case measure => simp [intOf]; omega
    · have hend : 32 ≤ k ∨ s.size ≤ k := by omega
      have e1 : row32 wr (w.heap.size + 1) 0 = idA (byteAt s) := id_end HL.out.2.1 hend
      have o1 := ok32_of HL.out.2.1 (off := 0) (by omega)
      have o2 := ok32_of HL.out.1 (off := 0) (by omega)
      have f1 := idA_full (byteAt s)
      have HQ := Lib.hid (id_put (byteAt s) HL.out.1 HL.out.2.2 (Nat.le_refl _))
      have hc : s.size ≤ k ∨ (k < s.size ∧ 32 ≤ k) := by omega
      clear hgo hend
      rcases hc with h | ⟨h, h'⟩
      · have hi : ¬ (k : Int) < (s.size : Int) := by omega
        go_wp2
        exact bodyPost_ret (results_id1 (p := 2) rfl _ _ w.heap.size 27 (idA (byteAt s)) (0, 0) rfl HQ.out.1 Try.underlying27 (by rw [idA_size]; kernel_rfl)) rfl ⟨rfl, HQ.out.2⟩
      · have hi : (k : Int) < (s.size : Int) := by omega
        have hi2 : ¬ (k : Int) < 32 := by omega
        go_wp2
        exact bodyPost_ret (results_id1 (p := 2) rfl _ _ w.heap.size 27 (idA (byteAt s)) (0, 0) rfl HQ.out.1 Try.underlying27 (by rw [idA_size]; kernel_rfl)) rfl ⟨rfl, HQ.out.2⟩
end Go.Proofs.Ytfoandpcoakcjaa
