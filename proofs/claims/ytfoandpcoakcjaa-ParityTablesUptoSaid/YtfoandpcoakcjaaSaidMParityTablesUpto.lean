/- Walk: the table that a payload says, the program's. Conditions: the text can be held. -/
import Derived.Test.YtfoandpcoakcjaaMgParityTablesUpto3
import Derived.Test.YtfoandpcoakcjaaMgParityTablesUpto4
import Derived.Deep.DeepCutAuto
namespace Go.Proofs.Ytfoandpcoakcjaa
open Go.RowKit Wir
set_option linter.unusedVariables false
set_option linter.unusedSimpArgs false
attribute [local go_sem ↓] execOp_ld32 execOp_st32 execOp_bslI
attribute [local go_sem] run_ld32 run_st32 run_bslI
theorem bytes_below' (W : World) (t : ByteArray) : Below W.heap.size W (Lib.bytesWorld W 5 t) := by
  refine ⟨?_, ?_, ?_, ?_, fun k hk => Lib.bytesWorld_at_old W _ t k hk⟩
  · simp [Lib.bytesWorld, World.freeze, World.alloc, World.drew, -World.alloc_eq, -World.drew_eq]
  · simp [Lib.bytesWorld, World.freeze, World.alloc, World.drew, -World.alloc_eq, -World.drew_eq]
  · simp [Lib.bytesWorld, World.freeze, World.alloc, World.drew, -World.alloc_eq, -World.drew_eq]
  · rw [Lib.bytesWorld_size]; omega
theorem ex_zero (r : ByteArray) : r.extract 0 r.size = r := by
  refine ext_byteAt (by rw [ByteArray.size_extract]; omega) fun i hi => ?_
  rw [ByteArray.size_extract] at hi
  rw [byteAt_part _ _ _ _ (by omega) (Nat.le_refl _), Nat.zero_add]
theorem uint_np (s : ByteArray) (R : Nat) (w : World) (h : Rdr w R s) (hs : s.size ≤ 9223372036854775807) :
    Calls Try.prog 59 #[.pointer (some ⟨R, 0, none⟩)] w
      fun e w' => e = .returned (.tuple #[.int .u64 (nvN s : Int), .int .i64 (uintE s)]) ∧ Rdr w' R (uintS s) ∧ w.grownBy w' (some R) := uint_g s R w h hs
set_option maxRecDepth 100000 in
set_option maxHeartbeats 4000000 in
theorem said_any (s : ByteArray) (w : World) (hs : s.size ≤ 140737488355328) :
    Calls Try.prog 31 #[.string s] w fun e w' => ∃ v, e = .returned (.tuple #[.agg (tblA (sayR s).1 v), .bool (sayR s).2]) ∧ w'.ownsRow w.heap.size 27 32 v (sayR s).1.ids.length (idsV (sayR s).1.ids) ∧ Below w.heap.size w w' := by
  have H0 : Hid (Blk (w.alloc (.cells (tblA zTbl (.slice none 0 0)) 29)) w.heap.size 29 (tblA zTbl (.slice none 0 0)) ∧ Below w.heap.size w (w.alloc (.cells (tblA zTbl (.slice none 0 0)) 29)) ∧ (w.alloc (.cells (tblA zTbl (.slice none 0 0)) 29)).heap.size = w.heap.size + 1) := Lib.hid ⟨Blk.new _ _ _, (Below.refl _ _).alloc (Nat.le_refl _) _, by simp⟩
  go_enter Try.func31, Try.ntmps31
  go_upto_region 1 with fail
  change Code.wp _ _ _ _ (w.alloc (.cells (tblA zTbl (.slice none 0 0)) 29))
  generalize w.alloc (.cells (tblA zTbl (.slice none 0 0)) 29) = w0 at H0 ⊢
  go_wp2_with fail
  (with_reducible refine (newReader_any s _).mono ?_)
  rintro e w2 ⟨rfl, hr2, hb2⟩
  rw [H0.out.2.2] at hr2 hb2 ⊢
  have HI0 : Hid (PyI 135 29 w (w2.alloc (.cells (arr4 0 s) 60)) 0 s w.heap.size (w.heap.size + 1) w2.heap.size) := Lib.hid (by
    have b : Below w.heap.size w w2 := H0.out.2.1.trans (hb2.mono (by omega))
    refine ⟨(H0.out.1.below hb2 (by omega)).alloc _, Blk.alloc hr2 _, Blk.new _ _ _, b.alloc b.size _, ?_⟩
    have := Blk.lt hr2
    omega)
  clear hr2 hb2 H0
  go_upto_region 3 with fail
  change Code.wp _ _ _ _ (w2.alloc (.cells (arr4 0 s) 60))
  generalize w2.alloc (.cells (arr4 0 s) 60) = w1 at HI0 ⊢
  generalize w2.heap.size = nb at HI0 ⊢
  go_wp2_with fail
  go_loopw [14] (fun i wr => ∃ (k : Nat), k ≤ 4 ∧ i = .int .i64 k ∧ Hid (noks k s = true ∧ PyI 135 29 w wr k s w.heap.size (w.heap.size + 1) nb)) (fun i _ => 4 - (intOf i).toNat)
  case atStart => exact ⟨0, by omega, rfl, Lib.hid ⟨rfl, HI0.out⟩⟩
  case round =>
    obtain ⟨k, hk, rfl, HI⟩ := hrel
    by_cases hk4 : k < 4
    · as_aux_lemma =>
      have hz := nxK_size k s
      have U := Lib.hid (uint_np (nxK k s) (w.heap.size + 1) wr HI.out.2.rd (by omega))
      have HST := Lib.hid (fun w' hr hg => HI.out.2.store (w' := w') hk4 hr hg)
      have HSTEP : Hid (nok (nxK k s) = true → noks (k + 1) s = true) := Lib.hid (fun h => by rw [noks_step, HI.out.1, h]; rfl)
      have HFAIL : Hid (nok (nxK k s) = false → sayR s = (zTbl, false)) := Lib.hid (fun h => say_no (by
        cases hn : noks 4 s with
        | false => rfl
        | true =>
          have := noks_less (k := k + 1) (m := 4) (by omega) hn
          rw [noks_step, h, Bool.and_false] at this
          cases this))
      have hNOK : Hid (nok (nxK k s) = (decide (uintE (nxK k s) = 0) && decide (nvN (nxK k s) ≤ 67108864))) := Lib.hid rfl
      have h64 := short_64 (nxK k s)
      have hN64 : nvN (nxK k s) < 18446744073709551616 := h64
      generalize nvN (nxK k s) = N at *
      obtain ⟨u, hu⟩ : ∃ u, uintE (nxK k s) = u := ⟨_, rfl⟩
      rw [hu] at U hNOK
      clear h64 hu
      have hki : (k : Int) < 4 := by omega
      have hk0 : (0 : Int) ≤ (k : Int) := by omega
      go_wp2_with fail
      (with_reducible refine U.out.mono ?_)
      rintro e w2 ⟨rfl, hr2, hg2⟩
      obtain ⟨q1, q2, q3, q4⟩ := HST.out w2 hr2 hg2
      have HQ := Lib.hid (And.intro q1 (And.intro q2 (And.intro q3 q4)))
      clear q1 q2 q3 q4 hr2 hg2 U HST
      by_cases hg : u = 0 ∧ N ≤ 67108864
      · obtain ⟨rfl, hN⟩ := hg
        have HS := Lib.hid (HSTEP.out (by rw [hNOK.out]; simp [hN]))
        clear HSTEP HFAIL hNOK
        obtain ⟨u0, hc0⟩ := arr_one HQ.out.1 k hk4
        have f0 : w2.frozen? ⟨nb, k, none⟩ = false := HQ.out.1.frozen k
        go_wp2
        go_roundw
        case rel => exact ⟨k + 1, by omega, by go_num, Lib.hid ⟨HS.out, HQ.out.2.2.2⟩⟩
        case measure => simp [intOf]; omega
      · have HS := Lib.hid (HFAIL.out (by rw [hNOK.out]; simp only [Bool.and_eq_false_iff, decide_eq_false_iff_not]; omega))
        clear HSTEP HFAIL hNOK
        obtain ⟨z0, z1, z2, z3⟩ := tbl_cells HQ.out.2.1
        have g0 : ∀ i, w2.frozen? ⟨w.heap.size, i, none⟩ = false := fun i => HQ.out.2.1.frozen i
        have HZ : Hid (Blk (set4 w2 w.heap.size (.int .i64 0) (.int .i64 0) (.int .i64 0) (.slice none 0 0)) w.heap.size 29 (tblA zTbl (.slice none 0 0)) ∧ Below w.heap.size w (set4 w2 w.heap.size (.int .i64 0) (.int .i64 0) (.int .i64 0) (.slice none 0 0))) := Lib.hid ⟨set4_blk HQ.out.2.1 _ _ _ _, set4_below HQ.out.2.2.1 (Nat.le_refl _) _ _ _ _⟩
        have hb : u ≠ 0 ∨ (u = 0 ∧ 67108864 < N) := by omega
        clear hg
        rcases hb with h | ⟨rfl, h⟩
        · have b1 : (u != 0) = true := by rw [bne_iff_ne]; exact h
          clear h
          go_wp2
          exact bodyPost_ret (results_tbl (p := 2) (u := 3) rfl _ _ w.heap.size 29 (tblA zTbl (.slice none 0 0)) (0, 0) rfl HZ.out.1 Try.underlying29 (by kernel_rfl)) rfl ⟨.slice none 0 0, by rw [HS.out]; rfl, by rw [HS.out]; exact World.ownsRow_nil _ _ _ _, HZ.out.2⟩
        · go_wp2
          exact bodyPost_ret (results_tbl (p := 2) (u := 3) rfl _ _ w.heap.size 29 (tblA zTbl (.slice none 0 0)) (0, 0) rfl HZ.out.1 Try.underlying29 (by kernel_rfl)) rfl ⟨.slice none 0 0, by rw [HS.out]; rfl, by rw [HS.out]; exact World.ownsRow_nil _ _ _ _, HZ.out.2⟩
    · obtain rfl : k = 4 := by omega
      rw [show ((4 : Nat) : Int) = 4 from rfl]
      have HNK := Lib.hid HI.out.1
      have nbd (i : Nat) (hi : i < 4) : nvN (nxK i s) ≤ 67108864 := by
        have h := HNK.out
        unfold noks at h
        rw [List.all_eq_true] at h
        have := h i (by rw [List.mem_range]; exact hi)
        unfold nok at this
        rw [Bool.and_eq_true, decide_eq_true_eq, decide_eq_true_eq] at this
        exact this.2
      have b0 := nbd 0 (by omega)
      have b1 := nbd 1 (by omega)
      have b2 := nbd 2 (by omega)
      have b3 := nbd 3 (by omega)
      have HSB : Hid (sayB s = (decide (nvN s = 1) && (uniB (nvN (nxK 1 s)) (nvN (nxK 2 s)) && decide ((nxK 4 s).size = 32 * (nvN (nxK 1 s) + nvN (nxK 2 s)))))) := Lib.hid (by unfold sayB; rw [HNK.out, Bool.true_and])
      have HSY : Hid (sayB s = true → sayR s = (⟨nvN (nxK 1 s), nvN (nxK 2 s), nvN (nxK 3 s), sumsF (nxK 4 s) (nvN (nxK 1 s) + nvN (nxK 2 s))⟩, true)) := Lib.hid (fun h => if_pos h)
      have HSN : Hid (sayB s = false → sayR s = (zTbl, false)) := Lib.hid (fun h => if_neg (by rw [h]; decide))
      obtain ⟨c0, c1, c2, c3⟩ := arr_cells HI.out.2.arr
      have v0 : nv4 s 4 0 = (nvN s : Int) := rfl
      have v1 : nv4 s 4 1 = (nvN (nxK 1 s) : Int) := rfl
      have v2 : nv4 s 4 2 = (nvN (nxK 2 s) : Int) := rfl
      have v3 : nv4 s 4 3 = (nvN (nxK 3 s) : Int) := rfl
      rw [v0] at c0
      rw [v1] at c1
      rw [v2] at c2
      rw [v3] at c3
      have hz := nxK_size 4 s
      have HAR : Hid (Blk wr nb 60 (arr4 4 s)) := Lib.hid HI.out.2.arr
      have HRD : Hid (Blk wr w.heap.size 29 (tblA zTbl (.slice none 0 0)) ∧ Blk wr (w.heap.size + 1) 135 #[.string (nxK 4 s)] ∧ Below w.heap.size w wr) := Lib.hid ⟨HI.out.2.res, HI.out.2.rd, HI.out.2.below⟩
      have HAC : Hid (∀ W, Below wr.heap.size wr W → W.cell? ⟨nb, 0, none⟩ = some (.int .i64 (nvN s))) := Lib.hid (fun W hW => by
        have := (arr_cells (HAR.out.below hW HAR.out.lt)).1
        rwa [v0] at this)
      clear v0 v1 v2 v3 nbd HI
      have e0 : nvN (nxK 0 s) = nvN s := rfl
      rw [e0] at b0
      generalize nxK 4 s = r at *
      generalize nvN (nxK 1 s) = d at *
      generalize nvN (nxK 2 s) = p at *
      generalize nvN (nxK 3 s) = z at *
      generalize nvN s = m at *
      clear e0
      have PT0 : Hid (PyT 135 29 w (wr.alloc (.cells (tblA ⟨d, p, z, []⟩ (.slice none 0 0)) 29)) ⟨d, p, z, []⟩ r w.heap.size (w.heap.size + 1) wr.heap.size (.slice none 0 0) ∧ Below wr.heap.size wr (wr.alloc (.cells (tblA ⟨d, p, z, []⟩ (.slice none 0 0)) 29))) := Lib.hid ⟨⟨HRD.out.1.alloc _, HRD.out.2.1.alloc _, Blk.new _ _ _, World.ownsRow_nil _ _ _ _, HRD.out.2.2.alloc HRD.out.2.2.size _, by have := HRD.out.2.1.lt; omega, by decide⟩, (Below.refl _ _).alloc (Nat.le_refl _) _⟩
      go_upto_region 12 with fail
      change Code.wp _ _ _ _ (wr.alloc (.cells (tblA ⟨d, p, z, []⟩ (.slice none 0 0)) 29))
      generalize wr.alloc (.cells (tblA ⟨d, p, z, []⟩ (.slice none 0 0)) 29) = w3 at PT0 ⊢
      generalize wr.heap.size = tb at PT0 HAC ⊢
      have US := Lib.hid (fun W => units_any d p W)
      have KS : Hid (∀ W, PyT 135 29 w W ⟨d, p, z, []⟩ r w.heap.size (w.heap.size + 1) tb (.slice none 0 0) → W.cell? ⟨tb, 0, none⟩ = some (.int .i64 d) ∧ W.cell? ⟨tb, 1, none⟩ = some (.int .i64 p) ∧ W.cell? ⟨w.heap.size + 1, 0, none⟩ = some (.string r)) := Lib.hid (fun W hW => ⟨hW.tab.cell 0, hW.tab.cell 1, hW.rd.cell 0⟩)
      have hm0 : w3.drew.cell? ⟨nb, 0, none⟩ = some (.int .i64 m) := HAC.out _ PT0.out.2.drew
      have hk1 := KS.out _ PT0.out.1.drew
      have SA : w3.drew.cell? ⟨nb, 0, none⟩ = some (.int .i64 m) ∧ w3.drew.cell? ⟨tb, 0, none⟩ = some (.int .i64 d) ∧ w3.drew.cell? ⟨tb, 1, none⟩ = some (.int .i64 p) ∧ w3.drew.cell? ⟨w.heap.size + 1, 0, none⟩ = some (.string r) := ⟨hm0, hk1⟩
      have PD := Lib.hid PT0.out.1.drew
      clear c0 c1 c2 c3 hm0 hk1 KS HAC HNK HRD HAR PT0
      have hrz : r.size ≤ 140737488355328 := by omega
      have UC := uni_cases d p
      have LF := Lib.hid (left_any r (w.heap.size + 1) w3.drew PD.out.rd (by omega))
      go_cut [62] (fun v62 wx => v62 = .bool (!(sayB s)) ∧ Hid (PyT 135 29 w wx ⟨d, p, z, []⟩ r w.heap.size (w.heap.size + 1) tb (.slice none 0 0)))
      case first =>
        by_cases hm : m = 1
        · have q0 : ((m : Int) != 1) = false := by rw [hm]; rfl
          rcases UC with ⟨E, _⟩ | ⟨E, u1, u2, u3', u4⟩
          · have HF : Hid (sayB s = false) := Lib.hid (by rw [HSB.out, E]; simp)
            rw [E] at US
            clear E hm HSB
            refine wp_region_held_drew (S := fun w' => w'.cell? ⟨nb, 0, none⟩ = some (.int .i64 m) ∧ w'.cell? ⟨tb, 0, none⟩ = some (.int .i64 d) ∧ w'.cell? ⟨tb, 1, none⟩ = some (.int .i64 p) ∧ w'.cell? ⟨w.heap.size + 1, 0, none⟩ = some (.string r)) (by kernel_rfl) (by exact SA) (fun hHeld => ?_)
            refine wpAnyH_take (i := 0) (oi := { dst := some 41, op := .indexAddr 60 (.tmp 5) (.const (Value.int IntKind.i64 0)), type := 0, pos := "parity.go:77", after := #[], guard := none }) (v := _) rfl (by as_aux_lemma => kernel_rfl) (by as_aux_lemma => kernel_rfl) (by as_aux_lemma => kernel_rfl) (fun _ _ _ h => h) (Or.inl ⟨by kernel_rfl, by (intro w hSw; (try dsimp only at hSw); go_simp; first | done | with_reducible rfl)⟩) (by assumption) ?_
            (try simp only [List.getElem_toArray, List.getElem_cons_succ, List.getElem_cons_zero, Act.put, List.setIfInBounds_toArray, List.set_cons_zero, List.set_cons_succ])
            refine wpAnyH_take (i := 1) (oi := { dst := some 42, op := .load 3 (.tmp 41), type := 3, pos := "parity.go:77", after := #[{ on := 0, ground := .data }], guard := none }) (v := _) rfl (by as_aux_lemma => kernel_rfl) (by as_aux_lemma => kernel_rfl) (by as_aux_lemma => kernel_rfl) (fun _ _ _ h => h) (Or.inl ⟨by kernel_rfl, by (intro w hSw; (try dsimp only at hSw); go_simp; first | done | with_reducible rfl)⟩) (by assumption) ?_
            (try simp only [List.getElem_toArray, List.getElem_cons_succ, List.getElem_cons_zero, Act.put, List.setIfInBounds_toArray, List.set_cons_zero, List.set_cons_succ])
            refine wpAnyH_take (i := 2) (oi := { dst := some 43, op := .binOp BinOp.neq 3 (.tmp 42) (.const (Value.int IntKind.i64 1)) 3, type := 4, pos := "parity.go:77", after := #[{ on := 1, ground := .data }], guard := none }) (v := _) rfl (by as_aux_lemma => kernel_rfl) (by as_aux_lemma => kernel_rfl) (by as_aux_lemma => kernel_rfl) (fun _ _ _ h => h) (Or.inl ⟨by kernel_rfl, by (intro w hSw; (try dsimp only at hSw); go_simp; first | done | with_reducible rfl)⟩) (by assumption) ?_
            (try simp only [List.getElem_toArray, List.getElem_cons_succ, List.getElem_cons_zero, Act.put, List.setIfInBounds_toArray, List.set_cons_zero, List.set_cons_succ])
            refine wpAnyH_take (i := 3) (oi := { dst := some 44, op := .move (.tmp 43), type := 4, pos := "parity.go:77", after := #[{ on := 2, ground := .data }], guard := none }) (v := _) rfl (by as_aux_lemma => kernel_rfl) (by as_aux_lemma => kernel_rfl) (by as_aux_lemma => kernel_rfl) (fun _ _ _ h => h) (Or.inl ⟨by kernel_rfl, by (intro w hSw; (try dsimp only at hSw); go_simp; first | done | with_reducible rfl)⟩) (by assumption) ?_
            (try simp only [List.getElem_toArray, List.getElem_cons_succ, List.getElem_cons_zero, Act.put, List.setIfInBounds_toArray, List.set_cons_zero, List.set_cons_succ])
            refine wpAnyH_take (i := 4) (oi := { dst := some 45, op := .fieldAddr 29 (.tmp 9) 0, type := 0, pos := "parity.go:77", after := #[{ on := 3, ground := .guard }], guard := some (3, false) }) (v := _) rfl (by as_aux_lemma => kernel_rfl) (by as_aux_lemma => kernel_rfl) (by as_aux_lemma => kernel_rfl) (fun _ _ _ h => h) (Or.inl ⟨by kernel_rfl, by (intro w hSw; (try dsimp only at hSw); go_simp; first | done | with_reducible rfl)⟩) (by assumption) ?_
            (try simp only [List.getElem_toArray, List.getElem_cons_succ, List.getElem_cons_zero, Act.put, List.setIfInBounds_toArray, List.set_cons_zero, List.set_cons_succ])
            refine wpAnyH_take (i := 5) (oi := { dst := some 46, op := .load 3 (.tmp 45), type := 3, pos := "parity.go:77", after := #[{ on := 4, ground := .data }, { on := 3, ground := .guard }], guard := some (3, false) }) (v := _) rfl (by as_aux_lemma => kernel_rfl) (by as_aux_lemma => kernel_rfl) (by as_aux_lemma => kernel_rfl) (fun _ _ _ h => h) (Or.inl ⟨by kernel_rfl, by (intro w hSw; (try dsimp only at hSw); go_simp; first | done | with_reducible rfl)⟩) (by assumption) ?_
            (try simp only [List.getElem_toArray, List.getElem_cons_succ, List.getElem_cons_zero, Act.put, List.setIfInBounds_toArray, List.set_cons_zero, List.set_cons_succ])
            refine wpAnyH_take (i := 6) (oi := { dst := some 47, op := .fieldAddr 29 (.tmp 9) 1, type := 0, pos := "parity.go:77", after := #[{ on := 3, ground := .guard }], guard := some (3, false) }) (v := _) rfl (by as_aux_lemma => kernel_rfl) (by as_aux_lemma => kernel_rfl) (by as_aux_lemma => kernel_rfl) (fun _ _ _ h => h) (Or.inl ⟨by kernel_rfl, by (intro w hSw; (try dsimp only at hSw); go_simp; first | done | with_reducible rfl)⟩) (by assumption) ?_
            (try simp only [List.getElem_toArray, List.getElem_cons_succ, List.getElem_cons_zero, Act.put, List.setIfInBounds_toArray, List.set_cons_zero, List.set_cons_succ])
            refine wpAnyH_take (i := 7) (oi := { dst := some 48, op := .load 3 (.tmp 47), type := 3, pos := "parity.go:77", after := #[{ on := 6, ground := .data }, { on := 3, ground := .guard }], guard := some (3, false) }) (v := _) rfl (by as_aux_lemma => kernel_rfl) (by as_aux_lemma => kernel_rfl) (by as_aux_lemma => kernel_rfl) (fun _ _ _ h => h) (Or.inl ⟨by kernel_rfl, by (intro w hSw; (try dsimp only at hSw); go_simp; first | done | with_reducible rfl)⟩) (by assumption) ?_
            (try simp only [List.getElem_toArray, List.getElem_cons_succ, List.getElem_cons_zero, Act.put, List.setIfInBounds_toArray, List.set_cons_zero, List.set_cons_succ])
            refine wpAnyH_ready (rs := [8]) (by as_aux_lemma => kernel_rfl) (by simp) (AllReadyH.cons rfl (fun K hK => ?_) AllReadyH.nil)
            try simp only [List.getElem_toArray, List.getElem_cons_succ, List.getElem_cons_zero]
            go_simp
            go_at_call 27
            refine (US.out _).mono ?_
            rintro e wn ⟨rfl, rfl⟩
            go_simp
            refine hK.out _ _ (by exact SA) (fun hHeld => ?_)
            clear hK K
            (try simp only [List.getElem_toArray, List.getElem_cons_succ, List.getElem_cons_zero, Act.put, List.setIfInBounds_toArray, List.set_cons_zero, List.set_cons_succ])
            refine wpAnyH_take (i := 9) (oi := { dst := some 50, op := .unOp UnOp.not 4 (.tmp 49), type := 4, pos := "parity.go:77", after := #[{ on := 8, ground := .data }, { on := 3, ground := .guard }], guard := some (3, false) }) (v := _) rfl (by as_aux_lemma => kernel_rfl) (by as_aux_lemma => kernel_rfl) (by as_aux_lemma => kernel_rfl) (fun _ _ _ h => h) (Or.inl ⟨by kernel_rfl, by (intro w hSw; (try dsimp only at hSw); go_simp; first | done | with_reducible rfl)⟩) (by assumption) ?_
            (try simp only [List.getElem_toArray, List.getElem_cons_succ, List.getElem_cons_zero, Act.put, List.setIfInBounds_toArray, List.set_cons_zero, List.set_cons_succ])
            refine wpAnyH_take (i := 10) (oi := { dst := some 51, op := .pick (.tmp 44) (.const (Value.bool true)) (.tmp 50), type := 4, pos := "parity.go:77", after := #[{ on := 3, ground := .data }, { on := 9, ground := .data }], guard := none }) (v := _) rfl (by as_aux_lemma => kernel_rfl) (by as_aux_lemma => kernel_rfl) (by as_aux_lemma => kernel_rfl) (fun _ _ _ h => h) (Or.inl ⟨by kernel_rfl, by (intro w hSw; (try dsimp only at hSw); go_simp; first | done | with_reducible rfl)⟩) (by assumption) ?_
            (try simp only [List.getElem_toArray, List.getElem_cons_succ, List.getElem_cons_zero, Act.put, List.setIfInBounds_toArray, List.set_cons_zero, List.set_cons_succ])
            refine wpAnyH_take (i := 11) (oi := { dst := some 52, op := .move (.tmp 51), type := 4, pos := "parity.go:77", after := #[{ on := 10, ground := .data }, { on := 8, ground := .chain }], guard := none }) (v := _) rfl (by as_aux_lemma => kernel_rfl) (by as_aux_lemma => kernel_rfl) (by as_aux_lemma => kernel_rfl) (fun _ _ _ h => h) (Or.inl ⟨by kernel_rfl, by (intro w hSw; (try dsimp only at hSw); go_simp; first | done | with_reducible rfl)⟩) (by assumption) ?_
            (try simp only [List.getElem_toArray, List.getElem_cons_succ, List.getElem_cons_zero, Act.put, List.setIfInBounds_toArray, List.set_cons_zero, List.set_cons_succ])
            refine wpAnyH_take (i := 12) (oi := _) (v := undef) rfl (by as_aux_lemma => kernel_rfl) (by as_aux_lemma => kernel_rfl) (by as_aux_lemma => kernel_rfl) (fun _ _ _ h => h) (Or.inr ⟨by kernel_rfl, rfl⟩) (by assumption) ?_
            (try simp only [List.getElem_toArray, List.getElem_cons_succ, List.getElem_cons_zero, Act.put, List.setIfInBounds_toArray, List.set_cons_zero, List.set_cons_succ])
            refine wpAnyH_take (i := 13) (oi := _) (v := undef) rfl (by as_aux_lemma => kernel_rfl) (by as_aux_lemma => kernel_rfl) (by as_aux_lemma => kernel_rfl) (fun _ _ _ h => h) (Or.inr ⟨by kernel_rfl, rfl⟩) (by assumption) ?_
            (try simp only [List.getElem_toArray, List.getElem_cons_succ, List.getElem_cons_zero, Act.put, List.setIfInBounds_toArray, List.set_cons_zero, List.set_cons_succ])
            as_aux_lemma =>
              refine wpAnyH_take (i := 14) (oi := _) (v := undef) rfl (by as_aux_lemma => kernel_rfl) (by as_aux_lemma => kernel_rfl) (by as_aux_lemma => kernel_rfl) (fun _ _ _ h => h) (Or.inr ⟨by kernel_rfl, rfl⟩) (by assumption) ?_
              (try simp only [List.getElem_toArray, List.getElem_cons_succ, List.getElem_cons_zero, Act.put, List.setIfInBounds_toArray, List.set_cons_zero, List.set_cons_succ])
              refine wpAnyH_take (i := 15) (oi := _) (v := undef) rfl (by as_aux_lemma => kernel_rfl) (by as_aux_lemma => kernel_rfl) (by as_aux_lemma => kernel_rfl) (fun _ _ _ h => h) (Or.inr ⟨by kernel_rfl, rfl⟩) (by assumption) ?_
              (try simp only [List.getElem_toArray, List.getElem_cons_succ, List.getElem_cons_zero, Act.put, List.setIfInBounds_toArray, List.set_cons_zero, List.set_cons_succ])
              refine wpAnyH_take (i := 16) (oi := _) (v := undef) rfl (by as_aux_lemma => kernel_rfl) (by as_aux_lemma => kernel_rfl) (by as_aux_lemma => kernel_rfl) (fun _ _ _ h => h) (Or.inr ⟨by kernel_rfl, rfl⟩) (by assumption) ?_
              (try simp only [List.getElem_toArray, List.getElem_cons_succ, List.getElem_cons_zero, Act.put, List.setIfInBounds_toArray, List.set_cons_zero, List.set_cons_succ])
              refine wpAnyH_take (i := 17) (oi := _) (v := undef) rfl (by as_aux_lemma => kernel_rfl) (by as_aux_lemma => kernel_rfl) (by as_aux_lemma => kernel_rfl) (fun _ _ _ h => h) (Or.inr ⟨by kernel_rfl, rfl⟩) (by assumption) ?_
              (try simp only [List.getElem_toArray, List.getElem_cons_succ, List.getElem_cons_zero, Act.put, List.setIfInBounds_toArray, List.set_cons_zero, List.set_cons_succ])
              refine wpAnyH_take (i := 18) (oi := _) (v := undef) rfl (by as_aux_lemma => kernel_rfl) (by as_aux_lemma => kernel_rfl) (by as_aux_lemma => kernel_rfl) (fun _ _ _ h => h) (Or.inr ⟨by kernel_rfl, rfl⟩) (by assumption) ?_
              (try simp only [List.getElem_toArray, List.getElem_cons_succ, List.getElem_cons_zero, Act.put, List.setIfInBounds_toArray, List.set_cons_zero, List.set_cons_succ])
              refine wpAnyH_take (i := 19) (oi := _) (v := undef) rfl (by as_aux_lemma => kernel_rfl) (by as_aux_lemma => kernel_rfl) (by as_aux_lemma => kernel_rfl) (fun _ _ _ h => h) (Or.inr ⟨by kernel_rfl, rfl⟩) (by assumption) ?_
              (try simp only [List.getElem_toArray, List.getElem_cons_succ, List.getElem_cons_zero, Act.put, List.setIfInBounds_toArray, List.set_cons_zero, List.set_cons_succ])
              refine wpAnyH_take (i := 20) (oi := _) (v := undef) rfl (by as_aux_lemma => kernel_rfl) (by as_aux_lemma => kernel_rfl) (by as_aux_lemma => kernel_rfl) (fun _ _ _ h => h) (Or.inr ⟨by kernel_rfl, rfl⟩) (by assumption) ?_
              (try simp only [List.getElem_toArray, List.getElem_cons_succ, List.getElem_cons_zero, Act.put, List.setIfInBounds_toArray, List.set_cons_zero, List.set_cons_succ])
              refine wpAnyH_take (i := 21) (oi := { dst := some 62, op := .pick (.tmp 52) (.const (Value.bool true)) (.tmp 61), type := 4, pos := "parity.go:77", after := #[{ on := 11, ground := .data }, { on := 20, ground := .data }], guard := none }) (v := _) rfl (by as_aux_lemma => kernel_rfl) (by as_aux_lemma => kernel_rfl) (by as_aux_lemma => kernel_rfl) (fun _ _ _ h => h) (Or.inl ⟨by kernel_rfl, by (intro w hSw; (try dsimp only at hSw); go_simp; first | done | with_reducible rfl)⟩) (by assumption) ?_
              (try simp only [List.getElem_toArray, List.getElem_cons_succ, List.getElem_cons_zero, Act.put, List.setIfInBounds_toArray, List.set_cons_zero, List.set_cons_succ])
              refine wpAnyH_done (by as_aux_lemma => kernel_rfl) ?_ _
              go_wp2
              go_meet
              exact ⟨by rw [HF.out]; rfl, PD⟩
          · rw [E] at US
            have HT : Hid (sayB s = decide (r.size = 32 * (d + p))) := Lib.hid (by rw [HSB.out, E, decide_eq_true hm]; simp)
            clear E hm HSB
            have q2 : IntKind.i64.wrap ((d : Int) + (p : Int)) = (d : Int) + (p : Int) := by rw [IntKind.wrap_i64]; omega
            have q3 : IntKind.i64.wrap (32 * ((d : Int) + (p : Int))) = 32 * ((d : Int) + (p : Int)) := by rw [IntKind.wrap_i64]; omega
            have q1 : ((r.size : Int) != 32 * ((d : Int) + (p : Int))) = !(sayB s) := by
              rw [HT.out]
              by_cases h : r.size = 32 * (d + p)
              · rw [decide_eq_true h, h]; simp
              · rw [decide_eq_false h]
                simp only [Bool.not_false, bne_iff_ne]; omega
            refine wp_region_held_drew (S := fun w' => w'.cell? ⟨nb, 0, none⟩ = some (.int .i64 m) ∧ w'.cell? ⟨tb, 0, none⟩ = some (.int .i64 d) ∧ w'.cell? ⟨tb, 1, none⟩ = some (.int .i64 p) ∧ w'.cell? ⟨w.heap.size + 1, 0, none⟩ = some (.string r)) (by kernel_rfl) (by exact SA) (fun hHeld => ?_)
            refine wpAnyH_take (i := 0) (oi := { dst := some 41, op := .indexAddr 60 (.tmp 5) (.const (Value.int IntKind.i64 0)), type := 0, pos := "parity.go:77", after := #[], guard := none }) (v := _) rfl (by as_aux_lemma => kernel_rfl) (by as_aux_lemma => kernel_rfl) (by as_aux_lemma => kernel_rfl) (fun _ _ _ h => h) (Or.inl ⟨by kernel_rfl, by (intro w hSw; (try dsimp only at hSw); go_simp; first | done | with_reducible rfl)⟩) (by assumption) ?_
            (try simp only [List.getElem_toArray, List.getElem_cons_succ, List.getElem_cons_zero, Act.put, List.setIfInBounds_toArray, List.set_cons_zero, List.set_cons_succ])
            refine wpAnyH_take (i := 1) (oi := { dst := some 42, op := .load 3 (.tmp 41), type := 3, pos := "parity.go:77", after := #[{ on := 0, ground := .data }], guard := none }) (v := _) rfl (by as_aux_lemma => kernel_rfl) (by as_aux_lemma => kernel_rfl) (by as_aux_lemma => kernel_rfl) (fun _ _ _ h => h) (Or.inl ⟨by kernel_rfl, by (intro w hSw; (try dsimp only at hSw); go_simp; first | done | with_reducible rfl)⟩) (by assumption) ?_
            (try simp only [List.getElem_toArray, List.getElem_cons_succ, List.getElem_cons_zero, Act.put, List.setIfInBounds_toArray, List.set_cons_zero, List.set_cons_succ])
            refine wpAnyH_take (i := 2) (oi := { dst := some 43, op := .binOp BinOp.neq 3 (.tmp 42) (.const (Value.int IntKind.i64 1)) 3, type := 4, pos := "parity.go:77", after := #[{ on := 1, ground := .data }], guard := none }) (v := _) rfl (by as_aux_lemma => kernel_rfl) (by as_aux_lemma => kernel_rfl) (by as_aux_lemma => kernel_rfl) (fun _ _ _ h => h) (Or.inl ⟨by kernel_rfl, by (intro w hSw; (try dsimp only at hSw); go_simp; first | done | with_reducible rfl)⟩) (by assumption) ?_
            (try simp only [List.getElem_toArray, List.getElem_cons_succ, List.getElem_cons_zero, Act.put, List.setIfInBounds_toArray, List.set_cons_zero, List.set_cons_succ])
            refine wpAnyH_take (i := 3) (oi := { dst := some 44, op := .move (.tmp 43), type := 4, pos := "parity.go:77", after := #[{ on := 2, ground := .data }], guard := none }) (v := _) rfl (by as_aux_lemma => kernel_rfl) (by as_aux_lemma => kernel_rfl) (by as_aux_lemma => kernel_rfl) (fun _ _ _ h => h) (Or.inl ⟨by kernel_rfl, by (intro w hSw; (try dsimp only at hSw); go_simp; first | done | with_reducible rfl)⟩) (by assumption) ?_
            (try simp only [List.getElem_toArray, List.getElem_cons_succ, List.getElem_cons_zero, Act.put, List.setIfInBounds_toArray, List.set_cons_zero, List.set_cons_succ])
            refine wpAnyH_take (i := 4) (oi := { dst := some 45, op := .fieldAddr 29 (.tmp 9) 0, type := 0, pos := "parity.go:77", after := #[{ on := 3, ground := .guard }], guard := some (3, false) }) (v := _) rfl (by as_aux_lemma => kernel_rfl) (by as_aux_lemma => kernel_rfl) (by as_aux_lemma => kernel_rfl) (fun _ _ _ h => h) (Or.inl ⟨by kernel_rfl, by (intro w hSw; (try dsimp only at hSw); go_simp; first | done | with_reducible rfl)⟩) (by assumption) ?_
            (try simp only [List.getElem_toArray, List.getElem_cons_succ, List.getElem_cons_zero, Act.put, List.setIfInBounds_toArray, List.set_cons_zero, List.set_cons_succ])
            refine wpAnyH_take (i := 5) (oi := { dst := some 46, op := .load 3 (.tmp 45), type := 3, pos := "parity.go:77", after := #[{ on := 4, ground := .data }, { on := 3, ground := .guard }], guard := some (3, false) }) (v := _) rfl (by as_aux_lemma => kernel_rfl) (by as_aux_lemma => kernel_rfl) (by as_aux_lemma => kernel_rfl) (fun _ _ _ h => h) (Or.inl ⟨by kernel_rfl, by (intro w hSw; (try dsimp only at hSw); go_simp; first | done | with_reducible rfl)⟩) (by assumption) ?_
            (try simp only [List.getElem_toArray, List.getElem_cons_succ, List.getElem_cons_zero, Act.put, List.setIfInBounds_toArray, List.set_cons_zero, List.set_cons_succ])
            refine wpAnyH_take (i := 6) (oi := { dst := some 47, op := .fieldAddr 29 (.tmp 9) 1, type := 0, pos := "parity.go:77", after := #[{ on := 3, ground := .guard }], guard := some (3, false) }) (v := _) rfl (by as_aux_lemma => kernel_rfl) (by as_aux_lemma => kernel_rfl) (by as_aux_lemma => kernel_rfl) (fun _ _ _ h => h) (Or.inl ⟨by kernel_rfl, by (intro w hSw; (try dsimp only at hSw); go_simp; first | done | with_reducible rfl)⟩) (by assumption) ?_
            (try simp only [List.getElem_toArray, List.getElem_cons_succ, List.getElem_cons_zero, Act.put, List.setIfInBounds_toArray, List.set_cons_zero, List.set_cons_succ])
            refine wpAnyH_take (i := 7) (oi := { dst := some 48, op := .load 3 (.tmp 47), type := 3, pos := "parity.go:77", after := #[{ on := 6, ground := .data }, { on := 3, ground := .guard }], guard := some (3, false) }) (v := _) rfl (by as_aux_lemma => kernel_rfl) (by as_aux_lemma => kernel_rfl) (by as_aux_lemma => kernel_rfl) (fun _ _ _ h => h) (Or.inl ⟨by kernel_rfl, by (intro w hSw; (try dsimp only at hSw); go_simp; first | done | with_reducible rfl)⟩) (by assumption) ?_
            (try simp only [List.getElem_toArray, List.getElem_cons_succ, List.getElem_cons_zero, Act.put, List.setIfInBounds_toArray, List.set_cons_zero, List.set_cons_succ])
            refine wpAnyH_ready (rs := [8]) (by as_aux_lemma => kernel_rfl) (by simp) (AllReadyH.cons rfl (fun K hK => ?_) AllReadyH.nil)
            try simp only [List.getElem_toArray, List.getElem_cons_succ, List.getElem_cons_zero]
            go_simp
            go_at_call 27
            refine (US.out _).mono ?_
            rintro e wn ⟨rfl, rfl⟩
            go_simp
            refine hK.out _ _ (by exact SA) (fun hHeld => ?_)
            clear hK K
            (try simp only [List.getElem_toArray, List.getElem_cons_succ, List.getElem_cons_zero, Act.put, List.setIfInBounds_toArray, List.set_cons_zero, List.set_cons_succ])
            refine wpAnyH_take (i := 9) (oi := { dst := some 50, op := .unOp UnOp.not 4 (.tmp 49), type := 4, pos := "parity.go:77", after := #[{ on := 8, ground := .data }, { on := 3, ground := .guard }], guard := some (3, false) }) (v := _) rfl (by as_aux_lemma => kernel_rfl) (by as_aux_lemma => kernel_rfl) (by as_aux_lemma => kernel_rfl) (fun _ _ _ h => h) (Or.inl ⟨by kernel_rfl, by (intro w hSw; (try dsimp only at hSw); go_simp; first | done | with_reducible rfl)⟩) (by assumption) ?_
            (try simp only [List.getElem_toArray, List.getElem_cons_succ, List.getElem_cons_zero, Act.put, List.setIfInBounds_toArray, List.set_cons_zero, List.set_cons_succ])
            refine wpAnyH_take (i := 10) (oi := { dst := some 51, op := .pick (.tmp 44) (.const (Value.bool true)) (.tmp 50), type := 4, pos := "parity.go:77", after := #[{ on := 3, ground := .data }, { on := 9, ground := .data }], guard := none }) (v := _) rfl (by as_aux_lemma => kernel_rfl) (by as_aux_lemma => kernel_rfl) (by as_aux_lemma => kernel_rfl) (fun _ _ _ h => h) (Or.inl ⟨by kernel_rfl, by (intro w hSw; (try dsimp only at hSw); go_simp; first | done | with_reducible rfl)⟩) (by assumption) ?_
            (try simp only [List.getElem_toArray, List.getElem_cons_succ, List.getElem_cons_zero, Act.put, List.setIfInBounds_toArray, List.set_cons_zero, List.set_cons_succ])
            refine wpAnyH_take (i := 11) (oi := { dst := some 52, op := .move (.tmp 51), type := 4, pos := "parity.go:77", after := #[{ on := 10, ground := .data }, { on := 8, ground := .chain }], guard := none }) (v := _) rfl (by as_aux_lemma => kernel_rfl) (by as_aux_lemma => kernel_rfl) (by as_aux_lemma => kernel_rfl) (fun _ _ _ h => h) (Or.inl ⟨by kernel_rfl, by (intro w hSw; (try dsimp only at hSw); go_simp; first | done | with_reducible rfl)⟩) (by assumption) ?_
            (try simp only [List.getElem_toArray, List.getElem_cons_succ, List.getElem_cons_zero, Act.put, List.setIfInBounds_toArray, List.set_cons_zero, List.set_cons_succ])
            refine wpAnyH_take (i := 12) (oi := { dst := some 53, op := .move (.tmp 4), type := 105, pos := "parity.go:77", after := #[{ on := 11, ground := .guard }], guard := some (11, false) }) (v := _) rfl (by as_aux_lemma => kernel_rfl) (by as_aux_lemma => kernel_rfl) (by as_aux_lemma => kernel_rfl) (fun _ _ _ h => h) (Or.inl ⟨by kernel_rfl, by (intro w hSw; (try dsimp only at hSw); go_simp; first | done | with_reducible rfl)⟩) (by assumption) ?_
            (try simp only [List.getElem_toArray, List.getElem_cons_succ, List.getElem_cons_zero, Act.put, List.setIfInBounds_toArray, List.set_cons_zero, List.set_cons_succ])
            refine wpAnyH_take (i := 14) (oi := { dst := some 55, op := .fieldAddr 29 (.tmp 9) 0, type := 0, pos := "parity.go:77", after := #[{ on := 11, ground := .guard }], guard := some (11, false) }) (v := _) rfl (by as_aux_lemma => kernel_rfl) (by as_aux_lemma => kernel_rfl) (by as_aux_lemma => kernel_rfl) (fun _ _ _ h => h) (Or.inl ⟨by kernel_rfl, by (intro w hSw; (try dsimp only at hSw); go_simp; first | done | with_reducible rfl)⟩) (by assumption) ?_
            (try simp only [List.getElem_toArray, List.getElem_cons_succ, List.getElem_cons_zero, Act.put, List.setIfInBounds_toArray, List.set_cons_zero, List.set_cons_succ])
            as_aux_lemma =>
              refine wpAnyH_take (i := 15) (oi := { dst := some 56, op := .load 3 (.tmp 55), type := 3, pos := "parity.go:77", after := #[{ on := 14, ground := .data }, { on := 11, ground := .guard }], guard := some (11, false) }) (v := _) rfl (by as_aux_lemma => kernel_rfl) (by as_aux_lemma => kernel_rfl) (by as_aux_lemma => kernel_rfl) (fun _ _ _ h => h) (Or.inl ⟨by kernel_rfl, by (intro w hSw; (try dsimp only at hSw); go_simp; first | done | with_reducible rfl)⟩) (by assumption) ?_
              (try simp only [List.getElem_toArray, List.getElem_cons_succ, List.getElem_cons_zero, Act.put, List.setIfInBounds_toArray, List.set_cons_zero, List.set_cons_succ])
              refine wpAnyH_take (i := 16) (oi := { dst := some 57, op := .fieldAddr 29 (.tmp 9) 1, type := 0, pos := "parity.go:77", after := #[{ on := 11, ground := .guard }], guard := some (11, false) }) (v := _) rfl (by as_aux_lemma => kernel_rfl) (by as_aux_lemma => kernel_rfl) (by as_aux_lemma => kernel_rfl) (fun _ _ _ h => h) (Or.inl ⟨by kernel_rfl, by (intro w hSw; (try dsimp only at hSw); go_simp; first | done | with_reducible rfl)⟩) (by assumption) ?_
              (try simp only [List.getElem_toArray, List.getElem_cons_succ, List.getElem_cons_zero, Act.put, List.setIfInBounds_toArray, List.set_cons_zero, List.set_cons_succ])
              refine wpAnyH_take (i := 17) (oi := { dst := some 58, op := .load 3 (.tmp 57), type := 3, pos := "parity.go:77", after := #[{ on := 16, ground := .data }, { on := 11, ground := .guard }], guard := some (11, false) }) (v := _) rfl (by as_aux_lemma => kernel_rfl) (by as_aux_lemma => kernel_rfl) (by as_aux_lemma => kernel_rfl) (fun _ _ _ h => h) (Or.inl ⟨by kernel_rfl, by (intro w hSw; (try dsimp only at hSw); go_simp; first | done | with_reducible rfl)⟩) (by assumption) ?_
              (try simp only [List.getElem_toArray, List.getElem_cons_succ, List.getElem_cons_zero, Act.put, List.setIfInBounds_toArray, List.set_cons_zero, List.set_cons_succ])
              refine wpAnyH_take (i := 18) (oi := { dst := some 59, op := .binOp BinOp.add 3 (.tmp 56) (.tmp 58) 3, type := 3, pos := "parity.go:77", after := #[{ on := 15, ground := .data }, { on := 17, ground := .data }, { on := 11, ground := .guard }], guard := some (11, false) }) (v := _) rfl (by as_aux_lemma => kernel_rfl) (by as_aux_lemma => kernel_rfl) (by as_aux_lemma => kernel_rfl) (fun _ _ _ h => h) (Or.inl ⟨by kernel_rfl, by (intro w hSw; (try dsimp only at hSw); go_simp; first | done | with_reducible rfl)⟩) (by assumption) ?_
              (try simp only [List.getElem_toArray, List.getElem_cons_succ, List.getElem_cons_zero, Act.put, List.setIfInBounds_toArray, List.set_cons_zero, List.set_cons_succ])
              refine wpAnyH_take (i := 19) (oi := { dst := some 60, op := .binOp BinOp.mul 3 (.const (Value.int IntKind.i64 32)) (.tmp 59) 3, type := 3, pos := "parity.go:77", after := #[{ on := 18, ground := .data }, { on := 11, ground := .guard }], guard := some (11, false) }) (v := _) rfl (by as_aux_lemma => kernel_rfl) (by as_aux_lemma => kernel_rfl) (by as_aux_lemma => kernel_rfl) (fun _ _ _ h => h) (Or.inl ⟨by kernel_rfl, by (intro w hSw; (try dsimp only at hSw); go_simp; first | done | with_reducible rfl)⟩) (by assumption) ?_
              (try simp only [List.getElem_toArray, List.getElem_cons_succ, List.getElem_cons_zero, Act.put, List.setIfInBounds_toArray, List.set_cons_zero, List.set_cons_succ])
              refine wpAnyH_ready (rs := [13]) (by as_aux_lemma => kernel_rfl) (by simp) (AllReadyH.cons rfl (fun K hK => ?_) AllReadyH.nil)
              try simp only [List.getElem_toArray, List.getElem_cons_succ, List.getElem_cons_zero]
              go_simp
              go_at_call 60
              refine LF.out.mono ?_
              rintro e wm ⟨rfl, rfl⟩
              go_simp
              refine hK.out _ _ (by exact SA) (fun hHeld => ?_)
              clear hK K
              (try simp only [List.getElem_toArray, List.getElem_cons_succ, List.getElem_cons_zero, Act.put, List.setIfInBounds_toArray, List.set_cons_zero, List.set_cons_succ])
              refine wpAnyH_take (i := 20) (oi := { dst := some 61, op := .binOp BinOp.neq 3 (.tmp 54) (.tmp 60) 3, type := 4, pos := "parity.go:77", after := #[{ on := 13, ground := .data }, { on := 19, ground := .data }, { on := 11, ground := .guard }], guard := some (11, false) }) (v := _) rfl (by as_aux_lemma => kernel_rfl) (by as_aux_lemma => kernel_rfl) (by as_aux_lemma => kernel_rfl) (fun _ _ _ h => h) (Or.inl ⟨by kernel_rfl, by (intro w hSw; (try dsimp only at hSw); go_simp; first | done | with_reducible rfl)⟩) (by assumption) ?_
              (try simp only [List.getElem_toArray, List.getElem_cons_succ, List.getElem_cons_zero, Act.put, List.setIfInBounds_toArray, List.set_cons_zero, List.set_cons_succ])
              refine wpAnyH_take (i := 21) (oi := { dst := some 62, op := .pick (.tmp 52) (.const (Value.bool true)) (.tmp 61), type := 4, pos := "parity.go:77", after := #[{ on := 11, ground := .data }, { on := 20, ground := .data }], guard := none }) (v := _) rfl (by as_aux_lemma => kernel_rfl) (by as_aux_lemma => kernel_rfl) (by as_aux_lemma => kernel_rfl) (fun _ _ _ h => h) (Or.inl ⟨by kernel_rfl, by (intro w hSw; (try dsimp only at hSw); go_simp; first | done | with_reducible rfl)⟩) (by assumption) ?_
              (try simp only [List.getElem_toArray, List.getElem_cons_succ, List.getElem_cons_zero, Act.put, List.setIfInBounds_toArray, List.set_cons_zero, List.set_cons_succ])
              refine wpAnyH_done (by as_aux_lemma => kernel_rfl) ?_ _
              go_wp2
              go_meet
              exact ⟨rfl, PD⟩
        · have q0 : ((m : Int) != 1) = true := by rw [bne_iff_ne]; omega
          have HF : Hid (sayB s = false) := Lib.hid (by rw [HSB.out, decide_eq_false hm]; rfl)
          clear hm HSB UC
          refine wp_region_held_drew (S := fun w' => w'.cell? ⟨nb, 0, none⟩ = some (.int .i64 m) ∧ w'.cell? ⟨tb, 0, none⟩ = some (.int .i64 d) ∧ w'.cell? ⟨tb, 1, none⟩ = some (.int .i64 p) ∧ w'.cell? ⟨w.heap.size + 1, 0, none⟩ = some (.string r)) (by kernel_rfl) (by exact SA) (fun hHeld => ?_)
          refine wpAnyH_take (i := 0) (oi := { dst := some 41, op := .indexAddr 60 (.tmp 5) (.const (Value.int IntKind.i64 0)), type := 0, pos := "parity.go:77", after := #[], guard := none }) (v := _) rfl (by as_aux_lemma => kernel_rfl) (by as_aux_lemma => kernel_rfl) (by as_aux_lemma => kernel_rfl) (fun _ _ _ h => h) (Or.inl ⟨by kernel_rfl, by (intro w hSw; (try dsimp only at hSw); go_simp; first | done | with_reducible rfl)⟩) (by assumption) ?_
          (try simp only [List.getElem_toArray, List.getElem_cons_succ, List.getElem_cons_zero, Act.put, List.setIfInBounds_toArray, List.set_cons_zero, List.set_cons_succ])
          refine wpAnyH_take (i := 1) (oi := { dst := some 42, op := .load 3 (.tmp 41), type := 3, pos := "parity.go:77", after := #[{ on := 0, ground := .data }], guard := none }) (v := _) rfl (by as_aux_lemma => kernel_rfl) (by as_aux_lemma => kernel_rfl) (by as_aux_lemma => kernel_rfl) (fun _ _ _ h => h) (Or.inl ⟨by kernel_rfl, by (intro w hSw; (try dsimp only at hSw); go_simp; first | done | with_reducible rfl)⟩) (by assumption) ?_
          (try simp only [List.getElem_toArray, List.getElem_cons_succ, List.getElem_cons_zero, Act.put, List.setIfInBounds_toArray, List.set_cons_zero, List.set_cons_succ])
          refine wpAnyH_take (i := 2) (oi := { dst := some 43, op := .binOp BinOp.neq 3 (.tmp 42) (.const (Value.int IntKind.i64 1)) 3, type := 4, pos := "parity.go:77", after := #[{ on := 1, ground := .data }], guard := none }) (v := _) rfl (by as_aux_lemma => kernel_rfl) (by as_aux_lemma => kernel_rfl) (by as_aux_lemma => kernel_rfl) (fun _ _ _ h => h) (Or.inl ⟨by kernel_rfl, by (intro w hSw; (try dsimp only at hSw); go_simp; first | done | with_reducible rfl)⟩) (by assumption) ?_
          (try simp only [List.getElem_toArray, List.getElem_cons_succ, List.getElem_cons_zero, Act.put, List.setIfInBounds_toArray, List.set_cons_zero, List.set_cons_succ])
          refine wpAnyH_take (i := 3) (oi := { dst := some 44, op := .move (.tmp 43), type := 4, pos := "parity.go:77", after := #[{ on := 2, ground := .data }], guard := none }) (v := _) rfl (by as_aux_lemma => kernel_rfl) (by as_aux_lemma => kernel_rfl) (by as_aux_lemma => kernel_rfl) (fun _ _ _ h => h) (Or.inl ⟨by kernel_rfl, by (intro w hSw; (try dsimp only at hSw); go_simp; first | done | with_reducible rfl)⟩) (by assumption) ?_
          (try simp only [List.getElem_toArray, List.getElem_cons_succ, List.getElem_cons_zero, Act.put, List.setIfInBounds_toArray, List.set_cons_zero, List.set_cons_succ])
          refine wpAnyH_take (i := 4) (oi := _) (v := undef) rfl (by as_aux_lemma => kernel_rfl) (by as_aux_lemma => kernel_rfl) (by as_aux_lemma => kernel_rfl) (fun _ _ _ h => h) (Or.inr ⟨by kernel_rfl, rfl⟩) (by assumption) ?_
          (try simp only [List.getElem_toArray, List.getElem_cons_succ, List.getElem_cons_zero, Act.put, List.setIfInBounds_toArray, List.set_cons_zero, List.set_cons_succ])
          refine wpAnyH_take (i := 5) (oi := _) (v := undef) rfl (by as_aux_lemma => kernel_rfl) (by as_aux_lemma => kernel_rfl) (by as_aux_lemma => kernel_rfl) (fun _ _ _ h => h) (Or.inr ⟨by kernel_rfl, rfl⟩) (by assumption) ?_
          (try simp only [List.getElem_toArray, List.getElem_cons_succ, List.getElem_cons_zero, Act.put, List.setIfInBounds_toArray, List.set_cons_zero, List.set_cons_succ])
          refine wpAnyH_take (i := 6) (oi := _) (v := undef) rfl (by as_aux_lemma => kernel_rfl) (by as_aux_lemma => kernel_rfl) (by as_aux_lemma => kernel_rfl) (fun _ _ _ h => h) (Or.inr ⟨by kernel_rfl, rfl⟩) (by assumption) ?_
          (try simp only [List.getElem_toArray, List.getElem_cons_succ, List.getElem_cons_zero, Act.put, List.setIfInBounds_toArray, List.set_cons_zero, List.set_cons_succ])
          refine wpAnyH_take (i := 7) (oi := _) (v := undef) rfl (by as_aux_lemma => kernel_rfl) (by as_aux_lemma => kernel_rfl) (by as_aux_lemma => kernel_rfl) (fun _ _ _ h => h) (Or.inr ⟨by kernel_rfl, rfl⟩) (by assumption) ?_
          (try simp only [List.getElem_toArray, List.getElem_cons_succ, List.getElem_cons_zero, Act.put, List.setIfInBounds_toArray, List.set_cons_zero, List.set_cons_succ])
          refine wpAnyH_take (i := 8) (oi := _) (v := undef) rfl (by as_aux_lemma => kernel_rfl) (by as_aux_lemma => kernel_rfl) (by as_aux_lemma => kernel_rfl) (fun _ _ _ h => h) (Or.inr ⟨by kernel_rfl, rfl⟩) (by assumption) ?_
          (try simp only [List.getElem_toArray, List.getElem_cons_succ, List.getElem_cons_zero, Act.put, List.setIfInBounds_toArray, List.set_cons_zero, List.set_cons_succ])
          refine wpAnyH_take (i := 9) (oi := _) (v := undef) rfl (by as_aux_lemma => kernel_rfl) (by as_aux_lemma => kernel_rfl) (by as_aux_lemma => kernel_rfl) (fun _ _ _ h => h) (Or.inr ⟨by kernel_rfl, rfl⟩) (by assumption) ?_
          (try simp only [List.getElem_toArray, List.getElem_cons_succ, List.getElem_cons_zero, Act.put, List.setIfInBounds_toArray, List.set_cons_zero, List.set_cons_succ])
          refine wpAnyH_take (i := 10) (oi := { dst := some 51, op := .pick (.tmp 44) (.const (Value.bool true)) (.tmp 50), type := 4, pos := "parity.go:77", after := #[{ on := 3, ground := .data }, { on := 9, ground := .data }], guard := none }) (v := _) rfl (by as_aux_lemma => kernel_rfl) (by as_aux_lemma => kernel_rfl) (by as_aux_lemma => kernel_rfl) (fun _ _ _ h => h) (Or.inl ⟨by kernel_rfl, by (intro w hSw; (try dsimp only at hSw); go_simp; first | done | with_reducible rfl)⟩) (by assumption) ?_
          (try simp only [List.getElem_toArray, List.getElem_cons_succ, List.getElem_cons_zero, Act.put, List.setIfInBounds_toArray, List.set_cons_zero, List.set_cons_succ])
          refine wpAnyH_take (i := 11) (oi := { dst := some 52, op := .move (.tmp 51), type := 4, pos := "parity.go:77", after := #[{ on := 10, ground := .data }, { on := 8, ground := .chain }], guard := none }) (v := _) rfl (by as_aux_lemma => kernel_rfl) (by as_aux_lemma => kernel_rfl) (by as_aux_lemma => kernel_rfl) (fun _ _ _ h => h) (Or.inl ⟨by kernel_rfl, by (intro w hSw; (try dsimp only at hSw); go_simp; first | done | with_reducible rfl)⟩) (by assumption) ?_
          (try simp only [List.getElem_toArray, List.getElem_cons_succ, List.getElem_cons_zero, Act.put, List.setIfInBounds_toArray, List.set_cons_zero, List.set_cons_succ])
          refine wpAnyH_take (i := 12) (oi := _) (v := undef) rfl (by as_aux_lemma => kernel_rfl) (by as_aux_lemma => kernel_rfl) (by as_aux_lemma => kernel_rfl) (fun _ _ _ h => h) (Or.inr ⟨by kernel_rfl, rfl⟩) (by assumption) ?_
          (try simp only [List.getElem_toArray, List.getElem_cons_succ, List.getElem_cons_zero, Act.put, List.setIfInBounds_toArray, List.set_cons_zero, List.set_cons_succ])
          refine wpAnyH_take (i := 13) (oi := _) (v := undef) rfl (by as_aux_lemma => kernel_rfl) (by as_aux_lemma => kernel_rfl) (by as_aux_lemma => kernel_rfl) (fun _ _ _ h => h) (Or.inr ⟨by kernel_rfl, rfl⟩) (by assumption) ?_
          (try simp only [List.getElem_toArray, List.getElem_cons_succ, List.getElem_cons_zero, Act.put, List.setIfInBounds_toArray, List.set_cons_zero, List.set_cons_succ])
          as_aux_lemma =>
            refine wpAnyH_take (i := 14) (oi := _) (v := undef) rfl (by as_aux_lemma => kernel_rfl) (by as_aux_lemma => kernel_rfl) (by as_aux_lemma => kernel_rfl) (fun _ _ _ h => h) (Or.inr ⟨by kernel_rfl, rfl⟩) (by assumption) ?_
            (try simp only [List.getElem_toArray, List.getElem_cons_succ, List.getElem_cons_zero, Act.put, List.setIfInBounds_toArray, List.set_cons_zero, List.set_cons_succ])
            refine wpAnyH_take (i := 15) (oi := _) (v := undef) rfl (by as_aux_lemma => kernel_rfl) (by as_aux_lemma => kernel_rfl) (by as_aux_lemma => kernel_rfl) (fun _ _ _ h => h) (Or.inr ⟨by kernel_rfl, rfl⟩) (by assumption) ?_
            (try simp only [List.getElem_toArray, List.getElem_cons_succ, List.getElem_cons_zero, Act.put, List.setIfInBounds_toArray, List.set_cons_zero, List.set_cons_succ])
            refine wpAnyH_take (i := 16) (oi := _) (v := undef) rfl (by as_aux_lemma => kernel_rfl) (by as_aux_lemma => kernel_rfl) (by as_aux_lemma => kernel_rfl) (fun _ _ _ h => h) (Or.inr ⟨by kernel_rfl, rfl⟩) (by assumption) ?_
            (try simp only [List.getElem_toArray, List.getElem_cons_succ, List.getElem_cons_zero, Act.put, List.setIfInBounds_toArray, List.set_cons_zero, List.set_cons_succ])
            refine wpAnyH_take (i := 17) (oi := _) (v := undef) rfl (by as_aux_lemma => kernel_rfl) (by as_aux_lemma => kernel_rfl) (by as_aux_lemma => kernel_rfl) (fun _ _ _ h => h) (Or.inr ⟨by kernel_rfl, rfl⟩) (by assumption) ?_
            (try simp only [List.getElem_toArray, List.getElem_cons_succ, List.getElem_cons_zero, Act.put, List.setIfInBounds_toArray, List.set_cons_zero, List.set_cons_succ])
            refine wpAnyH_take (i := 18) (oi := _) (v := undef) rfl (by as_aux_lemma => kernel_rfl) (by as_aux_lemma => kernel_rfl) (by as_aux_lemma => kernel_rfl) (fun _ _ _ h => h) (Or.inr ⟨by kernel_rfl, rfl⟩) (by assumption) ?_
            (try simp only [List.getElem_toArray, List.getElem_cons_succ, List.getElem_cons_zero, Act.put, List.setIfInBounds_toArray, List.set_cons_zero, List.set_cons_succ])
            refine wpAnyH_take (i := 19) (oi := _) (v := undef) rfl (by as_aux_lemma => kernel_rfl) (by as_aux_lemma => kernel_rfl) (by as_aux_lemma => kernel_rfl) (fun _ _ _ h => h) (Or.inr ⟨by kernel_rfl, rfl⟩) (by assumption) ?_
            (try simp only [List.getElem_toArray, List.getElem_cons_succ, List.getElem_cons_zero, Act.put, List.setIfInBounds_toArray, List.set_cons_zero, List.set_cons_succ])
            refine wpAnyH_take (i := 20) (oi := _) (v := undef) rfl (by as_aux_lemma => kernel_rfl) (by as_aux_lemma => kernel_rfl) (by as_aux_lemma => kernel_rfl) (fun _ _ _ h => h) (Or.inr ⟨by kernel_rfl, rfl⟩) (by assumption) ?_
            (try simp only [List.getElem_toArray, List.getElem_cons_succ, List.getElem_cons_zero, Act.put, List.setIfInBounds_toArray, List.set_cons_zero, List.set_cons_succ])
            refine wpAnyH_take (i := 21) (oi := { dst := some 62, op := .pick (.tmp 52) (.const (Value.bool true)) (.tmp 61), type := 4, pos := "parity.go:77", after := #[{ on := 11, ground := .data }, { on := 20, ground := .data }], guard := none }) (v := _) rfl (by as_aux_lemma => kernel_rfl) (by as_aux_lemma => kernel_rfl) (by as_aux_lemma => kernel_rfl) (fun _ _ _ h => h) (Or.inl ⟨by kernel_rfl, by (intro w hSw; (try dsimp only at hSw); go_simp; first | done | with_reducible rfl)⟩) (by assumption) ?_
            (try simp only [List.getElem_toArray, List.getElem_cons_succ, List.getElem_cons_zero, Act.put, List.setIfInBounds_toArray, List.set_cons_zero, List.set_cons_succ])
            refine wpAnyH_done (by as_aux_lemma => kernel_rfl) ?_ _
            go_wp2
            go_meet
            exact ⟨by rw [HF.out]; rfl, PD⟩
      case rest =>
        obtain ⟨rfl, PC⟩ := hcut
        clear PD SA US LF
        cases hsb : sayB s with
        | false =>
          have HS := Lib.hid (HSN.out hsb)
          clear HSN HSY HSB hsb UC
          obtain ⟨z0, z1, z2, z3⟩ := tbl_cells PC.out.res
          have g0 : ∀ i, wc.frozen? ⟨w.heap.size, i, none⟩ = false := fun i => PC.out.res.frozen i
          have HZ : Hid (Blk (set4 wc w.heap.size (.int .i64 0) (.int .i64 0) (.int .i64 0) (.slice none 0 0)) w.heap.size 29 (tblA zTbl (.slice none 0 0)) ∧ Below w.heap.size w (set4 wc w.heap.size (.int .i64 0) (.int .i64 0) (.int .i64 0) (.slice none 0 0))) := Lib.hid ⟨set4_blk PC.out.res _ _ _ _, set4_below PC.out.below (Nat.le_refl _) _ _ _ _⟩
          go_wp2
          exact bodyPost_ret (results_tbl (p := 2) (u := 3) rfl _ _ w.heap.size 29 (tblA zTbl (.slice none 0 0)) (0, 0) rfl HZ.out.1 Try.underlying29 (by kernel_rfl)) rfl ⟨.slice none 0 0, by rw [HS.out]; rfl, by rw [HS.out]; exact World.ownsRow_nil _ _ _ _, HZ.out.2⟩
        | true =>
          have HS := Lib.hid (HSY.out hsb)
          rw [HSB.out] at hsb
          simp only [Bool.and_eq_true, decide_eq_true_eq] at hsb
          obtain ⟨_, hu, hr⟩ := hsb
          obtain ⟨u1, u2, u3', u4⟩ := (uniB_iff _ _).1 hu
          obtain ⟨n, hn⟩ : ∃ n, d + p = n := ⟨_, rfl⟩
          rw [hn] at HS hr
          have hdp : (d : Int) + (p : Int) = (n : Int) := by omega
          have hn64 : n ≤ 64 := by omega
          have hd32 : d ≤ 64 := by omega
          have hp63 : p ≤ 64 := by omega
          have HR := Lib.hid hr
          clear HSN HSY HSB UC hu u1 u2 u3' u4 hn b0 b1 b2 hr
          obtain ⟨t0, t1, t2, t3⟩ := tbl_cells PC.out.tab
          go_wp2_with fail
          clear t0 t1 t2 t3
          go_loopw [69] (fun i wr => ∃ (k : Nat) (v : Value), k ≤ n ∧ i = .int .i64 k ∧ Hid (PyT 135 29 w wr ⟨d, p, z, sumsF r k⟩ (r.extract (32 * k) r.size) w.heap.size (w.heap.size + 1) tb v)) (fun i _ => n - (intOf i).toNat)
          case atStart => exact ⟨0, .slice none 0 0, by omega, rfl, Lib.hid (by rw [Nat.mul_zero, ex_zero]; exact PC.out)⟩
          case round =>
            obtain ⟨k, v, hk, rfl, HK⟩ := hrel
            by_cases hlt : k < n
            · as_aux_lemma =>
              have hki : (k : Int) < (n : Int) := by omega
              have hk0 : (0 : Int) ≤ (k : Int) := by omega
              have hrk : (r.extract (32 * k) r.size).size = r.size - 32 * k := by rw [ByteArray.size_extract]; omega
              have hrn := HR.out
              have TK := take_g (r.extract (32 * k) r.size) (w.heap.size + 1) 32 wr HK.out.rd (by omega) (by omega)
              rw [show takeS (r.extract (32 * k) r.size) 32 = r.extract (32 * (k + 1)) r.size from by rw [takeS_on (by omega), ex_ex r (32 * k) 32 (by omega)]; congr 1] at TK
              have HTK := Lib.hid TK
              obtain ⟨I, hI⟩ : ∃ I : Idn, (fun x => byteAt r (32 * k + x)) = I := ⟨_, rfl⟩
              obtain ⟨b, hb⟩ : ∃ b, (r.extract (32 * k) r.size).extract 0 32 = b := ⟨_, rfl⟩
              have hbz : b.size = 32 := by rw [← hb, ByteArray.size_extract]; omega
              have HBI : Hid (∀ j, j < 32 → byteAt b j = I j) := Lib.hid (fun j hj => by
                rw [← hb, ← hI, byteAt_part _ _ _ _ (by omega) (by omega), byteAt_part _ _ _ _ (by omega) (Nat.le_refl _), Nat.zero_add])
              have HI' := Lib.hid hI
              rw [hb] at HTK
              rw [show ((32 : Nat) : Int) = 32 from rfl] at HTK
              clear TK hb hI hrk hrn
              go_wp2_with fail
              (with_reducible refine HTK.out.mono ?_)
              rintro e w5 ⟨rfl, hr5, hg5⟩
              have P5 := Lib.hid (HK.out.read hr5 hg5)
              clear hr5 hg5 HTK HK
              obtain ⟨Av, cv, rfl, hRv⟩ := own_reads P5.out.own
              clear hRv
              rw [sumsF_length] at *
              go_upto_region 17 with fail
              have P6 := Lib.hid P5.out.drew
              have PB : Hid (PyT 135 29 w (Lib.bytesWorld w5.drew 5 b) ⟨d, p, z, sumsF r k⟩ (r.extract (32 * (k + 1)) r.size) w.heap.size (w.heap.size + 1) tb (.slice Av k cv)) := Lib.hid (P6.out.mono (bytes_below' _ _))
              have CV : ∀ W, (convert 9 58 (.string b)).run Try.prog W = .ok (.slice (some ⟨W.heap.size, 0, none⟩) 32 (grownCap W 32 0 5)) (Lib.bytesWorld W 5 b) := fun W => by
                have := Lib.run_convert_string_bytes (P := Try.prog) W 9 58 5 b (show Try.prog.underlying 9 = some .string by kernel_rfl) (show Try.prog.underlying 58 = some (.slice 5) by kernel_rfl) (show Try.prog.underlying 5 = some (.int .u8) by kernel_rfl)
                rw [hbz] at this
                exact this
              have AR := fun g cap W => run_arrayAt32 g cap W
              have LD : (ld32 (.pointer (some ⟨w5.heap.size, 0, none⟩))).run Try.prog (Lib.bytesWorld w5.drew 5 b) = .ok (.value (.agg (idA I))) (Lib.bytesWorld w5.drew 5 b) := run_ld32_cells _ _ _ (fun j hj => by
                have := Lib.bytesWorld_cell w5.drew 5 b j (by omega)
                rw [← HBI.out j hj]
                exact this)
              have SA : w5.drew.cell? ⟨tb, 3, none⟩ = some (.slice Av k cv) := P6.out.tab.cell 3
              have SB : (Lib.bytesWorld w5.drew 5 b).cell? ⟨tb, 3, none⟩ = some (.slice Av k cv) := PB.out.tab.cell 3
              have SC : ((Lib.bytesWorld w5.drew 5 b).alloc (.cells (idA I) 27)).cell? ⟨tb, 3, none⟩ = some (.slice Av k cv) := (PB.out.mono ((Below.refl _ _).alloc (Nat.le_refl _) _)).tab.cell 3
              have f1 := idA_full I
              have HONE := Lib.hid (idA_ones I)
              have HSZ := Lib.hid (idA_size I)
              have hk1 : k ≤ 4611686018427387904 := by omega
              have hk2 : (k + 1) * 32 ≤ 140737488355328 := by omega
              have HOWN : Hid ((Lib.bytesWorld w5.drew 5 b).ownsRow w.heap.size 27 32 (.slice Av k cv) k (idsV (sumsF r k))) := Lib.hid (by
                have := PB.out.own
                simpa [sumsF_length] using this)
              have HP : Hid (∀ v' w', w'.ownsRow w.heap.size 27 32 v' (k + 1) (idsV (sumsF r k) ++ (idA I).toList) → (Lib.bytesWorld w5.drew 5 b).grownBy w' (Value.slice Av k cv).ownBlock → Blk w' tb 29 (tblA ⟨d, p, z, sumsF r k⟩ (.slice Av k cv)) ∧ PyT 135 29 w (w'.setCell ⟨tb, 3, none⟩ v') ⟨d, p, z, sumsF r (k + 1)⟩ (r.extract (32 * (k + 1)) r.size) w.heap.size (w.heap.size + 1) tb v') := Lib.hid (fun v' w' ho hg => by
                have h := PB.out.push (I := I) (by simpa [sumsF_length] using ho) hg
                rw [sumsF_succ, HI'.out]
                exact h)
              have hle : Hid (w.heap.size ≤ (Lib.bytesWorld w5.drew 5 b).heap.size) := Lib.hid PB.out.below.size
              refine wp_region_held_drew (S := fun w' => True) (by kernel_rfl) (by trivial) (fun hHeld => ?_)
              refine wpAnyH_take (i := 0) (oi := { dst := some 76, op := .fieldAddr 29 (.tmp 9) 3, type := 0, pos := "parity.go:82", after := #[], guard := none }) (v := _) rfl (by as_aux_lemma => kernel_rfl) (by as_aux_lemma => kernel_rfl) (by as_aux_lemma => kernel_rfl) (fun _ _ _ h => h) (Or.inl ⟨by kernel_rfl, by (intro w hSw; (try dsimp only at hSw); go_simp; first | done | with_reducible rfl)⟩) (by assumption) ?_
              (try simp only [List.getElem_toArray, List.getElem_cons_succ, List.getElem_cons_zero, Act.put, List.setIfInBounds_toArray, List.set_cons_zero, List.set_cons_succ])
              refine wpAnyH_take (i := 2) (oi := { dst := some 78, op := .move (.tmp 10), type := 9, pos := "parity.go:82", after := #[], guard := none }) (v := _) rfl (by as_aux_lemma => kernel_rfl) (by as_aux_lemma => kernel_rfl) (by as_aux_lemma => kernel_rfl) (fun _ _ _ h => h) (Or.inl ⟨by kernel_rfl, by (intro w hSw; (try dsimp only at hSw); go_simp; first | done | with_reducible rfl)⟩) (by assumption) ?_
              (try simp only [List.getElem_toArray, List.getElem_cons_succ, List.getElem_cons_zero, Act.put, List.setIfInBounds_toArray, List.set_cons_zero, List.set_cons_succ])
              refine wpAnyH_ready (rs := [1, 3]) (by as_aux_lemma => kernel_rfl) (by simp) (AllReadyH.cons rfl (fun K hK => ?_) (AllReadyH.cons rfl (fun K hK => ?_) AllReadyH.nil))
              · as_aux_lemma =>
                  try simp only [List.getElem_toArray, List.getElem_cons_succ, List.getElem_cons_zero]
                  go_simp
                  refine hK.out _ _ (by trivial) (fun hHeld => ?_)
                  clear hK K
                  (try simp only [List.getElem_toArray, List.getElem_cons_succ, List.getElem_cons_zero, Act.put, List.setIfInBounds_toArray, List.set_cons_zero, List.set_cons_succ])
                  refine wpAnyH_ready (rs := [3]) (by as_aux_lemma => kernel_rfl) (by simp) (AllReadyH.cons rfl (fun K hK => ?_) AllReadyH.nil)
                  try simp only [List.getElem_toArray, List.getElem_cons_succ, List.getElem_cons_zero]
                  go_simp
                  refine hK.out _ _ (by trivial) (fun hHeld => ?_)
                  clear hK K
                  (try simp only [List.getElem_toArray, List.getElem_cons_succ, List.getElem_cons_zero, Act.put, List.setIfInBounds_toArray, List.set_cons_zero, List.set_cons_succ])
                  refine wpAnyH_take (i := 4) (oi := { dst := some 80, op := .sliceToArrayPointer 27 (.tmp 79), type := 0, pos := "parity.go:82", after := #[{ on := 3, ground := .data }], guard := none }) (v := _) rfl (by as_aux_lemma => kernel_rfl) (by as_aux_lemma => kernel_rfl) (by as_aux_lemma => kernel_rfl) (fun _ _ _ h => h) (Or.inl ⟨by kernel_rfl, by (intro w hSw; (try dsimp only at hSw); go_simp; first | done | with_reducible rfl)⟩) (by assumption) ?_
                  (try simp only [List.getElem_toArray, List.getElem_cons_succ, List.getElem_cons_zero, Act.put, List.setIfInBounds_toArray, List.set_cons_zero, List.set_cons_succ])
                  refine wpAnyH_ready (rs := [5]) (by as_aux_lemma => kernel_rfl) (by simp) (AllReadyH.cons rfl (fun K hK => ?_) AllReadyH.nil)
                  try simp only [List.getElem_toArray, List.getElem_cons_succ, List.getElem_cons_zero]
                  go_simp
                  refine hK.out _ _ (by trivial) (fun hHeld => ?_)
                  clear hK K
                  (try simp only [List.getElem_toArray, List.getElem_cons_succ, List.getElem_cons_zero, Act.put, List.setIfInBounds_toArray, List.set_cons_zero, List.set_cons_succ])
                  refine wpAnyH_ready (rs := [6]) (by as_aux_lemma => kernel_rfl) (by simp) (AllReadyH.cons rfl (fun K hK => ?_) AllReadyH.nil)
                  try simp only [List.getElem_toArray, List.getElem_cons_succ, List.getElem_cons_zero]
                  go_simp
                  refine hK.out _ _ (by trivial) (fun hHeld => ?_)
                  clear hK K
                  (try simp only [List.getElem_toArray, List.getElem_cons_succ, List.getElem_cons_zero, Act.put, List.setIfInBounds_toArray, List.set_cons_zero, List.set_cons_succ])
                  refine wpAnyH_ready (rs := [7]) (by as_aux_lemma => kernel_rfl) (by simp) (AllReadyH.cons rfl (fun K hK => ?_) AllReadyH.nil)
                  try simp only [List.getElem_toArray, List.getElem_cons_succ, List.getElem_cons_zero]
                  rw [if_pos (by as_aux_lemma => kernel_rfl)]
                  change Oper.wp _ _ _ ((Lib.bytesWorld w5.drew 5 b).alloc (.cells (idA I) 27)) _ _
                  refine wp_appendN elemId _ _ rfl w.heap.size (.slice Av k cv) k _ rfl HOWN.out (idA I) HSZ.out rfl HONE.out hk1 hk2 hle.out ?_
                  intro v' w' ho hg hd
                  clear hd
                  obtain ⟨gg, cg, rfl, hcg⟩ := own_slI ho (Nat.succ_pos _)
                  have HQ := Lib.hid (HP.out _ w' ho hg)
                  clear ho hg
                  have SD : w'.cell? ⟨tb, 3, none⟩ = some (.slice Av k cv) := HQ.out.1.cell 3
                  have f3 : w'.frozen? ⟨tb, 3, none⟩ = false := HQ.out.1.frozen 3
                  refine hK.out _ _ (by trivial) (fun hHeld => ?_)
                  clear hK K
                  (try simp only [List.getElem_toArray, List.getElem_cons_succ, List.getElem_cons_zero, Act.put, List.setIfInBounds_toArray, List.set_cons_zero, List.set_cons_succ])
                  refine wpAnyH_take (i := 8) (oi := { dst := some 84, op := .fieldAddr 29 (.tmp 9) 3, type := 0, pos := "parity.go:82", after := #[{ on := 0, ground := .phase }, { on := 1, ground := .phase }, { on := 2, ground := .phase }, { on := 3, ground := .phase }, { on := 4, ground := .phase }, { on := 5, ground := .phase }, { on := 6, ground := .phase }, { on := 7, ground := .phase }], guard := none }) (v := _) rfl (by as_aux_lemma => kernel_rfl) (by as_aux_lemma => kernel_rfl) (by as_aux_lemma => kernel_rfl) (fun _ _ _ h => h) (Or.inl ⟨by kernel_rfl, by (intro w hSw; (try dsimp only at hSw); go_simp; first | done | with_reducible rfl)⟩) (by assumption) ?_
                  (try simp only [List.getElem_toArray, List.getElem_cons_succ, List.getElem_cons_zero, Act.put, List.setIfInBounds_toArray, List.set_cons_zero, List.set_cons_succ])
                  refine wpAnyH_ready (rs := [9]) (by as_aux_lemma => kernel_rfl) (by simp) (AllReadyH.cons rfl (fun K hK => ?_) AllReadyH.nil)
                  try simp only [List.getElem_toArray, List.getElem_cons_succ, List.getElem_cons_zero]
                  go_simp
                  refine hK.out _ _ (by trivial) (fun hHeld => ?_)
                  clear hK K
                  (try simp only [List.getElem_toArray, List.getElem_cons_succ, List.getElem_cons_zero, Act.put, List.setIfInBounds_toArray, List.set_cons_zero, List.set_cons_succ])
                  refine wpAnyH_done (by as_aux_lemma => kernel_rfl) ?_ _
                  go_wp2
                  go_roundw
                  case rel => exact ⟨k + 1, .slice (some ⟨gg, 0, none⟩) (k + 1) cg, by omega, by go_num, Lib.hid HQ.out.2⟩
                  case measure => simp [intOf]; omega
              · as_aux_lemma =>
                  try simp only [List.getElem_toArray, List.getElem_cons_succ, List.getElem_cons_zero]
                  go_simp
                  refine hK.out _ _ (by trivial) (fun hHeld => ?_)
                  clear hK K
                  (try simp only [List.getElem_toArray, List.getElem_cons_succ, List.getElem_cons_zero, Act.put, List.setIfInBounds_toArray, List.set_cons_zero, List.set_cons_succ])
                  refine wpAnyH_take (i := 4) (oi := { dst := some 80, op := .sliceToArrayPointer 27 (.tmp 79), type := 0, pos := "parity.go:82", after := #[{ on := 3, ground := .data }], guard := none }) (v := _) rfl (by as_aux_lemma => kernel_rfl) (by as_aux_lemma => kernel_rfl) (by as_aux_lemma => kernel_rfl) (fun _ _ _ h => h) (Or.inl ⟨by kernel_rfl, by (intro w hSw; (try dsimp only at hSw); go_simp; first | done | with_reducible rfl)⟩) (by assumption) ?_
                  (try simp only [List.getElem_toArray, List.getElem_cons_succ, List.getElem_cons_zero, Act.put, List.setIfInBounds_toArray, List.set_cons_zero, List.set_cons_succ])
                  refine wpAnyH_ready (rs := [1, 5]) (by as_aux_lemma => kernel_rfl) (by simp) (AllReadyH.cons rfl (fun K hK => ?_) (AllReadyH.cons rfl (fun K hK => ?_) AllReadyH.nil))
                  · as_aux_lemma =>
                      try simp only [List.getElem_toArray, List.getElem_cons_succ, List.getElem_cons_zero]
                      go_simp
                      refine hK.out _ _ (by trivial) (fun hHeld => ?_)
                      clear hK K
                      (try simp only [List.getElem_toArray, List.getElem_cons_succ, List.getElem_cons_zero, Act.put, List.setIfInBounds_toArray, List.set_cons_zero, List.set_cons_succ])
                      refine wpAnyH_ready (rs := [5]) (by as_aux_lemma => kernel_rfl) (by simp) (AllReadyH.cons rfl (fun K hK => ?_) AllReadyH.nil)
                      try simp only [List.getElem_toArray, List.getElem_cons_succ, List.getElem_cons_zero]
                      go_simp
                      refine hK.out _ _ (by trivial) (fun hHeld => ?_)
                      clear hK K
                      (try simp only [List.getElem_toArray, List.getElem_cons_succ, List.getElem_cons_zero, Act.put, List.setIfInBounds_toArray, List.set_cons_zero, List.set_cons_succ])
                      refine wpAnyH_ready (rs := [6]) (by as_aux_lemma => kernel_rfl) (by simp) (AllReadyH.cons rfl (fun K hK => ?_) AllReadyH.nil)
                      try simp only [List.getElem_toArray, List.getElem_cons_succ, List.getElem_cons_zero]
                      go_simp
                      refine hK.out _ _ (by trivial) (fun hHeld => ?_)
                      clear hK K
                      (try simp only [List.getElem_toArray, List.getElem_cons_succ, List.getElem_cons_zero, Act.put, List.setIfInBounds_toArray, List.set_cons_zero, List.set_cons_succ])
                      refine wpAnyH_ready (rs := [7]) (by as_aux_lemma => kernel_rfl) (by simp) (AllReadyH.cons rfl (fun K hK => ?_) AllReadyH.nil)
                      try simp only [List.getElem_toArray, List.getElem_cons_succ, List.getElem_cons_zero]
                      rw [if_pos (by as_aux_lemma => kernel_rfl)]
                      change Oper.wp _ _ _ ((Lib.bytesWorld w5.drew 5 b).alloc (.cells (idA I) 27)) _ _
                      refine wp_appendN elemId _ _ rfl w.heap.size (.slice Av k cv) k _ rfl HOWN.out (idA I) HSZ.out rfl HONE.out hk1 hk2 hle.out ?_
                      intro v' w' ho hg hd
                      clear hd
                      obtain ⟨gg, cg, rfl, hcg⟩ := own_slI ho (Nat.succ_pos _)
                      have HQ := Lib.hid (HP.out _ w' ho hg)
                      clear ho hg
                      have SD : w'.cell? ⟨tb, 3, none⟩ = some (.slice Av k cv) := HQ.out.1.cell 3
                      have f3 : w'.frozen? ⟨tb, 3, none⟩ = false := HQ.out.1.frozen 3
                      refine hK.out _ _ (by trivial) (fun hHeld => ?_)
                      clear hK K
                      (try simp only [List.getElem_toArray, List.getElem_cons_succ, List.getElem_cons_zero, Act.put, List.setIfInBounds_toArray, List.set_cons_zero, List.set_cons_succ])
                      refine wpAnyH_take (i := 8) (oi := { dst := some 84, op := .fieldAddr 29 (.tmp 9) 3, type := 0, pos := "parity.go:82", after := #[{ on := 0, ground := .phase }, { on := 1, ground := .phase }, { on := 2, ground := .phase }, { on := 3, ground := .phase }, { on := 4, ground := .phase }, { on := 5, ground := .phase }, { on := 6, ground := .phase }, { on := 7, ground := .phase }], guard := none }) (v := _) rfl (by as_aux_lemma => kernel_rfl) (by as_aux_lemma => kernel_rfl) (by as_aux_lemma => kernel_rfl) (fun _ _ _ h => h) (Or.inl ⟨by kernel_rfl, by (intro w hSw; (try dsimp only at hSw); go_simp; first | done | with_reducible rfl)⟩) (by assumption) ?_
                      (try simp only [List.getElem_toArray, List.getElem_cons_succ, List.getElem_cons_zero, Act.put, List.setIfInBounds_toArray, List.set_cons_zero, List.set_cons_succ])
                      refine wpAnyH_ready (rs := [9]) (by as_aux_lemma => kernel_rfl) (by simp) (AllReadyH.cons rfl (fun K hK => ?_) AllReadyH.nil)
                      try simp only [List.getElem_toArray, List.getElem_cons_succ, List.getElem_cons_zero]
                      go_simp
                      refine hK.out _ _ (by trivial) (fun hHeld => ?_)
                      clear hK K
                      (try simp only [List.getElem_toArray, List.getElem_cons_succ, List.getElem_cons_zero, Act.put, List.setIfInBounds_toArray, List.set_cons_zero, List.set_cons_succ])
                      refine wpAnyH_done (by as_aux_lemma => kernel_rfl) ?_ _
                      go_wp2
                      go_roundw
                      case rel => exact ⟨k + 1, .slice (some ⟨gg, 0, none⟩) (k + 1) cg, by omega, by go_num, Lib.hid HQ.out.2⟩
                      case measure => simp [intOf]; omega
                  · as_aux_lemma =>
                      try simp only [List.getElem_toArray, List.getElem_cons_succ, List.getElem_cons_zero]
                      go_simp
                      refine hK.out _ _ (by trivial) (fun hHeld => ?_)
                      clear hK K
                      (try simp only [List.getElem_toArray, List.getElem_cons_succ, List.getElem_cons_zero, Act.put, List.setIfInBounds_toArray, List.set_cons_zero, List.set_cons_succ])
                      refine wpAnyH_ready (rs := [1, 6]) (by as_aux_lemma => kernel_rfl) (by simp) (AllReadyH.cons rfl (fun K hK => ?_) (AllReadyH.cons rfl (fun K hK => ?_) AllReadyH.nil))
                      · as_aux_lemma =>
                          try simp only [List.getElem_toArray, List.getElem_cons_succ, List.getElem_cons_zero]
                          go_simp
                          refine hK.out _ _ (by trivial) (fun hHeld => ?_)
                          clear hK K
                          (try simp only [List.getElem_toArray, List.getElem_cons_succ, List.getElem_cons_zero, Act.put, List.setIfInBounds_toArray, List.set_cons_zero, List.set_cons_succ])
                          refine wpAnyH_ready (rs := [6]) (by as_aux_lemma => kernel_rfl) (by simp) (AllReadyH.cons rfl (fun K hK => ?_) AllReadyH.nil)
                          try simp only [List.getElem_toArray, List.getElem_cons_succ, List.getElem_cons_zero]
                          go_simp
                          refine hK.out _ _ (by trivial) (fun hHeld => ?_)
                          clear hK K
                          (try simp only [List.getElem_toArray, List.getElem_cons_succ, List.getElem_cons_zero, Act.put, List.setIfInBounds_toArray, List.set_cons_zero, List.set_cons_succ])
                          refine wpAnyH_ready (rs := [7]) (by as_aux_lemma => kernel_rfl) (by simp) (AllReadyH.cons rfl (fun K hK => ?_) AllReadyH.nil)
                          try simp only [List.getElem_toArray, List.getElem_cons_succ, List.getElem_cons_zero]
                          rw [if_pos (by as_aux_lemma => kernel_rfl)]
                          change Oper.wp _ _ _ ((Lib.bytesWorld w5.drew 5 b).alloc (.cells (idA I) 27)) _ _
                          refine wp_appendN elemId _ _ rfl w.heap.size (.slice Av k cv) k _ rfl HOWN.out (idA I) HSZ.out rfl HONE.out hk1 hk2 hle.out ?_
                          intro v' w' ho hg hd
                          clear hd
                          obtain ⟨gg, cg, rfl, hcg⟩ := own_slI ho (Nat.succ_pos _)
                          have HQ := Lib.hid (HP.out _ w' ho hg)
                          clear ho hg
                          have SD : w'.cell? ⟨tb, 3, none⟩ = some (.slice Av k cv) := HQ.out.1.cell 3
                          have f3 : w'.frozen? ⟨tb, 3, none⟩ = false := HQ.out.1.frozen 3
                          refine hK.out _ _ (by trivial) (fun hHeld => ?_)
                          clear hK K
                          (try simp only [List.getElem_toArray, List.getElem_cons_succ, List.getElem_cons_zero, Act.put, List.setIfInBounds_toArray, List.set_cons_zero, List.set_cons_succ])
                          refine wpAnyH_take (i := 8) (oi := { dst := some 84, op := .fieldAddr 29 (.tmp 9) 3, type := 0, pos := "parity.go:82", after := #[{ on := 0, ground := .phase }, { on := 1, ground := .phase }, { on := 2, ground := .phase }, { on := 3, ground := .phase }, { on := 4, ground := .phase }, { on := 5, ground := .phase }, { on := 6, ground := .phase }, { on := 7, ground := .phase }], guard := none }) (v := _) rfl (by as_aux_lemma => kernel_rfl) (by as_aux_lemma => kernel_rfl) (by as_aux_lemma => kernel_rfl) (fun _ _ _ h => h) (Or.inl ⟨by kernel_rfl, by (intro w hSw; (try dsimp only at hSw); go_simp; first | done | with_reducible rfl)⟩) (by assumption) ?_
                          (try simp only [List.getElem_toArray, List.getElem_cons_succ, List.getElem_cons_zero, Act.put, List.setIfInBounds_toArray, List.set_cons_zero, List.set_cons_succ])
                          refine wpAnyH_ready (rs := [9]) (by as_aux_lemma => kernel_rfl) (by simp) (AllReadyH.cons rfl (fun K hK => ?_) AllReadyH.nil)
                          try simp only [List.getElem_toArray, List.getElem_cons_succ, List.getElem_cons_zero]
                          go_simp
                          refine hK.out _ _ (by trivial) (fun hHeld => ?_)
                          clear hK K
                          (try simp only [List.getElem_toArray, List.getElem_cons_succ, List.getElem_cons_zero, Act.put, List.setIfInBounds_toArray, List.set_cons_zero, List.set_cons_succ])
                          refine wpAnyH_done (by as_aux_lemma => kernel_rfl) ?_ _
                          go_wp2
                          go_roundw
                          case rel => exact ⟨k + 1, .slice (some ⟨gg, 0, none⟩) (k + 1) cg, by omega, by go_num, Lib.hid HQ.out.2⟩
                          case measure => simp [intOf]; omega
                      · as_aux_lemma =>
                          try simp only [List.getElem_toArray, List.getElem_cons_succ, List.getElem_cons_zero]
                          go_simp
                          refine hK.out _ _ (by trivial) (fun hHeld => ?_)
                          clear hK K
                          (try simp only [List.getElem_toArray, List.getElem_cons_succ, List.getElem_cons_zero, Act.put, List.setIfInBounds_toArray, List.set_cons_zero, List.set_cons_succ])
                          refine wpAnyH_ready (rs := [1]) (by as_aux_lemma => kernel_rfl) (by simp) (AllReadyH.cons rfl (fun K hK => ?_) AllReadyH.nil)
                          try simp only [List.getElem_toArray, List.getElem_cons_succ, List.getElem_cons_zero]
                          go_simp
                          refine hK.out _ _ (by trivial) (fun hHeld => ?_)
                          clear hK K
                          (try simp only [List.getElem_toArray, List.getElem_cons_succ, List.getElem_cons_zero, Act.put, List.setIfInBounds_toArray, List.set_cons_zero, List.set_cons_succ])
                          refine wpAnyH_ready (rs := [7]) (by as_aux_lemma => kernel_rfl) (by simp) (AllReadyH.cons rfl (fun K hK => ?_) AllReadyH.nil)
                          try simp only [List.getElem_toArray, List.getElem_cons_succ, List.getElem_cons_zero]
                          rw [if_pos (by as_aux_lemma => kernel_rfl)]
                          change Oper.wp _ _ _ ((Lib.bytesWorld w5.drew 5 b).alloc (.cells (idA I) 27)) _ _
                          refine wp_appendN elemId _ _ rfl w.heap.size (.slice Av k cv) k _ rfl HOWN.out (idA I) HSZ.out rfl HONE.out hk1 hk2 hle.out ?_
                          intro v' w' ho hg hd
                          clear hd
                          obtain ⟨gg, cg, rfl, hcg⟩ := own_slI ho (Nat.succ_pos _)
                          have HQ := Lib.hid (HP.out _ w' ho hg)
                          clear ho hg
                          have SD : w'.cell? ⟨tb, 3, none⟩ = some (.slice Av k cv) := HQ.out.1.cell 3
                          have f3 : w'.frozen? ⟨tb, 3, none⟩ = false := HQ.out.1.frozen 3
                          refine hK.out _ _ (by trivial) (fun hHeld => ?_)
                          clear hK K
                          (try simp only [List.getElem_toArray, List.getElem_cons_succ, List.getElem_cons_zero, Act.put, List.setIfInBounds_toArray, List.set_cons_zero, List.set_cons_succ])
                          refine wpAnyH_take (i := 8) (oi := { dst := some 84, op := .fieldAddr 29 (.tmp 9) 3, type := 0, pos := "parity.go:82", after := #[{ on := 0, ground := .phase }, { on := 1, ground := .phase }, { on := 2, ground := .phase }, { on := 3, ground := .phase }, { on := 4, ground := .phase }, { on := 5, ground := .phase }, { on := 6, ground := .phase }, { on := 7, ground := .phase }], guard := none }) (v := _) rfl (by as_aux_lemma => kernel_rfl) (by as_aux_lemma => kernel_rfl) (by as_aux_lemma => kernel_rfl) (fun _ _ _ h => h) (Or.inl ⟨by kernel_rfl, by (intro w hSw; (try dsimp only at hSw); go_simp; first | done | with_reducible rfl)⟩) (by assumption) ?_
                          (try simp only [List.getElem_toArray, List.getElem_cons_succ, List.getElem_cons_zero, Act.put, List.setIfInBounds_toArray, List.set_cons_zero, List.set_cons_succ])
                          refine wpAnyH_ready (rs := [9]) (by as_aux_lemma => kernel_rfl) (by simp) (AllReadyH.cons rfl (fun K hK => ?_) AllReadyH.nil)
                          try simp only [List.getElem_toArray, List.getElem_cons_succ, List.getElem_cons_zero]
                          go_simp
                          refine hK.out _ _ (by trivial) (fun hHeld => ?_)
                          clear hK K
                          (try simp only [List.getElem_toArray, List.getElem_cons_succ, List.getElem_cons_zero, Act.put, List.setIfInBounds_toArray, List.set_cons_zero, List.set_cons_succ])
                          refine wpAnyH_done (by as_aux_lemma => kernel_rfl) ?_ _
                          go_wp2
                          go_roundw
                          case rel => exact ⟨k + 1, .slice (some ⟨gg, 0, none⟩) (k + 1) cg, by omega, by go_num, Lib.hid HQ.out.2⟩
                          case measure => simp [intOf]; omega
            · obtain rfl : k = n := by omega
              obtain ⟨Av, cv, rfl, hRv⟩ := own_reads HK.out.own
              clear hRv
              obtain ⟨t0, t1, t2, t3⟩ := tbl_cells HK.out.tab
              obtain ⟨z0, z1, z2, z3⟩ := tbl_cells HK.out.res
              have g0 : ∀ i, wr.frozen? ⟨w.heap.size, i, none⟩ = false := fun i => HK.out.res.frozen i
              have HZ : Hid (Blk (set4 wr w.heap.size (.int .i64 d) (.int .i64 p) (.int .i64 z) (.slice Av (sumsF r k).length cv)) w.heap.size 29 (tblA ⟨d, p, z, sumsF r k⟩ (.slice Av (sumsF r k).length cv)) ∧ Below w.heap.size w (set4 wr w.heap.size (.int .i64 d) (.int .i64 p) (.int .i64 z) (.slice Av (sumsF r k).length cv)) ∧ (set4 wr w.heap.size (.int .i64 d) (.int .i64 p) (.int .i64 z) (.slice Av (sumsF r k).length cv)).ownsRow w.heap.size 27 32 (.slice Av (sumsF r k).length cv) (sumsF r k).length (idsV (sumsF r k))) := Lib.hid ⟨set4_blk HK.out.res _ _ _ _, set4_below HK.out.below (Nat.le_refl _) _ _ _ _, HK.out.own.kept (set4_grown _ _ _ _ _ _) (.inr (own_blk_ne HK.out.own HK.out.res HK.out.ty.2))⟩
              go_wp2
              exact bodyPost_ret (results_tbl (p := 2) (u := 3) rfl _ _ w.heap.size 29 (tblA ⟨d, p, z, sumsF r k⟩ (.slice Av (sumsF r k).length cv)) (0, 0) rfl HZ.out.1 Try.underlying29 (by kernel_rfl)) rfl ⟨.slice Av (sumsF r k).length cv, by rw [HS.out]; rfl, by rw [HS.out]; exact HZ.out.2.2, HZ.out.2.1⟩
end Go.Proofs.Ytfoandpcoakcjaa
