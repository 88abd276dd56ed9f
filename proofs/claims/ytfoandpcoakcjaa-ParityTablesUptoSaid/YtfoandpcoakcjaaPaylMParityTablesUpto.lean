/- Walk: the table that a payload says, by the document. Conditions: the text can be held. -/
import Derived.Test.YtfoandpcoakcjaaMgParityTablesUpto3
import Derived.Deep.DeepCutAuto
namespace Go.Proofs.Ytfoandpcoakcjaa
open Go.RowKit Wir
set_option linter.unusedVariables false
set_option linter.unusedSimpArgs false
attribute [local go_sem ↓] execOp_ld32 execOp_st32 execOp_bslI
attribute [local go_sem] run_ld32 run_st32 run_bslI
theorem ruint_n (s : ByteArray) (R : Nat) (w : World) (h : RRdr w R s) (hs : s.size ≤ 9223372036854775807) :
    Calls Try.prog 55 #[.pointer (some ⟨R, 0, none⟩)] w
      fun e w' => e = .returned (.tuple #[.int .u64 (nvN s : Int), .int .i64 (uintE s)]) ∧ RRdr w' R (uintS s) ∧ w.grownBy w' (some R) := ruint_g s R w h hs
set_option maxRecDepth 100000 in
set_option maxHeartbeats 4000000 in
theorem rpayload_any (s : ByteArray) (w : World) (hs : s.size ≤ 140737488355328) :
    Calls Try.prog 29 #[.string s] w fun e w' => ∃ v, e = .returned (.tuple #[.agg (tblA (sayR s).1 v), .bool (sayR s).2]) ∧ w'.ownsRow w.heap.size 27 32 v (sayR s).1.ids.length (idsV (sayR s).1.ids) ∧ Below w.heap.size w w' := by
  have HI0 : Hid (PyI 101 25 w (((w.alloc (.cells (tblA zTbl (.slice none 0 0)) 25)).alloc (.cells #[.string s] 101)).alloc (.cells (arr4 0 s) 60)) 0 s w.heap.size (w.heap.size + 1) (w.heap.size + 2)) := Lib.hid (by
    have h2 := Blk.new (w.alloc (.cells (tblA zTbl (.slice none 0 0)) 25)) 101 #[.string s]
    have h3 := Blk.new ((w.alloc (.cells (tblA zTbl (.slice none 0 0)) 25)).alloc (.cells #[.string s] 101)) 60 (arr4 0 s)
    rw [show (w.alloc (.cells (tblA zTbl (.slice none 0 0)) 25)).heap.size = w.heap.size + 1 from by simp] at h2
    rw [show ((w.alloc (.cells (tblA zTbl (.slice none 0 0)) 25)).alloc (.cells #[.string s] 101)).heap.size = w.heap.size + 2 from by simp] at h3
    exact ⟨((Blk.new _ _ _).alloc _).alloc _, h2.alloc _, h3, (((Below.refl _ _).alloc (Nat.le_refl _) _).alloc (by simp) _).alloc (by simp; omega) _, by omega⟩)
  go_enter Try.func29, Try.ntmps29
  go_upto_region 3 with fail
  change Code.wp _ _ _ _ (((w.alloc (.cells (tblA zTbl (.slice none 0 0)) 25)).alloc (.cells #[.string s] 101)).alloc (.cells (arr4 0 s) 60))
  generalize ((w.alloc (.cells (tblA zTbl (.slice none 0 0)) 25)).alloc (.cells #[.string s] 101)).alloc (.cells (arr4 0 s) 60) = w1 at HI0 ⊢
  go_wp2_with fail
  go_loopw [6] (fun i wr => ∃ (k : Nat), k ≤ 4 ∧ i = .int .i64 k ∧ Hid (noks k s = true ∧ PyI 101 25 w wr k s w.heap.size (w.heap.size + 1) (w.heap.size + 2))) (fun i _ => 4 - (intOf i).toNat)
  case atStart => exact ⟨0, by omega, rfl, Lib.hid ⟨rfl, HI0.out⟩⟩
  case round =>
    obtain ⟨k, hk, rfl, HI⟩ := hrel
    by_cases hk4 : k < 4
    · as_aux_lemma =>
      have hz := nxK_size k s
      have U := Lib.hid (ruint_n (nxK k s) (w.heap.size + 1) wr HI.out.2.rd (by omega))
      have HST := Lib.hid (fun w' hr hg => HI.out.2.store (w' := w') hk4 hr hg)
      have HSTEP : Hid (nok (nxK k s) = true → noks (k + 1) s = true) := Lib.hid (fun h => by rw [noks_step, HI.out.1, h]; rfl)
      have HFAIL : Hid (nok (nxK k s) = false → sayR s = (zTbl, false)) := Lib.hid (fun h => say_no (by
        cases hn : noks 4 s with
        | false => rfl
        | true =>
          have := noks_less (k := k + 1) (m := 4) (by omega) hn
          rw [noks_step, h, Bool.and_false] at this
          cases this))
      have hNOK : Hid (nok (nxK k s) = (decide (uintE (nxK k s) = 0) && decide (nvN (nxK k s) ≤ 67108864))) := Lib.hid rfl
      have h64 := short_64 (nxK k s)
      have hN64 : nvN (nxK k s) < 18446744073709551616 := h64
      generalize nvN (nxK k s) = N at *
      obtain ⟨u, hu⟩ : ∃ u, uintE (nxK k s) = u := ⟨_, rfl⟩
      rw [hu] at U hNOK
      clear h64 hu
      have hki : (k : Int) < 4 := by omega
      have hk0 : (0 : Int) ≤ (k : Int) := by omega
      go_wp2_with fail
      (with_reducible refine U.out.mono ?_)
      rintro e w2 ⟨rfl, hr2, hg2⟩
      obtain ⟨q1, q2, q3, q4⟩ := HST.out w2 hr2 hg2
      have HQ := Lib.hid (And.intro q1 (And.intro q2 (And.intro q3 q4)))
      clear q1 q2 q3 q4 hr2 hg2 U HST
      by_cases hg : u = 0 ∧ N ≤ 67108864
      · obtain ⟨rfl, hN⟩ := hg
        have HS := Lib.hid (HSTEP.out (by rw [hNOK.out]; simp [hN]))
        clear HSTEP HFAIL hNOK
        obtain ⟨u0, hc0⟩ := arr_one HQ.out.1 k hk4
        have f0 : w2.frozen? ⟨w.heap.size + 2, k, none⟩ = false := HQ.out.1.frozen k
        go_wp2
        go_roundw
        case rel => exact ⟨k + 1, by omega, by go_num, Lib.hid ⟨HS.out, HQ.out.2.2.2⟩⟩
        case measure => simp [intOf]; omega
      · have HS := Lib.hid (HFAIL.out (by rw [hNOK.out]; simp only [Bool.and_eq_false_iff, decide_eq_false_iff_not]; omega))
        clear HSTEP HFAIL hNOK
        obtain ⟨z0, z1, z2, z3⟩ := tbl_cells HQ.out.2.1
        have g0 : ∀ i, w2.frozen? ⟨w.heap.size, i, none⟩ = false := fun i => HQ.out.2.1.frozen i
        have HZ : Hid (Blk (set4 w2 w.heap.size (.int .i64 0) (.int .i64 0) (.int .i64 0) (.slice none 0 0)) w.heap.size 25 (tblA zTbl (.slice none 0 0)) ∧ Below w.heap.size w (set4 w2 w.heap.size (.int .i64 0) (.int .i64 0) (.int .i64 0) (.slice none 0 0))) := Lib.hid ⟨set4_blk HQ.out.2.1 _ _ _ _, set4_below HQ.out.2.2.1 (Nat.le_refl _) _ _ _ _⟩
        have hb : u ≠ 0 ∨ (u = 0 ∧ 67108864 < N) := by omega
        clear hg
        rcases hb with h | ⟨rfl, h⟩
        · have b1 : (u != 0) = true := by rw [bne_iff_ne]; exact h
          clear h
          go_wp2
          exact bodyPost_ret (results_tbl (p := 2) (u := 3) rfl _ _ w.heap.size 25 (tblA zTbl (.slice none 0 0)) (0, 0) rfl HZ.out.1 Try.underlying25 (by kernel_rfl)) rfl ⟨.slice none 0 0, by rw [HS.out]; rfl, by rw [HS.out]; exact World.ownsRow_nil _ _ _ _, HZ.out.2⟩
        · go_wp2
          exact bodyPost_ret (results_tbl (p := 2) (u := 3) rfl _ _ w.heap.size 25 (tblA zTbl (.slice none 0 0)) (0, 0) rfl HZ.out.1 Try.underlying25 (by kernel_rfl)) rfl ⟨.slice none 0 0, by rw [HS.out]; rfl, by rw [HS.out]; exact World.ownsRow_nil _ _ _ _, HZ.out.2⟩
    · obtain rfl : k = 4 := by omega
      rw [show ((4 : Nat) : Int) = 4 from rfl]
      have HNK := Lib.hid HI.out.1
      have nb (i : Nat) (hi : i < 4) : nvN (nxK i s) ≤ 67108864 := by
        have h := HNK.out
        unfold noks at h
        rw [List.all_eq_true] at h
        have := h i (by rw [List.mem_range]; exact hi)
        unfold nok at this
        rw [Bool.and_eq_true, decide_eq_true_eq, decide_eq_true_eq] at this
        exact this.2
      have b0 := nb 0 (by omega)
      have b1 := nb 1 (by omega)
      have b2 := nb 2 (by omega)
      have b3 := nb 3 (by omega)
      have HSB : Hid (sayB s = (decide (nvN s = 1) && (uniB (nvN (nxK 1 s)) (nvN (nxK 2 s)) && decide ((nxK 4 s).size = 32 * (nvN (nxK 1 s) + nvN (nxK 2 s)))))) := Lib.hid (by unfold sayB; rw [HNK.out, Bool.true_and])
      have HSY : Hid (sayB s = true → sayR s = (⟨nvN (nxK 1 s), nvN (nxK 2 s), nvN (nxK 3 s), sumsF (nxK 4 s) (nvN (nxK 1 s) + nvN (nxK 2 s))⟩, true)) := Lib.hid (fun h => if_pos h)
      have HSN : Hid (sayB s = false → sayR s = (zTbl, false)) := Lib.hid (fun h => if_neg (by rw [h]; decide))
      obtain ⟨c0, c1, c2, c3⟩ := arr_cells HI.out.2.arr
      have v0 : nv4 s 4 0 = (nvN s : Int) := rfl
      have v1 : nv4 s 4 1 = (nvN (nxK 1 s) : Int) := rfl
      have v2 : nv4 s 4 2 = (nvN (nxK 2 s) : Int) := rfl
      have v3 : nv4 s 4 3 = (nvN (nxK 3 s) : Int) := rfl
      rw [v0] at c0
      rw [v1] at c1
      rw [v2] at c2
      rw [v3] at c3
      have hz := nxK_size 4 s
      have HAR : Hid (Blk wr (w.heap.size + 2) 60 (arr4 4 s)) := Lib.hid HI.out.2.arr
      have HRD : Hid (Blk wr w.heap.size 25 (tblA zTbl (.slice none 0 0)) ∧ Blk wr (w.heap.size + 1) 101 #[.string (nxK 4 s)] ∧ Below w.heap.size w wr) := Lib.hid ⟨HI.out.2.res, HI.out.2.rd, HI.out.2.below⟩
      have HAC : Hid (∀ W, Below wr.heap.size wr W → W.cell? ⟨w.heap.size + 2, 0, none⟩ = some (.int .i64 (nvN s))) := Lib.hid (fun W hW => by
        have := (arr_cells (HAR.out.below hW HAR.out.lt)).1
        rwa [v0] at this)
      clear v0 v1 v2 v3 nb HI
      have e0 : nvN (nxK 0 s) = nvN s := rfl
      rw [e0] at b0
      generalize nxK 4 s = r at *
      generalize nvN (nxK 1 s) = d at *
      generalize nvN (nxK 2 s) = p at *
      generalize nvN (nxK 3 s) = z at *
      generalize nvN s = m at *
      clear e0
      have PT0 : Hid (PyT 101 25 w (wr.alloc (.cells (tblA ⟨d, p, z, []⟩ (.slice none 0 0)) 25)) ⟨d, p, z, []⟩ r w.heap.size (w.heap.size + 1) wr.heap.size (.slice none 0 0) ∧ Below wr.heap.size wr (wr.alloc (.cells (tblA ⟨d, p, z, []⟩ (.slice none 0 0)) 25))) := Lib.hid ⟨⟨HRD.out.1.alloc _, HRD.out.2.1.alloc _, Blk.new _ _ _, World.ownsRow_nil _ _ _ _, HRD.out.2.2.alloc HRD.out.2.2.size _, by have := HRD.out.2.1.lt; omega, by decide⟩, (Below.refl _ _).alloc (Nat.le_refl _) _⟩
      go_upto_region 11 with fail
      change Code.wp _ _ _ _ (wr.alloc (.cells (tblA ⟨d, p, z, []⟩ (.slice none 0 0)) 25))
      generalize wr.alloc (.cells (tblA ⟨d, p, z, []⟩ (.slice none 0 0)) 25) = w3 at PT0 ⊢
      generalize wr.heap.size = tb at PT0 HAC ⊢
      have US := Lib.hid (fun W => runits_any d p W)
      have KS : Hid (∀ W, PyT 101 25 w W ⟨d, p, z, []⟩ r w.heap.size (w.heap.size + 1) tb (.slice none 0 0) → W.cell? ⟨tb, 0, none⟩ = some (.int .i64 d) ∧ W.cell? ⟨tb, 1, none⟩ = some (.int .i64 p) ∧ W.cell? ⟨w.heap.size + 1, 0, none⟩ = some (.string r)) := Lib.hid (fun W hW => ⟨hW.tab.cell 0, hW.tab.cell 1, hW.rd.cell 0⟩)
      have hm0 : w3.drew.cell? ⟨w.heap.size + 2, 0, none⟩ = some (.int .i64 m) := HAC.out _ PT0.out.2.drew
      have hk1 := KS.out _ PT0.out.1.drew
      have SA : w3.drew.cell? ⟨w.heap.size + 2, 0, none⟩ = some (.int .i64 m) ∧ w3.drew.cell? ⟨tb, 0, none⟩ = some (.int .i64 d) ∧ w3.drew.cell? ⟨tb, 1, none⟩ = some (.int .i64 p) ∧ w3.drew.cell? ⟨w.heap.size + 1, 0, none⟩ = some (.string r) := ⟨hm0, hk1⟩
      have PD := Lib.hid PT0.out.1.drew
      clear c0 c1 c2 c3 hm0 hk1 KS HAC HNK HRD HAR PT0
      have hrz : r.size ≤ 140737488355328 := by omega
      have UC := uni_cases d p
      go_cut [67] (fun v67 wx => v67 = .bool (!(sayB s)) ∧ Hid (PyT 101 25 w wx ⟨d, p, z, []⟩ r w.heap.size (w.heap.size + 1) tb (.slice none 0 0)))
      case first =>
        by_cases hm : m = 1
        · have q0 : ((m : Int) != 1) = false := by rw [hm]; rfl
          rcases UC with ⟨E, _⟩ | ⟨E, u1, u2, u3', u4⟩
          · have HF : Hid (sayB s = false) := Lib.hid (by rw [HSB.out, E]; simp)
            rw [E] at US
            clear E hm HSB
            refine wp_region_held_drew (S := fun w' => w'.cell? ⟨w.heap.size + 2, 0, none⟩ = some (.int .i64 m) ∧ w'.cell? ⟨tb, 0, none⟩ = some (.int .i64 d) ∧ w'.cell? ⟨tb, 1, none⟩ = some (.int .i64 p) ∧ w'.cell? ⟨w.heap.size + 1, 0, none⟩ = some (.string r)) (by kernel_rfl) (by exact SA) (fun hHeld => ?_)
            refine wpAnyH_take (i := 0) (oi := { dst := some 43, op := .indexAddr 60 (.tmp 5) (.const (Value.int IntKind.i64 0)), type := 0, pos := "ref.go:65", after := #[], guard := none }) (v := _) rfl (by as_aux_lemma => kernel_rfl) (by as_aux_lemma => kernel_rfl) (by as_aux_lemma => kernel_rfl) (fun _ _ _ h => h) (Or.inl ⟨by kernel_rfl, by (intro w hSw; (try dsimp only at hSw); go_simp; first | done | with_reducible rfl)⟩) (by assumption) ?_
            (try simp only [List.getElem_toArray, List.getElem_cons_succ, List.getElem_cons_zero, Act.put, List.setIfInBounds_toArray, List.set_cons_zero, List.set_cons_succ])
            refine wpAnyH_take (i := 1) (oi := { dst := some 44, op := .load 3 (.tmp 43), type := 3, pos := "ref.go:65", after := #[{ on := 0, ground := .data }], guard := none }) (v := _) rfl (by as_aux_lemma => kernel_rfl) (by as_aux_lemma => kernel_rfl) (by as_aux_lemma => kernel_rfl) (fun _ _ _ h => h) (Or.inl ⟨by kernel_rfl, by (intro w hSw; (try dsimp only at hSw); go_simp; first | done | with_reducible rfl)⟩) (by assumption) ?_
            (try simp only [List.getElem_toArray, List.getElem_cons_succ, List.getElem_cons_zero, Act.put, List.setIfInBounds_toArray, List.set_cons_zero, List.set_cons_succ])
            refine wpAnyH_take (i := 2) (oi := { dst := some 45, op := .binOp BinOp.neq 3 (.tmp 44) (.const (Value.int IntKind.i64 1)) 3, type := 4, pos := "ref.go:65", after := #[{ on := 1, ground := .data }], guard := none }) (v := _) rfl (by as_aux_lemma => kernel_rfl) (by as_aux_lemma => kernel_rfl) (by as_aux_lemma => kernel_rfl) (fun _ _ _ h => h) (Or.inl ⟨by kernel_rfl, by (intro w hSw; (try dsimp only at hSw); go_simp; first | done | with_reducible rfl)⟩) (by assumption) ?_
            (try simp only [List.getElem_toArray, List.getElem_cons_succ, List.getElem_cons_zero, Act.put, List.setIfInBounds_toArray, List.set_cons_zero, List.set_cons_succ])
            refine wpAnyH_take (i := 3) (oi := { dst := some 46, op := .move (.tmp 45), type := 4, pos := "ref.go:65", after := #[{ on := 2, ground := .data }], guard := none }) (v := _) rfl (by as_aux_lemma => kernel_rfl) (by as_aux_lemma => kernel_rfl) (by as_aux_lemma => kernel_rfl) (fun _ _ _ h => h) (Or.inl ⟨by kernel_rfl, by (intro w hSw; (try dsimp only at hSw); go_simp; first | done | with_reducible rfl)⟩) (by assumption) ?_
            (try simp only [List.getElem_toArray, List.getElem_cons_succ, List.getElem_cons_zero, Act.put, List.setIfInBounds_toArray, List.set_cons_zero, List.set_cons_succ])
            refine wpAnyH_take (i := 4) (oi := { dst := some 47, op := .fieldAddr 25 (.tmp 9) 0, type := 0, pos := "ref.go:65", after := #[{ on := 3, ground := .guard }], guard := some (3, false) }) (v := _) rfl (by as_aux_lemma => kernel_rfl) (by as_aux_lemma => kernel_rfl) (by as_aux_lemma => kernel_rfl) (fun _ _ _ h => h) (Or.inl ⟨by kernel_rfl, by (intro w hSw; (try dsimp only at hSw); go_simp; first | done | with_reducible rfl)⟩) (by assumption) ?_
            (try simp only [List.getElem_toArray, List.getElem_cons_succ, List.getElem_cons_zero, Act.put, List.setIfInBounds_toArray, List.set_cons_zero, List.set_cons_succ])
            refine wpAnyH_take (i := 5) (oi := { dst := some 48, op := .load 3 (.tmp 47), type := 3, pos := "ref.go:65", after := #[{ on := 4, ground := .data }, { on := 3, ground := .guard }], guard := some (3, false) }) (v := _) rfl (by as_aux_lemma => kernel_rfl) (by as_aux_lemma => kernel_rfl) (by as_aux_lemma => kernel_rfl) (fun _ _ _ h => h) (Or.inl ⟨by kernel_rfl, by (intro w hSw; (try dsimp only at hSw); go_simp; first | done | with_reducible rfl)⟩) (by assumption) ?_
            (try simp only [List.getElem_toArray, List.getElem_cons_succ, List.getElem_cons_zero, Act.put, List.setIfInBounds_toArray, List.set_cons_zero, List.set_cons_succ])
            refine wpAnyH_take (i := 6) (oi := { dst := some 49, op := .fieldAddr 25 (.tmp 9) 1, type := 0, pos := "ref.go:65", after := #[{ on := 3, ground := .guard }], guard := some (3, false) }) (v := _) rfl (by as_aux_lemma => kernel_rfl) (by as_aux_lemma => kernel_rfl) (by as_aux_lemma => kernel_rfl) (fun _ _ _ h => h) (Or.inl ⟨by kernel_rfl, by (intro w hSw; (try dsimp only at hSw); go_simp; first | done | with_reducible rfl)⟩) (by assumption) ?_
            (try simp only [List.getElem_toArray, List.getElem_cons_succ, List.getElem_cons_zero, Act.put, List.setIfInBounds_toArray, List.set_cons_zero, List.set_cons_succ])
            refine wpAnyH_take (i := 7) (oi := { dst := some 50, op := .load 3 (.tmp 49), type := 3, pos := "ref.go:65", after := #[{ on := 6, ground := .data }, { on := 3, ground := .guard }], guard := some (3, false) }) (v := _) rfl (by as_aux_lemma => kernel_rfl) (by as_aux_lemma => kernel_rfl) (by as_aux_lemma => kernel_rfl) (fun _ _ _ h => h) (Or.inl ⟨by kernel_rfl, by (intro w hSw; (try dsimp only at hSw); go_simp; first | done | with_reducible rfl)⟩) (by assumption) ?_
            (try simp only [List.getElem_toArray, List.getElem_cons_succ, List.getElem_cons_zero, Act.put, List.setIfInBounds_toArray, List.set_cons_zero, List.set_cons_succ])
            refine wpAnyH_ready (rs := [8]) (by as_aux_lemma => kernel_rfl) (by simp) (AllReadyH.cons rfl (fun K hK => ?_) AllReadyH.nil)
            try simp only [List.getElem_toArray, List.getElem_cons_succ, List.getElem_cons_zero]
            go_simp
            go_at_call 26
            refine (US.out _).mono ?_
            rintro e wn ⟨rfl, rfl⟩
            go_simp
            refine hK.out _ _ (by exact SA) (fun hHeld => ?_)
            clear hK K
            (try simp only [List.getElem_toArray, List.getElem_cons_succ, List.getElem_cons_zero, Act.put, List.setIfInBounds_toArray, List.set_cons_zero, List.set_cons_succ])
            refine wpAnyH_take (i := 9) (oi := { dst := some 52, op := .unOp UnOp.not 4 (.tmp 51), type := 4, pos := "ref.go:65", after := #[{ on := 8, ground := .data }, { on := 3, ground := .guard }], guard := some (3, false) }) (v := _) rfl (by as_aux_lemma => kernel_rfl) (by as_aux_lemma => kernel_rfl) (by as_aux_lemma => kernel_rfl) (fun _ _ _ h => h) (Or.inl ⟨by kernel_rfl, by (intro w hSw; (try dsimp only at hSw); go_simp; first | done | with_reducible rfl)⟩) (by assumption) ?_
            (try simp only [List.getElem_toArray, List.getElem_cons_succ, List.getElem_cons_zero, Act.put, List.setIfInBounds_toArray, List.set_cons_zero, List.set_cons_succ])
            refine wpAnyH_take (i := 10) (oi := { dst := some 53, op := .pick (.tmp 46) (.const (Value.bool true)) (.tmp 52), type := 4, pos := "ref.go:65", after := #[{ on := 3, ground := .data }, { on := 9, ground := .data }], guard := none }) (v := _) rfl (by as_aux_lemma => kernel_rfl) (by as_aux_lemma => kernel_rfl) (by as_aux_lemma => kernel_rfl) (fun _ _ _ h => h) (Or.inl ⟨by kernel_rfl, by (intro w hSw; (try dsimp only at hSw); go_simp; first | done | with_reducible rfl)⟩) (by assumption) ?_
            (try simp only [List.getElem_toArray, List.getElem_cons_succ, List.getElem_cons_zero, Act.put, List.setIfInBounds_toArray, List.set_cons_zero, List.set_cons_succ])
            refine wpAnyH_take (i := 11) (oi := { dst := some 54, op := .move (.tmp 53), type := 4, pos := "ref.go:65", after := #[{ on := 10, ground := .data }, { on := 8, ground := .chain }], guard := none }) (v := _) rfl (by as_aux_lemma => kernel_rfl) (by as_aux_lemma => kernel_rfl) (by as_aux_lemma => kernel_rfl) (fun _ _ _ h => h) (Or.inl ⟨by kernel_rfl, by (intro w hSw; (try dsimp only at hSw); go_simp; first | done | with_reducible rfl)⟩) (by assumption) ?_
            (try simp only [List.getElem_toArray, List.getElem_cons_succ, List.getElem_cons_zero, Act.put, List.setIfInBounds_toArray, List.set_cons_zero, List.set_cons_succ])
            refine wpAnyH_take (i := 12) (oi := _) (v := undef) rfl (by as_aux_lemma => kernel_rfl) (by as_aux_lemma => kernel_rfl) (by as_aux_lemma => kernel_rfl) (fun _ _ _ h => h) (Or.inr ⟨by kernel_rfl, rfl⟩) (by assumption) ?_
            (try simp only [List.getElem_toArray, List.getElem_cons_succ, List.getElem_cons_zero, Act.put, List.setIfInBounds_toArray, List.set_cons_zero, List.set_cons_succ])
            refine wpAnyH_take (i := 13) (oi := _) (v := undef) rfl (by as_aux_lemma => kernel_rfl) (by as_aux_lemma => kernel_rfl) (by as_aux_lemma => kernel_rfl) (fun _ _ _ h => h) (Or.inr ⟨by kernel_rfl, rfl⟩) (by assumption) ?_
            (try simp only [List.getElem_toArray, List.getElem_cons_succ, List.getElem_cons_zero, Act.put, List.setIfInBounds_toArray, List.set_cons_zero, List.set_cons_succ])
            as_aux_lemma =>
              refine wpAnyH_take (i := 14) (oi := _) (v := undef) rfl (by as_aux_lemma => kernel_rfl) (by as_aux_lemma => kernel_rfl) (by as_aux_lemma => kernel_rfl) (fun _ _ _ h => h) (Or.inr ⟨by kernel_rfl, rfl⟩) (by assumption) ?_
              (try simp only [List.getElem_toArray, List.getElem_cons_succ, List.getElem_cons_zero, Act.put, List.setIfInBounds_toArray, List.set_cons_zero, List.set_cons_succ])
              refine wpAnyH_take (i := 15) (oi := _) (v := undef) rfl (by as_aux_lemma => kernel_rfl) (by as_aux_lemma => kernel_rfl) (by as_aux_lemma => kernel_rfl) (fun _ _ _ h => h) (Or.inr ⟨by kernel_rfl, rfl⟩) (by assumption) ?_
              (try simp only [List.getElem_toArray, List.getElem_cons_succ, List.getElem_cons_zero, Act.put, List.setIfInBounds_toArray, List.set_cons_zero, List.set_cons_succ])
              refine wpAnyH_take (i := 16) (oi := _) (v := undef) rfl (by as_aux_lemma => kernel_rfl) (by as_aux_lemma => kernel_rfl) (by as_aux_lemma => kernel_rfl) (fun _ _ _ h => h) (Or.inr ⟨by kernel_rfl, rfl⟩) (by assumption) ?_
              (try simp only [List.getElem_toArray, List.getElem_cons_succ, List.getElem_cons_zero, Act.put, List.setIfInBounds_toArray, List.set_cons_zero, List.set_cons_succ])
              refine wpAnyH_take (i := 17) (oi := _) (v := undef) rfl (by as_aux_lemma => kernel_rfl) (by as_aux_lemma => kernel_rfl) (by as_aux_lemma => kernel_rfl) (fun _ _ _ h => h) (Or.inr ⟨by kernel_rfl, rfl⟩) (by assumption) ?_
              (try simp only [List.getElem_toArray, List.getElem_cons_succ, List.getElem_cons_zero, Act.put, List.setIfInBounds_toArray, List.set_cons_zero, List.set_cons_succ])
              refine wpAnyH_take (i := 18) (oi := _) (v := undef) rfl (by as_aux_lemma => kernel_rfl) (by as_aux_lemma => kernel_rfl) (by as_aux_lemma => kernel_rfl) (fun _ _ _ h => h) (Or.inr ⟨by kernel_rfl, rfl⟩) (by assumption) ?_
              (try simp only [List.getElem_toArray, List.getElem_cons_succ, List.getElem_cons_zero, Act.put, List.setIfInBounds_toArray, List.set_cons_zero, List.set_cons_succ])
              refine wpAnyH_take (i := 19) (oi := _) (v := undef) rfl (by as_aux_lemma => kernel_rfl) (by as_aux_lemma => kernel_rfl) (by as_aux_lemma => kernel_rfl) (fun _ _ _ h => h) (Or.inr ⟨by kernel_rfl, rfl⟩) (by assumption) ?_
              (try simp only [List.getElem_toArray, List.getElem_cons_succ, List.getElem_cons_zero, Act.put, List.setIfInBounds_toArray, List.set_cons_zero, List.set_cons_succ])
              refine wpAnyH_take (i := 20) (oi := _) (v := undef) rfl (by as_aux_lemma => kernel_rfl) (by as_aux_lemma => kernel_rfl) (by as_aux_lemma => kernel_rfl) (fun _ _ _ h => h) (Or.inr ⟨by kernel_rfl, rfl⟩) (by assumption) ?_
              (try simp only [List.getElem_toArray, List.getElem_cons_succ, List.getElem_cons_zero, Act.put, List.setIfInBounds_toArray, List.set_cons_zero, List.set_cons_succ])
              refine wpAnyH_take (i := 21) (oi := _) (v := undef) rfl (by as_aux_lemma => kernel_rfl) (by as_aux_lemma => kernel_rfl) (by as_aux_lemma => kernel_rfl) (fun _ _ _ h => h) (Or.inr ⟨by kernel_rfl, rfl⟩) (by assumption) ?_
              (try simp only [List.getElem_toArray, List.getElem_cons_succ, List.getElem_cons_zero, Act.put, List.setIfInBounds_toArray, List.set_cons_zero, List.set_cons_succ])
              refine wpAnyH_take (i := 22) (oi := _) (v := undef) rfl (by as_aux_lemma => kernel_rfl) (by as_aux_lemma => kernel_rfl) (by as_aux_lemma => kernel_rfl) (fun _ _ _ h => h) (Or.inr ⟨by kernel_rfl, rfl⟩) (by assumption) ?_
              (try simp only [List.getElem_toArray, List.getElem_cons_succ, List.getElem_cons_zero, Act.put, List.setIfInBounds_toArray, List.set_cons_zero, List.set_cons_succ])
              refine wpAnyH_take (i := 23) (oi := _) (v := undef) rfl (by as_aux_lemma => kernel_rfl) (by as_aux_lemma => kernel_rfl) (by as_aux_lemma => kernel_rfl) (fun _ _ _ h => h) (Or.inr ⟨by kernel_rfl, rfl⟩) (by assumption) ?_
              (try simp only [List.getElem_toArray, List.getElem_cons_succ, List.getElem_cons_zero, Act.put, List.setIfInBounds_toArray, List.set_cons_zero, List.set_cons_succ])
              refine wpAnyH_take (i := 24) (oi := { dst := some 67, op := .pick (.tmp 54) (.const (Value.bool true)) (.tmp 66), type := 4, pos := "ref.go:65", after := #[{ on := 11, ground := .data }, { on := 23, ground := .data }], guard := none }) (v := _) rfl (by as_aux_lemma => kernel_rfl) (by as_aux_lemma => kernel_rfl) (by as_aux_lemma => kernel_rfl) (fun _ _ _ h => h) (Or.inl ⟨by kernel_rfl, by (intro w hSw; (try dsimp only at hSw); go_simp; first | done | with_reducible rfl)⟩) (by assumption) ?_
              (try simp only [List.getElem_toArray, List.getElem_cons_succ, List.getElem_cons_zero, Act.put, List.setIfInBounds_toArray, List.set_cons_zero, List.set_cons_succ])
              refine wpAnyH_done (by as_aux_lemma => kernel_rfl) ?_ _
              go_wp2
              go_meet
              exact ⟨by rw [HF.out]; rfl, PD⟩
          · rw [E] at US
            have HT : Hid (sayB s = decide (r.size = 32 * (d + p))) := Lib.hid (by rw [HSB.out, E, decide_eq_true hm]; simp)
            clear E hm HSB
            have q2 : IntKind.i64.wrap ((d : Int) + (p : Int)) = (d : Int) + (p : Int) := by rw [IntKind.wrap_i64]; omega
            have q3 : IntKind.i64.wrap (32 * ((d : Int) + (p : Int))) = 32 * ((d : Int) + (p : Int)) := by rw [IntKind.wrap_i64]; omega
            have q1 : ((r.size : Int) != 32 * ((d : Int) + (p : Int))) = !(sayB s) := by
              rw [HT.out]
              by_cases h : r.size = 32 * (d + p)
              · rw [decide_eq_true h, h]; simp
              · rw [decide_eq_false h]
                simp only [Bool.not_false, bne_iff_ne]; omega
            refine wp_region_held_drew (S := fun w' => w'.cell? ⟨w.heap.size + 2, 0, none⟩ = some (.int .i64 m) ∧ w'.cell? ⟨tb, 0, none⟩ = some (.int .i64 d) ∧ w'.cell? ⟨tb, 1, none⟩ = some (.int .i64 p) ∧ w'.cell? ⟨w.heap.size + 1, 0, none⟩ = some (.string r)) (by kernel_rfl) (by exact SA) (fun hHeld => ?_)
            refine wpAnyH_take (i := 0) (oi := { dst := some 43, op := .indexAddr 60 (.tmp 5) (.const (Value.int IntKind.i64 0)), type := 0, pos := "ref.go:65", after := #[], guard := none }) (v := _) rfl (by as_aux_lemma => kernel_rfl) (by as_aux_lemma => kernel_rfl) (by as_aux_lemma => kernel_rfl) (fun _ _ _ h => h) (Or.inl ⟨by kernel_rfl, by (intro w hSw; (try dsimp only at hSw); go_simp; first | done | with_reducible rfl)⟩) (by assumption) ?_
            (try simp only [List.getElem_toArray, List.getElem_cons_succ, List.getElem_cons_zero, Act.put, List.setIfInBounds_toArray, List.set_cons_zero, List.set_cons_succ])
            refine wpAnyH_take (i := 1) (oi := { dst := some 44, op := .load 3 (.tmp 43), type := 3, pos := "ref.go:65", after := #[{ on := 0, ground := .data }], guard := none }) (v := _) rfl (by as_aux_lemma => kernel_rfl) (by as_aux_lemma => kernel_rfl) (by as_aux_lemma => kernel_rfl) (fun _ _ _ h => h) (Or.inl ⟨by kernel_rfl, by (intro w hSw; (try dsimp only at hSw); go_simp; first | done | with_reducible rfl)⟩) (by assumption) ?_
            (try simp only [List.getElem_toArray, List.getElem_cons_succ, List.getElem_cons_zero, Act.put, List.setIfInBounds_toArray, List.set_cons_zero, List.set_cons_succ])
            refine wpAnyH_take (i := 2) (oi := { dst := some 45, op := .binOp BinOp.neq 3 (.tmp 44) (.const (Value.int IntKind.i64 1)) 3, type := 4, pos := "ref.go:65", after := #[{ on := 1, ground := .data }], guard := none }) (v := _) rfl (by as_aux_lemma => kernel_rfl) (by as_aux_lemma => kernel_rfl) (by as_aux_lemma => kernel_rfl) (fun _ _ _ h => h) (Or.inl ⟨by kernel_rfl, by (intro w hSw; (try dsimp only at hSw); go_simp; first | done | with_reducible rfl)⟩) (by assumption) ?_
            (try simp only [List.getElem_toArray, List.getElem_cons_succ, List.getElem_cons_zero, Act.put, List.setIfInBounds_toArray, List.set_cons_zero, List.set_cons_succ])
            refine wpAnyH_take (i := 3) (oi := { dst := some 46, op := .move (.tmp 45), type := 4, pos := "ref.go:65", after := #[{ on := 2, ground := .data }], guard := none }) (v := _) rfl (by as_aux_lemma => kernel_rfl) (by as_aux_lemma => kernel_rfl) (by as_aux_lemma => kernel_rfl) (fun _ _ _ h => h) (Or.inl ⟨by kernel_rfl, by (intro w hSw; (try dsimp only at hSw); go_simp; first | done | with_reducible rfl)⟩) (by assumption) ?_
            (try simp only [List.getElem_toArray, List.getElem_cons_succ, List.getElem_cons_zero, Act.put, List.setIfInBounds_toArray, List.set_cons_zero, List.set_cons_succ])
            refine wpAnyH_take (i := 4) (oi := { dst := some 47, op := .fieldAddr 25 (.tmp 9) 0, type := 0, pos := "ref.go:65", after := #[{ on := 3, ground := .guard }], guard := some (3, false) }) (v := _) rfl (by as_aux_lemma => kernel_rfl) (by as_aux_lemma => kernel_rfl) (by as_aux_lemma => kernel_rfl) (fun _ _ _ h => h) (Or.inl ⟨by kernel_rfl, by (intro w hSw; (try dsimp only at hSw); go_simp; first | done | with_reducible rfl)⟩) (by assumption) ?_
            (try simp only [List.getElem_toArray, List.getElem_cons_succ, List.getElem_cons_zero, Act.put, List.setIfInBounds_toArray, List.set_cons_zero, List.set_cons_succ])
            refine wpAnyH_take (i := 5) (oi := { dst := some 48, op := .load 3 (.tmp 47), type := 3, pos := "ref.go:65", after := #[{ on := 4, ground := .data }, { on := 3, ground := .guard }], guard := some (3, false) }) (v := _) rfl (by as_aux_lemma => kernel_rfl) (by as_aux_lemma => kernel_rfl) (by as_aux_lemma => kernel_rfl) (fun _ _ _ h => h) (Or.inl ⟨by kernel_rfl, by (intro w hSw; (try dsimp only at hSw); go_simp; first | done | with_reducible rfl)⟩) (by assumption) ?_
            (try simp only [List.getElem_toArray, List.getElem_cons_succ, List.getElem_cons_zero, Act.put, List.setIfInBounds_toArray, List.set_cons_zero, List.set_cons_succ])
            refine wpAnyH_take (i := 6) (oi := { dst := some 49, op := .fieldAddr 25 (.tmp 9) 1, type := 0, pos := "ref.go:65", after := #[{ on := 3, ground := .guard }], guard := some (3, false) }) (v := _) rfl (by as_aux_lemma => kernel_rfl) (by as_aux_lemma => kernel_rfl) (by as_aux_lemma => kernel_rfl) (fun _ _ _ h => h) (Or.inl ⟨by kernel_rfl, by (intro w hSw; (try dsimp only at hSw); go_simp; first | done | with_reducible rfl)⟩) (by assumption) ?_
            (try simp only [List.getElem_toArray, List.getElem_cons_succ, List.getElem_cons_zero, Act.put, List.setIfInBounds_toArray, List.set_cons_zero, List.set_cons_succ])
            refine wpAnyH_take (i := 7) (oi := { dst := some 50, op := .load 3 (.tmp 49), type := 3, pos := "ref.go:65", after := #[{ on := 6, ground := .data }, { on := 3, ground := .guard }], guard := some (3, false) }) (v := _) rfl (by as_aux_lemma => kernel_rfl) (by as_aux_lemma => kernel_rfl) (by as_aux_lemma => kernel_rfl) (fun _ _ _ h => h) (Or.inl ⟨by kernel_rfl, by (intro w hSw; (try dsimp only at hSw); go_simp; first | done | with_reducible rfl)⟩) (by assumption) ?_
            (try simp only [List.getElem_toArray, List.getElem_cons_succ, List.getElem_cons_zero, Act.put, List.setIfInBounds_toArray, List.set_cons_zero, List.set_cons_succ])
            refine wpAnyH_ready (rs := [8]) (by as_aux_lemma => kernel_rfl) (by simp) (AllReadyH.cons rfl (fun K hK => ?_) AllReadyH.nil)
            try simp only [List.getElem_toArray, List.getElem_cons_succ, List.getElem_cons_zero]
            go_simp
            go_at_call 26
            refine (US.out _).mono ?_
            rintro e wn ⟨rfl, rfl⟩
            go_simp
            refine hK.out _ _ (by exact SA) (fun hHeld => ?_)
            clear hK K
            (try simp only [List.getElem_toArray, List.getElem_cons_succ, List.getElem_cons_zero, Act.put, List.setIfInBounds_toArray, List.set_cons_zero, List.set_cons_succ])
            refine wpAnyH_take (i := 9) (oi := { dst := some 52, op := .unOp UnOp.not 4 (.tmp 51), type := 4, pos := "ref.go:65", after := #[{ on := 8, ground := .data }, { on := 3, ground := .guard }], guard := some (3, false) }) (v := _) rfl (by as_aux_lemma => kernel_rfl) (by as_aux_lemma => kernel_rfl) (by as_aux_lemma => kernel_rfl) (fun _ _ _ h => h) (Or.inl ⟨by kernel_rfl, by (intro w hSw; (try dsimp only at hSw); go_simp; first | done | with_reducible rfl)⟩) (by assumption) ?_
            (try simp only [List.getElem_toArray, List.getElem_cons_succ, List.getElem_cons_zero, Act.put, List.setIfInBounds_toArray, List.set_cons_zero, List.set_cons_succ])
            refine wpAnyH_take (i := 10) (oi := { dst := some 53, op := .pick (.tmp 46) (.const (Value.bool true)) (.tmp 52), type := 4, pos := "ref.go:65", after := #[{ on := 3, ground := .data }, { on := 9, ground := .data }], guard := none }) (v := _) rfl (by as_aux_lemma => kernel_rfl) (by as_aux_lemma => kernel_rfl) (by as_aux_lemma => kernel_rfl) (fun _ _ _ h => h) (Or.inl ⟨by kernel_rfl, by (intro w hSw; (try dsimp only at hSw); go_simp; first | done | with_reducible rfl)⟩) (by assumption) ?_
            (try simp only [List.getElem_toArray, List.getElem_cons_succ, List.getElem_cons_zero, Act.put, List.setIfInBounds_toArray, List.set_cons_zero, List.set_cons_succ])
            refine wpAnyH_take (i := 11) (oi := { dst := some 54, op := .move (.tmp 53), type := 4, pos := "ref.go:65", after := #[{ on := 10, ground := .data }, { on := 8, ground := .chain }], guard := none }) (v := _) rfl (by as_aux_lemma => kernel_rfl) (by as_aux_lemma => kernel_rfl) (by as_aux_lemma => kernel_rfl) (fun _ _ _ h => h) (Or.inl ⟨by kernel_rfl, by (intro w hSw; (try dsimp only at hSw); go_simp; first | done | with_reducible rfl)⟩) (by assumption) ?_
            (try simp only [List.getElem_toArray, List.getElem_cons_succ, List.getElem_cons_zero, Act.put, List.setIfInBounds_toArray, List.set_cons_zero, List.set_cons_succ])
            refine wpAnyH_take (i := 12) (oi := { dst := some 55, op := .move (.tmp 4), type := 99, pos := "ref.go:65", after := #[{ on := 11, ground := .guard }], guard := some (11, false) }) (v := _) rfl (by as_aux_lemma => kernel_rfl) (by as_aux_lemma => kernel_rfl) (by as_aux_lemma => kernel_rfl) (fun _ _ _ h => h) (Or.inl ⟨by kernel_rfl, by (intro w hSw; (try dsimp only at hSw); go_simp; first | done | with_reducible rfl)⟩) (by assumption) ?_
            (try simp only [List.getElem_toArray, List.getElem_cons_succ, List.getElem_cons_zero, Act.put, List.setIfInBounds_toArray, List.set_cons_zero, List.set_cons_succ])
            refine wpAnyH_take (i := 13) (oi := { dst := some 56, op := .nilCheck (.tmp 55), type := 0, pos := "ref.go:65", after := #[{ on := 12, ground := .data }, { on := 11, ground := .guard }], guard := some (11, false) }) (v := _) rfl (by as_aux_lemma => kernel_rfl) (by as_aux_lemma => kernel_rfl) (by as_aux_lemma => kernel_rfl) (fun _ _ _ h => h) (Or.inl ⟨by kernel_rfl, by (intro w hSw; (try dsimp only at hSw); go_simp; first | done | with_reducible rfl)⟩) (by assumption) ?_
            (try simp only [List.getElem_toArray, List.getElem_cons_succ, List.getElem_cons_zero, Act.put, List.setIfInBounds_toArray, List.set_cons_zero, List.set_cons_succ])
            as_aux_lemma =>
              refine wpAnyH_take (i := 14) (oi := { dst := some 57, op := .fieldAddr 101 (.tmp 56) 0, type := 0, pos := "ref.go:65", after := #[{ on := 13, ground := .data }, { on := 11, ground := .guard }], guard := some (11, false) }) (v := _) rfl (by as_aux_lemma => kernel_rfl) (by as_aux_lemma => kernel_rfl) (by as_aux_lemma => kernel_rfl) (fun _ _ _ h => h) (Or.inl ⟨by kernel_rfl, by (intro w hSw; (try dsimp only at hSw); go_simp; first | done | with_reducible rfl)⟩) (by assumption) ?_
              (try simp only [List.getElem_toArray, List.getElem_cons_succ, List.getElem_cons_zero, Act.put, List.setIfInBounds_toArray, List.set_cons_zero, List.set_cons_succ])
              refine wpAnyH_take (i := 15) (oi := { dst := some 58, op := .load 9 (.tmp 57), type := 9, pos := "ref.go:65", after := #[{ on := 14, ground := .data }, { on := 11, ground := .guard }], guard := some (11, false) }) (v := _) rfl (by as_aux_lemma => kernel_rfl) (by as_aux_lemma => kernel_rfl) (by as_aux_lemma => kernel_rfl) (fun _ _ _ h => h) (Or.inl ⟨by kernel_rfl, by (intro w hSw; (try dsimp only at hSw); go_simp; first | done | with_reducible rfl)⟩) (by assumption) ?_
              (try simp only [List.getElem_toArray, List.getElem_cons_succ, List.getElem_cons_zero, Act.put, List.setIfInBounds_toArray, List.set_cons_zero, List.set_cons_succ])
              refine wpAnyH_take (i := 16) (oi := { dst := some 59, op := .call { callee := Callee.builtin Builtin.len, args := #[.tmp 58], argTypes := #[9] }, type := 3, pos := "ref.go:65", after := #[{ on := 15, ground := .data }, { on := 11, ground := .guard }], guard := some (11, false) }) (v := _) rfl (by as_aux_lemma => kernel_rfl) (by as_aux_lemma => kernel_rfl) (by as_aux_lemma => kernel_rfl) (fun _ _ _ h => h) (Or.inl ⟨by kernel_rfl, by (intro w hSw; (try dsimp only at hSw); go_simp; first | done | with_reducible rfl)⟩) (by assumption) ?_
              (try simp only [List.getElem_toArray, List.getElem_cons_succ, List.getElem_cons_zero, Act.put, List.setIfInBounds_toArray, List.set_cons_zero, List.set_cons_succ])
              refine wpAnyH_take (i := 17) (oi := { dst := some 60, op := .fieldAddr 25 (.tmp 9) 0, type := 0, pos := "ref.go:65", after := #[{ on := 11, ground := .guard }], guard := some (11, false) }) (v := _) rfl (by as_aux_lemma => kernel_rfl) (by as_aux_lemma => kernel_rfl) (by as_aux_lemma => kernel_rfl) (fun _ _ _ h => h) (Or.inl ⟨by kernel_rfl, by (intro w hSw; (try dsimp only at hSw); go_simp; first | done | with_reducible rfl)⟩) (by assumption) ?_
              (try simp only [List.getElem_toArray, List.getElem_cons_succ, List.getElem_cons_zero, Act.put, List.setIfInBounds_toArray, List.set_cons_zero, List.set_cons_succ])
              refine wpAnyH_take (i := 18) (oi := { dst := some 61, op := .load 3 (.tmp 60), type := 3, pos := "ref.go:65", after := #[{ on := 17, ground := .data }, { on := 11, ground := .guard }], guard := some (11, false) }) (v := _) rfl (by as_aux_lemma => kernel_rfl) (by as_aux_lemma => kernel_rfl) (by as_aux_lemma => kernel_rfl) (fun _ _ _ h => h) (Or.inl ⟨by kernel_rfl, by (intro w hSw; (try dsimp only at hSw); go_simp; first | done | with_reducible rfl)⟩) (by assumption) ?_
              (try simp only [List.getElem_toArray, List.getElem_cons_succ, List.getElem_cons_zero, Act.put, List.setIfInBounds_toArray, List.set_cons_zero, List.set_cons_succ])
              refine wpAnyH_take (i := 19) (oi := { dst := some 62, op := .fieldAddr 25 (.tmp 9) 1, type := 0, pos := "ref.go:65", after := #[{ on := 11, ground := .guard }], guard := some (11, false) }) (v := _) rfl (by as_aux_lemma => kernel_rfl) (by as_aux_lemma => kernel_rfl) (by as_aux_lemma => kernel_rfl) (fun _ _ _ h => h) (Or.inl ⟨by kernel_rfl, by (intro w hSw; (try dsimp only at hSw); go_simp; first | done | with_reducible rfl)⟩) (by assumption) ?_
              (try simp only [List.getElem_toArray, List.getElem_cons_succ, List.getElem_cons_zero, Act.put, List.setIfInBounds_toArray, List.set_cons_zero, List.set_cons_succ])
              refine wpAnyH_take (i := 20) (oi := { dst := some 63, op := .load 3 (.tmp 62), type := 3, pos := "ref.go:65", after := #[{ on := 19, ground := .data }, { on := 11, ground := .guard }], guard := some (11, false) }) (v := _) rfl (by as_aux_lemma => kernel_rfl) (by as_aux_lemma => kernel_rfl) (by as_aux_lemma => kernel_rfl) (fun _ _ _ h => h) (Or.inl ⟨by kernel_rfl, by (intro w hSw; (try dsimp only at hSw); go_simp; first | done | with_reducible rfl)⟩) (by assumption) ?_
              (try simp only [List.getElem_toArray, List.getElem_cons_succ, List.getElem_cons_zero, Act.put, List.setIfInBounds_toArray, List.set_cons_zero, List.set_cons_succ])
              refine wpAnyH_take (i := 21) (oi := { dst := some 64, op := .binOp BinOp.add 3 (.tmp 61) (.tmp 63) 3, type := 3, pos := "ref.go:65", after := #[{ on := 18, ground := .data }, { on := 20, ground := .data }, { on := 11, ground := .guard }], guard := some (11, false) }) (v := _) rfl (by as_aux_lemma => kernel_rfl) (by as_aux_lemma => kernel_rfl) (by as_aux_lemma => kernel_rfl) (fun _ _ _ h => h) (Or.inl ⟨by kernel_rfl, by (intro w hSw; (try dsimp only at hSw); go_simp; first | done | with_reducible rfl)⟩) (by assumption) ?_
              (try simp only [List.getElem_toArray, List.getElem_cons_succ, List.getElem_cons_zero, Act.put, List.setIfInBounds_toArray, List.set_cons_zero, List.set_cons_succ])
              refine wpAnyH_take (i := 22) (oi := { dst := some 65, op := .binOp BinOp.mul 3 (.const (Value.int IntKind.i64 32)) (.tmp 64) 3, type := 3, pos := "ref.go:65", after := #[{ on := 21, ground := .data }, { on := 11, ground := .guard }], guard := some (11, false) }) (v := _) rfl (by as_aux_lemma => kernel_rfl) (by as_aux_lemma => kernel_rfl) (by as_aux_lemma => kernel_rfl) (fun _ _ _ h => h) (Or.inl ⟨by kernel_rfl, by (intro w hSw; (try dsimp only at hSw); go_simp; first | done | with_reducible rfl)⟩) (by assumption) ?_
              (try simp only [List.getElem_toArray, List.getElem_cons_succ, List.getElem_cons_zero, Act.put, List.setIfInBounds_toArray, List.set_cons_zero, List.set_cons_succ])
              refine wpAnyH_take (i := 23) (oi := { dst := some 66, op := .binOp BinOp.neq 3 (.tmp 59) (.tmp 65) 3, type := 4, pos := "ref.go:65", after := #[{ on := 16, ground := .data }, { on := 22, ground := .data }, { on := 11, ground := .guard }], guard := some (11, false) }) (v := _) rfl (by as_aux_lemma => kernel_rfl) (by as_aux_lemma => kernel_rfl) (by as_aux_lemma => kernel_rfl) (fun _ _ _ h => h) (Or.inl ⟨by kernel_rfl, by (intro w hSw; (try dsimp only at hSw); go_simp; first | done | with_reducible rfl)⟩) (by assumption) ?_
              (try simp only [List.getElem_toArray, List.getElem_cons_succ, List.getElem_cons_zero, Act.put, List.setIfInBounds_toArray, List.set_cons_zero, List.set_cons_succ])
              refine wpAnyH_take (i := 24) (oi := { dst := some 67, op := .pick (.tmp 54) (.const (Value.bool true)) (.tmp 66), type := 4, pos := "ref.go:65", after := #[{ on := 11, ground := .data }, { on := 23, ground := .data }], guard := none }) (v := _) rfl (by as_aux_lemma => kernel_rfl) (by as_aux_lemma => kernel_rfl) (by as_aux_lemma => kernel_rfl) (fun _ _ _ h => h) (Or.inl ⟨by kernel_rfl, by (intro w hSw; (try dsimp only at hSw); go_simp; first | done | with_reducible rfl)⟩) (by assumption) ?_
              (try simp only [List.getElem_toArray, List.getElem_cons_succ, List.getElem_cons_zero, Act.put, List.setIfInBounds_toArray, List.set_cons_zero, List.set_cons_succ])
              refine wpAnyH_done (by as_aux_lemma => kernel_rfl) ?_ _
              go_wp2
              go_meet
              exact ⟨rfl, PD⟩
        · have q0 : ((m : Int) != 1) = true := by rw [bne_iff_ne]; omega
          have HF : Hid (sayB s = false) := Lib.hid (by rw [HSB.out, decide_eq_false hm]; rfl)
          clear hm HSB UC
          refine wp_region_held_drew (S := fun w' => w'.cell? ⟨w.heap.size + 2, 0, none⟩ = some (.int .i64 m) ∧ w'.cell? ⟨tb, 0, none⟩ = some (.int .i64 d) ∧ w'.cell? ⟨tb, 1, none⟩ = some (.int .i64 p) ∧ w'.cell? ⟨w.heap.size + 1, 0, none⟩ = some (.string r)) (by kernel_rfl) (by exact SA) (fun hHeld => ?_)
          refine wpAnyH_take (i := 0) (oi := { dst := some 43, op := .indexAddr 60 (.tmp 5) (.const (Value.int IntKind.i64 0)), type := 0, pos := "ref.go:65", after := #[], guard := none }) (v := _) rfl (by as_aux_lemma => kernel_rfl) (by as_aux_lemma => kernel_rfl) (by as_aux_lemma => kernel_rfl) (fun _ _ _ h => h) (Or.inl ⟨by kernel_rfl, by (intro w hSw; (try dsimp only at hSw); go_simp; first | done | with_reducible rfl)⟩) (by assumption) ?_
          (try simp only [List.getElem_toArray, List.getElem_cons_succ, List.getElem_cons_zero, Act.put, List.setIfInBounds_toArray, List.set_cons_zero, List.set_cons_succ])
          refine wpAnyH_take (i := 1) (oi := { dst := some 44, op := .load 3 (.tmp 43), type := 3, pos := "ref.go:65", after := #[{ on := 0, ground := .data }], guard := none }) (v := _) rfl (by as_aux_lemma => kernel_rfl) (by as_aux_lemma => kernel_rfl) (by as_aux_lemma => kernel_rfl) (fun _ _ _ h => h) (Or.inl ⟨by kernel_rfl, by (intro w hSw; (try dsimp only at hSw); go_simp; first | done | with_reducible rfl)⟩) (by assumption) ?_
          (try simp only [List.getElem_toArray, List.getElem_cons_succ, List.getElem_cons_zero, Act.put, List.setIfInBounds_toArray, List.set_cons_zero, List.set_cons_succ])
          refine wpAnyH_take (i := 2) (oi := { dst := some 45, op := .binOp BinOp.neq 3 (.tmp 44) (.const (Value.int IntKind.i64 1)) 3, type := 4, pos := "ref.go:65", after := #[{ on := 1, ground := .data }], guard := none }) (v := _) rfl (by as_aux_lemma => kernel_rfl) (by as_aux_lemma => kernel_rfl) (by as_aux_lemma => kernel_rfl) (fun _ _ _ h => h) (Or.inl ⟨by kernel_rfl, by (intro w hSw; (try dsimp only at hSw); go_simp; first | done | with_reducible rfl)⟩) (by assumption) ?_
          (try simp only [List.getElem_toArray, List.getElem_cons_succ, List.getElem_cons_zero, Act.put, List.setIfInBounds_toArray, List.set_cons_zero, List.set_cons_succ])
          refine wpAnyH_take (i := 3) (oi := { dst := some 46, op := .move (.tmp 45), type := 4, pos := "ref.go:65", after := #[{ on := 2, ground := .data }], guard := none }) (v := _) rfl (by as_aux_lemma => kernel_rfl) (by as_aux_lemma => kernel_rfl) (by as_aux_lemma => kernel_rfl) (fun _ _ _ h => h) (Or.inl ⟨by kernel_rfl, by (intro w hSw; (try dsimp only at hSw); go_simp; first | done | with_reducible rfl)⟩) (by assumption) ?_
          (try simp only [List.getElem_toArray, List.getElem_cons_succ, List.getElem_cons_zero, Act.put, List.setIfInBounds_toArray, List.set_cons_zero, List.set_cons_succ])
          refine wpAnyH_take (i := 4) (oi := _) (v := undef) rfl (by as_aux_lemma => kernel_rfl) (by as_aux_lemma => kernel_rfl) (by as_aux_lemma => kernel_rfl) (fun _ _ _ h => h) (Or.inr ⟨by kernel_rfl, rfl⟩) (by assumption) ?_
          (try simp only [List.getElem_toArray, List.getElem_cons_succ, List.getElem_cons_zero, Act.put, List.setIfInBounds_toArray, List.set_cons_zero, List.set_cons_succ])
          refine wpAnyH_take (i := 5) (oi := _) (v := undef) rfl (by as_aux_lemma => kernel_rfl) (by as_aux_lemma => kernel_rfl) (by as_aux_lemma => kernel_rfl) (fun _ _ _ h => h) (Or.inr ⟨by kernel_rfl, rfl⟩) (by assumption) ?_
          (try simp only [List.getElem_toArray, List.getElem_cons_succ, List.getElem_cons_zero, Act.put, List.setIfInBounds_toArray, List.set_cons_zero, List.set_cons_succ])
          refine wpAnyH_take (i := 6) (oi := _) (v := undef) rfl (by as_aux_lemma => kernel_rfl) (by as_aux_lemma => kernel_rfl) (by as_aux_lemma => kernel_rfl) (fun _ _ _ h => h) (Or.inr ⟨by kernel_rfl, rfl⟩) (by assumption) ?_
          (try simp only [List.getElem_toArray, List.getElem_cons_succ, List.getElem_cons_zero, Act.put, List.setIfInBounds_toArray, List.set_cons_zero, List.set_cons_succ])
          refine wpAnyH_take (i := 7) (oi := _) (v := undef) rfl (by as_aux_lemma => kernel_rfl) (by as_aux_lemma => kernel_rfl) (by as_aux_lemma => kernel_rfl) (fun _ _ _ h => h) (Or.inr ⟨by kernel_rfl, rfl⟩) (by assumption) ?_
          (try simp only [List.getElem_toArray, List.getElem_cons_succ, List.getElem_cons_zero, Act.put, List.setIfInBounds_toArray, List.set_cons_zero, List.set_cons_succ])
          refine wpAnyH_take (i := 8) (oi := _) (v := undef) rfl (by as_aux_lemma => kernel_rfl) (by as_aux_lemma => kernel_rfl) (by as_aux_lemma => kernel_rfl) (fun _ _ _ h => h) (Or.inr ⟨by kernel_rfl, rfl⟩) (by assumption) ?_
          (try simp only [List.getElem_toArray, List.getElem_cons_succ, List.getElem_cons_zero, Act.put, List.setIfInBounds_toArray, List.set_cons_zero, List.set_cons_succ])
          refine wpAnyH_take (i := 9) (oi := _) (v := undef) rfl (by as_aux_lemma => kernel_rfl) (by as_aux_lemma => kernel_rfl) (by as_aux_lemma => kernel_rfl) (fun _ _ _ h => h) (Or.inr ⟨by kernel_rfl, rfl⟩) (by assumption) ?_
          (try simp only [List.getElem_toArray, List.getElem_cons_succ, List.getElem_cons_zero, Act.put, List.setIfInBounds_toArray, List.set_cons_zero, List.set_cons_succ])
          refine wpAnyH_take (i := 10) (oi := { dst := some 53, op := .pick (.tmp 46) (.const (Value.bool true)) (.tmp 52), type := 4, pos := "ref.go:65", after := #[{ on := 3, ground := .data }, { on := 9, ground := .data }], guard := none }) (v := _) rfl (by as_aux_lemma => kernel_rfl) (by as_aux_lemma => kernel_rfl) (by as_aux_lemma => kernel_rfl) (fun _ _ _ h => h) (Or.inl ⟨by kernel_rfl, by (intro w hSw; (try dsimp only at hSw); go_simp; first | done | with_reducible rfl)⟩) (by assumption) ?_
          (try simp only [List.getElem_toArray, List.getElem_cons_succ, List.getElem_cons_zero, Act.put, List.setIfInBounds_toArray, List.set_cons_zero, List.set_cons_succ])
          refine wpAnyH_take (i := 11) (oi := { dst := some 54, op := .move (.tmp 53), type := 4, pos := "ref.go:65", after := #[{ on := 10, ground := .data }, { on := 8, ground := .chain }], guard := none }) (v := _) rfl (by as_aux_lemma => kernel_rfl) (by as_aux_lemma => kernel_rfl) (by as_aux_lemma => kernel_rfl) (fun _ _ _ h => h) (Or.inl ⟨by kernel_rfl, by (intro w hSw; (try dsimp only at hSw); go_simp; first | done | with_reducible rfl)⟩) (by assumption) ?_
          (try simp only [List.getElem_toArray, List.getElem_cons_succ, List.getElem_cons_zero, Act.put, List.setIfInBounds_toArray, List.set_cons_zero, List.set_cons_succ])
          refine wpAnyH_take (i := 12) (oi := _) (v := undef) rfl (by as_aux_lemma => kernel_rfl) (by as_aux_lemma => kernel_rfl) (by as_aux_lemma => kernel_rfl) (fun _ _ _ h => h) (Or.inr ⟨by kernel_rfl, rfl⟩) (by assumption) ?_
          (try simp only [List.getElem_toArray, List.getElem_cons_succ, List.getElem_cons_zero, Act.put, List.setIfInBounds_toArray, List.set_cons_zero, List.set_cons_succ])
          refine wpAnyH_take (i := 13) (oi := _) (v := undef) rfl (by as_aux_lemma => kernel_rfl) (by as_aux_lemma => kernel_rfl) (by as_aux_lemma => kernel_rfl) (fun _ _ _ h => h) (Or.inr ⟨by kernel_rfl, rfl⟩) (by assumption) ?_
          (try simp only [List.getElem_toArray, List.getElem_cons_succ, List.getElem_cons_zero, Act.put, List.setIfInBounds_toArray, List.set_cons_zero, List.set_cons_succ])
          as_aux_lemma =>
            refine wpAnyH_take (i := 14) (oi := _) (v := undef) rfl (by as_aux_lemma => kernel_rfl) (by as_aux_lemma => kernel_rfl) (by as_aux_lemma => kernel_rfl) (fun _ _ _ h => h) (Or.inr ⟨by kernel_rfl, rfl⟩) (by assumption) ?_
            (try simp only [List.getElem_toArray, List.getElem_cons_succ, List.getElem_cons_zero, Act.put, List.setIfInBounds_toArray, List.set_cons_zero, List.set_cons_succ])
            refine wpAnyH_take (i := 15) (oi := _) (v := undef) rfl (by as_aux_lemma => kernel_rfl) (by as_aux_lemma => kernel_rfl) (by as_aux_lemma => kernel_rfl) (fun _ _ _ h => h) (Or.inr ⟨by kernel_rfl, rfl⟩) (by assumption) ?_
            (try simp only [List.getElem_toArray, List.getElem_cons_succ, List.getElem_cons_zero, Act.put, List.setIfInBounds_toArray, List.set_cons_zero, List.set_cons_succ])
            refine wpAnyH_take (i := 16) (oi := _) (v := undef) rfl (by as_aux_lemma => kernel_rfl) (by as_aux_lemma => kernel_rfl) (by as_aux_lemma => kernel_rfl) (fun _ _ _ h => h) (Or.inr ⟨by kernel_rfl, rfl⟩) (by assumption) ?_
            (try simp only [List.getElem_toArray, List.getElem_cons_succ, List.getElem_cons_zero, Act.put, List.setIfInBounds_toArray, List.set_cons_zero, List.set_cons_succ])
            refine wpAnyH_take (i := 17) (oi := _) (v := undef) rfl (by as_aux_lemma => kernel_rfl) (by as_aux_lemma => kernel_rfl) (by as_aux_lemma => kernel_rfl) (fun _ _ _ h => h) (Or.inr ⟨by kernel_rfl, rfl⟩) (by assumption) ?_
            (try simp only [List.getElem_toArray, List.getElem_cons_succ, List.getElem_cons_zero, Act.put, List.setIfInBounds_toArray, List.set_cons_zero, List.set_cons_succ])
            refine wpAnyH_take (i := 18) (oi := _) (v := undef) rfl (by as_aux_lemma => kernel_rfl) (by as_aux_lemma => kernel_rfl) (by as_aux_lemma => kernel_rfl) (fun _ _ _ h => h) (Or.inr ⟨by kernel_rfl, rfl⟩) (by assumption) ?_
            (try simp only [List.getElem_toArray, List.getElem_cons_succ, List.getElem_cons_zero, Act.put, List.setIfInBounds_toArray, List.set_cons_zero, List.set_cons_succ])
            refine wpAnyH_take (i := 19) (oi := _) (v := undef) rfl (by as_aux_lemma => kernel_rfl) (by as_aux_lemma => kernel_rfl) (by as_aux_lemma => kernel_rfl) (fun _ _ _ h => h) (Or.inr ⟨by kernel_rfl, rfl⟩) (by assumption) ?_
            (try simp only [List.getElem_toArray, List.getElem_cons_succ, List.getElem_cons_zero, Act.put, List.setIfInBounds_toArray, List.set_cons_zero, List.set_cons_succ])
            refine wpAnyH_take (i := 20) (oi := _) (v := undef) rfl (by as_aux_lemma => kernel_rfl) (by as_aux_lemma => kernel_rfl) (by as_aux_lemma => kernel_rfl) (fun _ _ _ h => h) (Or.inr ⟨by kernel_rfl, rfl⟩) (by assumption) ?_
            (try simp only [List.getElem_toArray, List.getElem_cons_succ, List.getElem_cons_zero, Act.put, List.setIfInBounds_toArray, List.set_cons_zero, List.set_cons_succ])
            refine wpAnyH_take (i := 21) (oi := _) (v := undef) rfl (by as_aux_lemma => kernel_rfl) (by as_aux_lemma => kernel_rfl) (by as_aux_lemma => kernel_rfl) (fun _ _ _ h => h) (Or.inr ⟨by kernel_rfl, rfl⟩) (by assumption) ?_
            (try simp only [List.getElem_toArray, List.getElem_cons_succ, List.getElem_cons_zero, Act.put, List.setIfInBounds_toArray, List.set_cons_zero, List.set_cons_succ])
            refine wpAnyH_take (i := 22) (oi := _) (v := undef) rfl (by as_aux_lemma => kernel_rfl) (by as_aux_lemma => kernel_rfl) (by as_aux_lemma => kernel_rfl) (fun _ _ _ h => h) (Or.inr ⟨by kernel_rfl, rfl⟩) (by assumption) ?_
            (try simp only [List.getElem_toArray, List.getElem_cons_succ, List.getElem_cons_zero, Act.put, List.setIfInBounds_toArray, List.set_cons_zero, List.set_cons_succ])
            refine wpAnyH_take (i := 23) (oi := _) (v := undef) rfl (by as_aux_lemma => kernel_rfl) (by as_aux_lemma => kernel_rfl) (by as_aux_lemma => kernel_rfl) (fun _ _ _ h => h) (Or.inr ⟨by kernel_rfl, rfl⟩) (by assumption) ?_
            (try simp only [List.getElem_toArray, List.getElem_cons_succ, List.getElem_cons_zero, Act.put, List.setIfInBounds_toArray, List.set_cons_zero, List.set_cons_succ])
            refine wpAnyH_take (i := 24) (oi := { dst := some 67, op := .pick (.tmp 54) (.const (Value.bool true)) (.tmp 66), type := 4, pos := "ref.go:65", after := #[{ on := 11, ground := .data }, { on := 23, ground := .data }], guard := none }) (v := _) rfl (by as_aux_lemma => kernel_rfl) (by as_aux_lemma => kernel_rfl) (by as_aux_lemma => kernel_rfl) (fun _ _ _ h => h) (Or.inl ⟨by kernel_rfl, by (intro w hSw; (try dsimp only at hSw); go_simp; first | done | with_reducible rfl)⟩) (by assumption) ?_
            (try simp only [List.getElem_toArray, List.getElem_cons_succ, List.getElem_cons_zero, Act.put, List.setIfInBounds_toArray, List.set_cons_zero, List.set_cons_succ])
            refine wpAnyH_done (by as_aux_lemma => kernel_rfl) ?_ _
            go_wp2
            go_meet
            exact ⟨by rw [HF.out]; rfl, PD⟩
      case rest =>
        obtain ⟨rfl, PC⟩ := hcut
        clear PD SA US
        cases hsb : sayB s with
        | false =>
          have HS := Lib.hid (HSN.out hsb)
          clear HSN HSY HSB hsb UC
          obtain ⟨z0, z1, z2, z3⟩ := tbl_cells PC.out.res
          have g0 : ∀ i, wc.frozen? ⟨w.heap.size, i, none⟩ = false := fun i => PC.out.res.frozen i
          have HZ : Hid (Blk (set4 wc w.heap.size (.int .i64 0) (.int .i64 0) (.int .i64 0) (.slice none 0 0)) w.heap.size 25 (tblA zTbl (.slice none 0 0)) ∧ Below w.heap.size w (set4 wc w.heap.size (.int .i64 0) (.int .i64 0) (.int .i64 0) (.slice none 0 0))) := Lib.hid ⟨set4_blk PC.out.res _ _ _ _, set4_below PC.out.below (Nat.le_refl _) _ _ _ _⟩
          go_wp2
          exact bodyPost_ret (results_tbl (p := 2) (u := 3) rfl _ _ w.heap.size 25 (tblA zTbl (.slice none 0 0)) (0, 0) rfl HZ.out.1 Try.underlying25 (by kernel_rfl)) rfl ⟨.slice none 0 0, by rw [HS.out]; rfl, by rw [HS.out]; exact World.ownsRow_nil _ _ _ _, HZ.out.2⟩
        | true =>
          have HS := Lib.hid (HSY.out hsb)
          rw [HSB.out] at hsb
          simp only [Bool.and_eq_true, decide_eq_true_eq] at hsb
          obtain ⟨_, hu, hr⟩ := hsb
          obtain ⟨u1, u2, u3', u4⟩ := (uniB_iff _ _).1 hu
          obtain ⟨n, hn⟩ : ∃ n, d + p = n := ⟨_, rfl⟩
          rw [hn] at HS hr
          have hdp : (d : Int) + (p : Int) = (n : Int) := by omega
          have hn64 : n ≤ 64 := by omega
          have hd32 : d ≤ 64 := by omega
          have hp63 : p ≤ 64 := by omega
          have HR := Lib.hid hr
          clear HSN HSY HSB UC hu u1 u2 u3' u4 hn b0 b1 b2 hr
          go_wp2_with fail
          go_loopw [10] (fun i wr => ∃ (k : Nat) (v : Value), k ≤ n ∧ i = .int .i64 k ∧ Hid (PyT 101 25 w wr ⟨d, p, z, sumsF r k⟩ r w.heap.size (w.heap.size + 1) tb v)) (fun i _ => n - (intOf i).toNat)
          case atStart => exact ⟨0, .slice none 0 0, by omega, rfl, PC⟩
          case round =>
            obtain ⟨k, v, hk, rfl, HK⟩ := hrel
            obtain ⟨t0, t1, t2, t3⟩ := tbl_cells HK.out.tab
            by_cases hlt : k < n
            · have hki : (k : Int) < (n : Int) := by omega
              have hk0 : (0 : Int) ≤ (k : Int) := by omega
              go_upto_region 16 with fail
              have HJ0 : Hid (PyT 101 25 w (wr.alloc zeroId) ⟨d, p, z, sumsF r k⟩ r w.heap.size (w.heap.size + 1) tb v ∧ (wr.alloc zeroId).rowIs wr.heap.size 27 32 (u8V (idS' r (32 * k) 0))) := Lib.hid ⟨HK.out.mono ((Below.refl _ _).alloc (Nat.le_refl _) _), (zero_one wr).1.congr fun i hi => by simp [u8V, idS']⟩
              go_upto_region 17 with fail
              change Code.wp _ _ _ _ (wr.alloc zeroId)
              have HIB : Hid (w.heap.size ≤ wr.heap.size) := Lib.hid HK.out.below.size
              have HNE : Hid (v.ownBlock ≠ some wr.heap.size) := Lib.hid (fun e => by have := (HK.out.own.lt _ e).2; omega)
              generalize wr.alloc zeroId = w5 at HJ0 ⊢
              generalize wr.heap.size = ib at HJ0 HIB HNE ⊢
              clear t0 t1 t2 t3 HK
              go_wp2_with fail
              go_loopw [12] (fun i wr => ∃ (j : Nat), j ≤ 32 ∧ i = .int .i64 j ∧ Hid (PyT 101 25 w wr ⟨d, p, z, sumsF r k⟩ r w.heap.size (w.heap.size + 1) tb v ∧ wr.rowIs ib 27 32 (u8V (idS' r (32 * k) j)))) (fun i _ => 32 - (intOf i).toNat)
              case atStart => exact ⟨0, by omega, rfl, HJ0⟩
              case round =>
                obtain ⟨j, hj, rfl, HJ⟩ := hrel
                by_cases hj32 : j < 32
                · as_aux_lemma =>
                  obtain ⟨N, hN⟩ : ∃ N, 32 * k + j = N := ⟨_, rfl⟩
                  have hNr : N < r.size := by have := HR.out; omega
                  have eN : 32 * (k : Int) + (j : Int) = (N : Int) := by omega
                  have hNi : (N : Int) < (r.size : Int) := by omega
                  have hN0 : (0 : Int) ≤ (N : Int) := by omega
                  have E := byteAt_get r N hNr
                  have cr : wr.cell? ⟨w.heap.size + 1, 0, none⟩ = some (.string r) := HJ.out.1.rd.cell 0
                  obtain ⟨u0, hc0⟩ : ∃ u, wr.cell? ⟨ib, j, none⟩ = some u := ⟨_, HJ.out.2.cell hj32⟩
                  have hf0 : wr.frozen? ⟨ib, j, none⟩ = false := HJ.out.2.frozen _
                  have hji : (j : Int) < 32 := by omega
                  have hj0 : (0 : Int) ≤ (j : Int) := by omega
                  have HJ' : Hid (PyT 101 25 w (wr.setCell ⟨ib, j, none⟩ (.int .u8 ((byteAt r N).toNat : Int))) ⟨d, p, z, sumsF r k⟩ r w.heap.size (w.heap.size + 1) tb v ∧ (wr.setCell ⟨ib, j, none⟩ (.int .u8 ((byteAt r N).toNat : Int))).rowIs ib 27 32 (u8V (idS' r (32 * k) (j + 1)))) := Lib.hid (by
                    refine ⟨HJ.out.1.setId HJ.out.2 _ _ (by have := HIB.out; omega) HNE.out, (HJ.out.2.set j _).congr fun i hi => ?_⟩
                    simp only [u8V, idS']
                    by_cases e : i = j
                    · rw [if_pos e, if_pos (by omega), e, hN]
                    · rw [if_neg e]
                      by_cases h3 : i < j
                      · rw [if_pos h3, if_pos (by omega)]
                      · rw [if_neg h3, if_neg (by omega)])
                  clear hN
                  go_wp2
                  go_roundw
                  case rel => exact ⟨j + 1, by omega, by go_num, HJ'⟩
                  case measure => simp [intOf]; omega
                · as_aux_lemma =>
                  obtain rfl : j = 32 := by omega
                  rw [show ((32 : Nat) : Int) = 32 from rfl]
                  obtain ⟨t0, t1, t2, t3⟩ := tbl_cells HJ.out.1.tab
                  obtain ⟨I, hI⟩ : ∃ I : Idn, (fun x => byteAt r (32 * k + x)) = I := ⟨_, rfl⟩
                  have r1 : row32 wr ib 0 = idA I := row32_id (HJ.out.2.congr fun i hi => by simp only [u8V, idS']; rw [if_pos hi, ← hI])
                  have o1 : ok32 wr ib 0 = true := ok32_of HJ.out.2 (by omega)
                  have f1 := idA_full I
                  have hown : wr.ownsRow w.heap.size 27 32 v k (idsV (sumsF r k)) := by
                    have := HJ.out.1.own
                    simpa [sumsF_length] using this
                  have HOWN := Lib.hid hown
                  have HP : Hid (∀ v' w', w'.ownsRow w.heap.size 27 32 v' (k + 1) (idsV (sumsF r k) ++ (idA I).toList) → wr.grownBy w' v.ownBlock → Blk w' tb 25 (tblA ⟨d, p, z, sumsF r k⟩ v) ∧ PyT 101 25 w (w'.setCell ⟨tb, 3, none⟩ v') ⟨d, p, z, sumsF r (k + 1)⟩ r w.heap.size (w.heap.size + 1) tb v') := Lib.hid (fun v' w' ho hg => by
                    have h := HJ.out.1.push (I := I) (by simpa [sumsF_length] using ho) hg
                    rw [sumsF_succ, hI]
                    exact h)
                  have hle := HJ.out.1.below.size
                  have hk1 : k ≤ 4611686018427387904 := by omega
                  have hk2 : (k + 1) * 32 ≤ 140737488355328 := by omega
                  have HONE := Lib.hid (idA_ones I)
                  have HSZ := Lib.hid (idA_size I)
                  clear hown hI
                  go_wp2_with (at_builtin; refine appendN_new elemId rfl _ _ rfl w.heap.size v k _ (by rfl) HOWN.out (idA I) HSZ.out (by rfl) HONE.out hk1 hk2 hle ?_; intro v' w' ho hg hd; clear hd; obtain ⟨gg, cg, rfl, hcg⟩ := own_slI ho (Nat.succ_pos _); have HQ := Lib.hid (HP.out _ w' ho hg); clear ho hg; have k3 : w'.cell? ⟨tb, 3, none⟩ = some v := HQ.out.1.cell 3; have f3 : w'.frozen? ⟨tb, 3, none⟩ = false := HQ.out.1.frozen 3)
                  go_roundw
                  case rel => exact ⟨k + 1, by omega, by go_num, .slice (some ⟨gg, 0, none⟩) (k + 1) cg, Lib.hid HQ.out.2⟩
                  case measure => simp [intOf]; omega
            · obtain rfl : k = n := by omega
              obtain ⟨Av, cv, rfl, hRv⟩ := own_reads HK.out.own
              clear hRv
              obtain ⟨z0, z1, z2, z3⟩ := tbl_cells HK.out.res
              have g0 : ∀ i, wr.frozen? ⟨w.heap.size, i, none⟩ = false := fun i => HK.out.res.frozen i
              have HZ : Hid (Blk (set4 wr w.heap.size (.int .i64 d) (.int .i64 p) (.int .i64 z) (.slice Av (sumsF r k).length cv)) w.heap.size 25 (tblA ⟨d, p, z, sumsF r k⟩ (.slice Av (sumsF r k).length cv)) ∧ Below w.heap.size w (set4 wr w.heap.size (.int .i64 d) (.int .i64 p) (.int .i64 z) (.slice Av (sumsF r k).length cv)) ∧ (set4 wr w.heap.size (.int .i64 d) (.int .i64 p) (.int .i64 z) (.slice Av (sumsF r k).length cv)).ownsRow w.heap.size 27 32 (.slice Av (sumsF r k).length cv) (sumsF r k).length (idsV (sumsF r k))) := Lib.hid ⟨set4_blk HK.out.res _ _ _ _, set4_below HK.out.below (Nat.le_refl _) _ _ _ _, HK.out.own.kept (set4_grown _ _ _ _ _ _) (.inr (own_blk_ne HK.out.own HK.out.res HK.out.ty.2))⟩
              go_wp2
              exact bodyPost_ret (results_tbl (p := 2) (u := 3) rfl _ _ w.heap.size 25 (tblA ⟨d, p, z, sumsF r k⟩ (.slice Av (sumsF r k).length cv)) (0, 0) rfl HZ.out.1 Try.underlying25 (by kernel_rfl)) rfl ⟨.slice Av (sumsF r k).length cv, by rw [HS.out]; rfl, by rw [HS.out]; exact HZ.out.2.2, HZ.out.2.1⟩
end Go.Proofs.Ytfoandpcoakcjaa
