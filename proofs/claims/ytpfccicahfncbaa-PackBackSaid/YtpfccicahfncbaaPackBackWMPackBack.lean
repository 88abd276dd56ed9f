/- Walk: the law PackBack. -/
import Derived.Test.YtpfccicahfncbaaMgPackBack8
import Derived.Test.YtpfccicahfncbaaMgPackBack5
namespace Go.Proofs.Ytpfccicahfncbaa
open Go.RowKit Wir Dig
set_option linter.unusedVariables false
set_option linter.unusedSimpArgs false
attribute [local go_sem ↓] execOp_ld35 execOp_ld32 execOp_st32 execOp_neqE
attribute [local go_sem] run_ld35 run_ld32 run_st32
theorem ent_parts {g i : Nat} {o : PObj} {off : Nat} {W : World} (h1 : ok35 W g (i * 35) = true) (h2 : row35 W g (i * 35) = entA off o) :
    ok32 W g (i * 35) = true ∧ row32 W g (i * 35) = nmA o ∧ W.cell? ⟨g, i * 35 + 32, none⟩ = some (.int .u8 (o.1.toNat : Int)) ∧ W.cell? ⟨g, i * 35 + 33, none⟩ = some (.int .i64 (off : Int)) ∧ W.cell? ⟨g, i * 35 + 34, none⟩ = some (.int .i64 (o.2.size : Int)) := by
  obtain ⟨cur, T, hh, hs⟩ := ok35_block h1
  have hc : ∀ j, j < 35 → W.cell? ⟨g, i * 35 + j, none⟩ = (entA off o)[j]? := fun j hj => by
    have hz : j < (entA off o).size := by rw [entA_size]; exact hj
    have a : (row35 W g (i * 35))[j]'(by rw [row35_size]; exact hj) = (W.cell? ⟨g, i * 35 + j, none⟩).getD undef := by simp [row35]
    have b : W.cell? ⟨g, i * 35 + j, none⟩ = cur[i * 35 + j]? := cell_of_row W g (i * 35 + j) cur _ (0, 0) hh
    rw [b, Array.getElem?_eq_getElem (by omega)] at a ⊢
    rw [Array.getElem?_eq_getElem hz]
    rw [Option.getD_some] at a
    rw [← a]
    congr 1
    simp only [h2]
  obtain ⟨t1, t2, t3⟩ := entA_tail off o
  refine ⟨?_, ?_, (hc 32 (by omega)).trans t1, (hc 33 (by omega)).trans t2, (hc 34 (by omega)).trans t3⟩
  · unfold ok32; rw [hh]; simp only [decide_eq_true_eq]; omega
  · apply Array.ext
    · rw [row32_size, nmA_size]
    · intro j h1 h2
      rw [row32_size] at h1
      have e : (row32 W g (i * 35))[j]'(by rw [row32_size]; exact h1) = (W.cell? ⟨g, i * 35 + j, none⟩).getD undef := by simp [row32]
      rw [e, hc j (by omega)]
      have : (entA off o)[j]? = (nmA o)[j]? := by unfold entA; rw [Array.getElem?_append, if_pos (by rw [nmA_size]; exact h1)]
      rw [this, Array.getElem?_eq_getElem h2]; rfl
theorem eq_nm (o : PObj) (w : World) : (Op.equalIn 10000 42 (.agg (nmA o)) (.agg (nmA o))).run Try.prog w = .ok true w := by
  have := eq_ids (nmF o) (nmF o) w
  rw [eqB_same] at this
  exact this
set_option maxRecDepth 100000 in
set_option maxHeartbeats 4000000 in
theorem packBack_walk (A : Option Addr) (n c : Nat) (l : List PObj) (cu : Nat) {w : World} (hr : Reads w w.heap.size 2 A n (objV l)) (hn : n * 24 ≤ 140737488351232) (hz : ∀ o ∈ l, o.2.size ≤ 140737488355328) (hc : n ≤ c) (hcu : cu < 4294967296) :
    Calls Try.prog 6 #[.slice A n c, .int .u32 (cu : Int)] w fun e w' => e = .returned (.bool true) ∧ Below w.heap.size w w' := by
  have HR := Lib.hid hr
  have HL := Lib.hid hr.objLen
  have HZ := Lib.hid hz
  have O1 := Lib.hid (own_any A n c l w w.heap.size hr (Nat.le_refl _) hn)
  clear hr hz
  go_enter Try.func6, Try.ntmps6
  go_wp2_with fail
  (with_reducible refine O1.out.mono ?_)
  rintro e w1 ⟨g1, cap1, rfl, ho1, hb1⟩
  have hm1 := (own_two ho1 HL.out).1
  have HB1 := Lib.hid hb1
  have B2 := Lib.hid (build_any (some ⟨g1, 0, none⟩) n cap1 l w1 w1.heap.size hm1 (Nat.le_refl _) (by omega) HZ.out)
  clear ho1 hb1 hm1 O1
  have BA := Lib.hid (fun h => back_at (l := l) h)
  have CO := Lib.hid (bldF_code l 0 markPk [])
  have LE1 := Lib.hid (fun h => bldR_err (l := l) h)
  have LSC := Lib.hid (fun h => scan_build l h)
  have LB := Lib.hid (fun h => (bld_bytes (l := l) h).2)
  have LF := Lib.hid (fun h => bld_four (l := l) h)
  have LC1 := Lib.hid (fun h (n : Nat) hn => scan_cut (l := l) h (n := n) hn)
  have LC2 := Lib.hid (fun h (n : Nat) hn => salvage_cut (l := l) h (n := n) hn)
  have BB := Lib.hid (fun (A : Option Addr) n c (w : World) B hr hB hn => build_any A n c l w B hr hB hn HZ.out)
  obtain ⟨P1, hP1⟩ : ∃ P, bldR l = P := ⟨_, rfl⟩
  rw [show bldF 0 markPk [] l = P1 from hP1] at CO
  rw [hP1] at B2 BA LE1 LSC LB LF LC1 LC2 BB
  clear hP1
  obtain ⟨s, e⟩ := P1
  go_wp2_with fail
  (with_reducible refine B2.out.mono ?_)
  rintro e' w2 ⟨rfl, hb2⟩
  have HB2 : Hid (Below w.heap.size w w2) := Lib.hid (HB1.out.trans (hb2.mono HB1.out.size))
  have AW := Lib.hid (fun W => pkAwake_any W)
  clear hb2 B2
  by_cases he : e = 0
  · subst he
    have hscn := LSC.out rfl

    have hbs := (LB.out rfl).2.2
    have hlc := (LB.out rfl).2.1
    rw [HL.out] at hlc

    have SC := Lib.hid (fun W => scan_any s W (by omega))
    rw [hscn] at SC
    have HES : Hid ((entsAt 4 l).length = n) := Lib.hid (by rw [entsAt_length, HL.out])
    have BA2 := Lib.hid (BA.out rfl)
    have BS2 := Lib.hid (fun j h => (BA.out rfl j h).2.2)
    have LB1 := Lib.hid (LB.out rfl).1
    have LC3 := Lib.hid (LC1.out rfl)
    have LC4 := Lib.hid (LC2.out rfl)
    have hs4 := LF.out rfl
    clear hscn LE1 LSC CO LF LB BA LC1 LC2
    go_wp2_with fail
    (with_reducible refine (SC.out _).mono ?_)
    rintro e' w7 ⟨v7, rfl, ho7, hb7⟩
    obtain ⟨nv, cv, Av, rfl⟩ := own_value ho7
    obtain rfl : nv = (entsAt 4 l).length := own_len ho7
    have HB7 : Hid (Below w.heap.size w w7) := Lib.hid (HB2.out.trans (hb7.mono HB2.out.size))
    rw [HES.out] at ho7 ⊢
    have HO7 := Lib.hid ho7
    clear ho7 hb7 SC
    have h4 : decide ((s.size : Int) < 4) = false := by rw [decide_eq_false_iff_not]; omega
    have t0 : ((n : Int) != (n : Int)) = false := by simp
    have EN := Lib.hid (fun k h => entsAt_get l 4 k h)
    have EX := Lib.hid (fun k h => endAt_next l k h)
    go_wp2_with fail
    go_loopw [9, 10] (fun v i wr => ∃ k : Nat, k ≤ n ∧ i = .int .i64 k ∧ Hid (wr.ownsRow w7.heap.size 30 2 v k (objV (l.take k)) ∧ Below w7.heap.size w7 wr)) (fun _ i _ => n - (intOf i).toNat)
    case atStart => exact ⟨0, by omega, rfl, Lib.hid ⟨World.ownsRow_nil _ _ _ _, Below.refl _ _⟩⟩
    case round =>
      obtain ⟨k, hk, rfl, HK⟩ := hrel
      by_cases hlt : k < n
      · have hkL : k < l.length := by have := HL.out; omega
        obtain ⟨g, rfl, hrow⟩ := ent_at HO7.out k hlt (by rw [HES.out]; exact hlt)
        have hent : (entsAt 4 l)[k]'(by rw [HES.out]; exact hlt) = (endAt l k, l[k]) := Option.some.inj ((List.getElem?_eq_getElem _).symm.trans (EN.out k hkL))
        rw [hent] at hrow
        obtain ⟨⟨r, q1⟩, q2, q3⟩ := BA2.out k hkL
        have E1 := Lib.hid (objV_take l k hkL)
        obtain ⟨ad, hkl, rfl, hbl, hc0, hc1⟩ := obj_cells HR.out k hlt
        have hzo := HZ.out _ (List.getElem_mem hkL)
        have hok := LB1.out _ (List.getElem_mem hkL)
        have HRW := Lib.hid (fun W hW => ent_parts (hrow W hW).1 (hrow W hW).2)
        have HRV := Lib.hid hrow
        have hC : Hid (∀ W : World, Below w7.heap.size w7 W → W.cell? (ad.add (k * 2)) = some (.int .u8 ((l[k]).1.toNat : Int)) ∧ W.cell? ⟨(ad.add (k * 2)).block, (ad.add (k * 2)).off + 1, none⟩ = some (.string (l[k]).2)) := Lib.hid (fun W hW => by
          have hW' : Below w.heap.size w W := HB7.out.trans (hW.mono HB7.out.size)
          refine ⟨?_, ?_⟩
          · rw [hW'.cell (by rw [block_of_add]; omega)]; exact hc0
          · show W.cell? ((ad.add (k * 2)).add 1) = _
            rw [hW'.cell (by rw [block_of_add, block_of_add]; omega)]; exact hc1)
        obtain ⟨o, ho⟩ : ∃ o, l[k] = o := ⟨_, rfl⟩
        dsimp only at HRW HRV
        rw [ho] at HRW HRV hC q1 q2 q3 E1 hzo hok
        obtain ⟨en, hen⟩ : ∃ en, endAt l k = en := ⟨_, rfl⟩
        rw [hen] at HRW HRV q1 q2 q3
        have SP := Lib.hid (fun W => span_any en o W hzo)
        have RD := Lib.hid (fun W => read_any s en W (by omega) (by omega))
        have ON := Lib.hid (fun W => one_any (s.extract en (en + (9 + o.2.size))) W (by rw [ByteArray.size_extract]; omega))
        rw [rdV_some q1] at RD
        rw [oneV_some q2 rfl] at ON
        unfold objA at RD ON
        clear ho hen hent hrow hkL hkl hc0 hc1 q1 q2
        have hki : (k : Int) < (n : Int) := by omega
        obtain ⟨p1, p2⟩ := HRV.out wr HK.out.2
        have hes := entA_size en o
        go_wp2_with fail
        (with_reducible refine (SP.out _).mono ?_)
        rintro e' wa ⟨rfl, hba⟩
        have HKa : Hid (wa.ownsRow w7.heap.size 30 2 u9 k (objV (l.take k)) ∧ Below w7.heap.size w7 wa) := Lib.hid ⟨own_below HK.out.1 hba, HK.out.2.trans (hba.mono HK.out.2.size)⟩
        clear hba SP p1 p2 hes
        obtain ⟨i1, i2, i3, i4, i5⟩ := HRW.out wa HKa.out.2
        have hen1 : (en : Int) ≤ (s.size : Int) := by omega
        have hen2 : en + (9 + o.2.size) ≤ s.size := q3
        go_wp2_with fail
        (with_reducible refine (RD.out _).mono ?_)
        rintro e' wb ⟨rfl, hbb⟩
        have HKb : Hid ((wb.alloc (.cells #[.int .u8 (o.1.toNat : Int), .string o.2] 30)).ownsRow w7.heap.size 30 2 u9 k (objV (l.take k)) ∧ Below w7.heap.size w7 (wb.alloc (.cells #[.int .u8 (o.1.toNat : Int), .string o.2] 30)) ∧ Blk (wb.alloc (.cells #[.int .u8 (o.1.toNat : Int), .string o.2] 30)) wb.heap.size 30 #[.int .u8 (o.1.toNat : Int), .string o.2]) := by
          have a := own_below HKa.out.1 hbb
          have b := HKa.out.2.trans (hbb.mono HKa.out.2.size)
          exact Lib.hid ⟨own_below a ((Below.refl _ _).alloc (Nat.le_refl _) _), b.alloc b.size _, Blk.new _ _ _⟩
        clear hbb RD i1 i2 i3 i4 i5
        have d1 : decide ((en : Int) < 0) = false := by rw [decide_eq_false_iff_not]; omega
        have d2 : decide (9 + (o.2.size : Int) < 0) = false := by rw [decide_eq_false_iff_not]; omega
        go_upto_region 13 with fail
        generalize wb.alloc (.cells #[.int .u8 (o.1.toNat : Int), .string o.2] 30) = wc at HKb ⊢
        generalize wb.heap.size = p at HKb ⊢
        go_wp2_with fail
        (with_reducible refine (ON.out _).mono ?_)
        rintro e' wd ⟨rfl, hbd⟩
        have HKd : Hid ((wd.alloc (.cells #[.int .u8 (o.1.toNat : Int), .string o.2] 30)).ownsRow w7.heap.size 30 2 u9 k (objV (l.take k)) ∧ Below w7.heap.size w7 (wd.alloc (.cells #[.int .u8 (o.1.toNat : Int), .string o.2] 30)) ∧ Blk (wd.alloc (.cells #[.int .u8 (o.1.toNat : Int), .string o.2] 30)) p 30 #[.int .u8 (o.1.toNat : Int), .string o.2] ∧ Blk (wd.alloc (.cells #[.int .u8 (o.1.toNat : Int), .string o.2] 30)) wd.heap.size 30 #[.int .u8 (o.1.toNat : Int), .string o.2]) := by
          have a := own_below HKb.out.1 hbd
          have b := HKb.out.2.1.trans (hbd.mono HKb.out.2.1.size)
          exact Lib.hid ⟨own_below a ((Below.refl _ _).alloc (Nat.le_refl _) _), b.alloc b.size _, (HKb.out.2.2.below hbd HKb.out.2.2.lt).alloc _, Blk.new _ _ _⟩
        clear hbd ON HKb HKa HK
        go_upto_region 16 with fail
        generalize wd.alloc (.cells #[.int .u8 (o.1.toNat : Int), .string o.2] 30) = we at HKd ⊢
        generalize wd.heap.size = q at HKd ⊢
        have KS : Hid (∀ W : World, Below we.heap.size we W → W.cell? ⟨p, 0, none⟩ = some (.int .u8 (o.1.toNat : Int)) ∧ W.cell? ⟨p, 1, none⟩ = some (.string o.2) ∧ W.cell? ⟨q, 0, none⟩ = some (.int .u8 (o.1.toNat : Int)) ∧ W.cell? ⟨q, 1, none⟩ = some (.string o.2) ∧ W.cell? (ad.add (k * 2)) = some (.int .u8 (o.1.toNat : Int)) ∧ W.cell? ⟨(ad.add (k * 2)).block, (ad.add (k * 2)).off + 1, none⟩ = some (.string o.2) ∧ ok32 W g (k * 35) = true ∧ row32 W g (k * 35) = nmA o ∧ W.cell? ⟨g, k * 35 + 32, none⟩ = some (.int .u8 (o.1.toNat : Int)) ∧ W.cell? ⟨g, k * 35 + 34, none⟩ = some (.int .i64 (o.2.size : Int))) := Lib.hid (fun W hW => by
          have h7 : Below w7.heap.size w7 W := HKd.out.2.1.trans (hW.mono HKd.out.2.1.size)
          have a := HKd.out.2.2.1.below hW HKd.out.2.2.1.lt
          have b := HKd.out.2.2.2.below hW HKd.out.2.2.2.lt
          obtain ⟨c1, c2⟩ := hC.out W h7
          obtain ⟨i1, i2, i3, i4, i5⟩ := HRW.out W h7
          exact ⟨a.cell 0, a.cell 1, b.cell 0, b.cell 1, c1, c2, i1, i2, i3, i5⟩)
        have HB0 : Hid (Below we.heap.size we we.drew) := Lib.hid (Below.refl _ _).drew
        have SA := KS.out _ HB0.out
        have O1 : Hid (∀ W, Calls Try.prog 26 #[.int .u8 (o.1.toNat : Int), .string o.2] W fun e w' => e = .returned (.agg (nmA o)) ∧ Below W.heap.size W w') := Lib.hid (fun W => of_any o.1 o.2 W (by have := (okO_iff o).1 hok; omega))
        have qn : ∀ W, (Op.equalIn 10000 42 (.agg (nmA o)) (.agg (nmA o))).run Try.prog W = .ok true W := fun W => eq_nm o W
        have k0 : (0 : Int) ≤ (k : Int) := by omega
        go_cut [188] (fun v wx => v = .bool false ∧ Hid (Below we.heap.size we wx))
        case first =>
          as_aux_lemma =>
            generalize nmA o = N at KS O1 qn SA
            refine wp_region_held_drew (S := fun w' => w'.cell? ⟨p, 0, none⟩ = some (.int .u8 (o.1.toNat : Int)) ∧ w'.cell? ⟨p, 1, none⟩ = some (.string o.2) ∧ w'.cell? ⟨q, 0, none⟩ = some (.int .u8 (o.1.toNat : Int)) ∧ w'.cell? ⟨q, 1, none⟩ = some (.string o.2) ∧ w'.cell? (ad.add (k * 2)) = some (.int .u8 (o.1.toNat : Int)) ∧ w'.cell? ⟨(ad.add (k * 2)).block, (ad.add (k * 2)).off + 1, none⟩ = some (.string o.2) ∧ ok32 w' g (k * 35) = true ∧ row32 w' g (k * 35) = N ∧ w'.cell? ⟨g, k * 35 + 32, none⟩ = some (.int .u8 (o.1.toNat : Int)) ∧ w'.cell? ⟨g, k * 35 + 34, none⟩ = some (.int .i64 (o.2.size : Int))) (by kernel_rfl) (by exact SA) (fun hHeld => ?_)
            refine wpAnyH_take (i := 0) (oi := { dst := some 124, op := .move (.tmp 14), type := 25, pos := "outright.go:30", after := #[], guard := none }) (v := _) rfl (by as_aux_lemma => kernel_rfl) (by as_aux_lemma => kernel_rfl) (by as_aux_lemma => kernel_rfl) (fun _ _ _ h => h) (Or.inl ⟨by kernel_rfl, by (intro w hSw; (try dsimp only at hSw); go_simp; first | done | with_reducible rfl)⟩) (by assumption) ?_
            (try simp only [List.getElem_toArray, List.getElem_cons_succ, List.getElem_cons_zero, Act.put, List.setIfInBounds_toArray, List.set_cons_zero, List.set_cons_succ])
            refine wpAnyH_take (i := 1) (oi := { dst := some 125, op := .binOp BinOp.neq 25 (.tmp 124) (.const (Value.int IntKind.i64 0)) 25, type := 4, pos := "outright.go:30", after := #[{ on := 0, ground := .data }], guard := none }) (v := _) rfl (by as_aux_lemma => kernel_rfl) (by as_aux_lemma => kernel_rfl) (by as_aux_lemma => kernel_rfl) (fun _ _ _ h => h) (Or.inl ⟨by kernel_rfl, by (intro w hSw; (try dsimp only at hSw); go_simp; first | done | with_reducible rfl)⟩) (by assumption) ?_
            (try simp only [List.getElem_toArray, List.getElem_cons_succ, List.getElem_cons_zero, Act.put, List.setIfInBounds_toArray, List.set_cons_zero, List.set_cons_succ])
            refine wpAnyH_take (i := 2) (oi := { dst := some 126, op := .move (.tmp 125), type := 4, pos := "outright.go:30", after := #[{ on := 1, ground := .data }], guard := none }) (v := _) rfl (by as_aux_lemma => kernel_rfl) (by as_aux_lemma => kernel_rfl) (by as_aux_lemma => kernel_rfl) (fun _ _ _ h => h) (Or.inl ⟨by kernel_rfl, by (intro w hSw; (try dsimp only at hSw); go_simp; first | done | with_reducible rfl)⟩) (by assumption) ?_
            (try simp only [List.getElem_toArray, List.getElem_cons_succ, List.getElem_cons_zero, Act.put, List.setIfInBounds_toArray, List.set_cons_zero, List.set_cons_succ])
            refine wpAnyH_take (i := 3) (oi := { dst := some 127, op := .move (.tmp 16), type := 25, pos := "outright.go:30", after := #[{ on := 2, ground := .guard }], guard := some (2, false) }) (v := _) rfl (by as_aux_lemma => kernel_rfl) (by as_aux_lemma => kernel_rfl) (by as_aux_lemma => kernel_rfl) (fun _ _ _ h => h) (Or.inl ⟨by kernel_rfl, by (intro w hSw; (try dsimp only at hSw); go_simp; first | done | with_reducible rfl)⟩) (by assumption) ?_
            (try simp only [List.getElem_toArray, List.getElem_cons_succ, List.getElem_cons_zero, Act.put, List.setIfInBounds_toArray, List.set_cons_zero, List.set_cons_succ])
            refine wpAnyH_take (i := 4) (oi := { dst := some 128, op := .binOp BinOp.neq 25 (.tmp 127) (.const (Value.int IntKind.i64 0)) 25, type := 4, pos := "outright.go:30", after := #[{ on := 3, ground := .data }, { on := 2, ground := .guard }], guard := some (2, false) }) (v := _) rfl (by as_aux_lemma => kernel_rfl) (by as_aux_lemma => kernel_rfl) (by as_aux_lemma => kernel_rfl) (fun _ _ _ h => h) (Or.inl ⟨by kernel_rfl, by (intro w hSw; (try dsimp only at hSw); go_simp; first | done | with_reducible rfl)⟩) (by assumption) ?_
            (try simp only [List.getElem_toArray, List.getElem_cons_succ, List.getElem_cons_zero, Act.put, List.setIfInBounds_toArray, List.set_cons_zero, List.set_cons_succ])
            refine wpAnyH_take (i := 5) (oi := { dst := some 129, op := .pick (.tmp 126) (.const (Value.bool true)) (.tmp 128), type := 4, pos := "outright.go:30", after := #[{ on := 2, ground := .data }, { on := 4, ground := .data }], guard := none }) (v := _) rfl (by as_aux_lemma => kernel_rfl) (by as_aux_lemma => kernel_rfl) (by as_aux_lemma => kernel_rfl) (fun _ _ _ h => h) (Or.inl ⟨by kernel_rfl, by (intro w hSw; (try dsimp only at hSw); go_simp; first | done | with_reducible rfl)⟩) (by assumption) ?_
            (try simp only [List.getElem_toArray, List.getElem_cons_succ, List.getElem_cons_zero, Act.put, List.setIfInBounds_toArray, List.set_cons_zero, List.set_cons_succ])
            refine wpAnyH_take (i := 6) (oi := { dst := some 130, op := .move (.tmp 129), type := 4, pos := "outright.go:30", after := #[{ on := 5, ground := .data }, { on := 2, ground := .chain }], guard := none }) (v := _) rfl (by as_aux_lemma => kernel_rfl) (by as_aux_lemma => kernel_rfl) (by as_aux_lemma => kernel_rfl) (fun _ _ _ h => h) (Or.inl ⟨by kernel_rfl, by (intro w hSw; (try dsimp only at hSw); go_simp; first | done | with_reducible rfl)⟩) (by assumption) ?_
            (try simp only [List.getElem_toArray, List.getElem_cons_succ, List.getElem_cons_zero, Act.put, List.setIfInBounds_toArray, List.set_cons_zero, List.set_cons_succ])
            refine wpAnyH_take (i := 7) (oi := { dst := some 131, op := .load 30 (.tmp 13), type := 30, pos := "outright.go:30", after := #[{ on := 6, ground := .guard }], guard := some (6, false) }) (v := _) rfl (by as_aux_lemma => kernel_rfl) (by as_aux_lemma => kernel_rfl) (by as_aux_lemma => kernel_rfl) (fun _ _ _ h => h) (Or.inl ⟨by kernel_rfl, by (intro w hSw; (try dsimp only at hSw); go_simp; first | done | with_reducible rfl)⟩) (by assumption) ?_
            (try simp only [List.getElem_toArray, List.getElem_cons_succ, List.getElem_cons_zero, Act.put, List.setIfInBounds_toArray, List.set_cons_zero, List.set_cons_succ])
            refine wpAnyH_take (i := 8) (oi := { dst := some 132, op := .load 30 (.tmp 15), type := 30, pos := "outright.go:30", after := #[{ on := 6, ground := .guard }], guard := some (6, false) }) (v := _) rfl (by as_aux_lemma => kernel_rfl) (by as_aux_lemma => kernel_rfl) (by as_aux_lemma => kernel_rfl) (fun _ _ _ h => h) (Or.inl ⟨by kernel_rfl, by (intro w hSw; (try dsimp only at hSw); go_simp; first | done | with_reducible rfl)⟩) (by assumption) ?_
            (try simp only [List.getElem_toArray, List.getElem_cons_succ, List.getElem_cons_zero, Act.put, List.setIfInBounds_toArray, List.set_cons_zero, List.set_cons_succ])
            refine wpAnyH_take (i := 9) (oi := { dst := some 133, op := .binOp BinOp.neq 30 (.tmp 131) (.tmp 132) 30, type := 4, pos := "outright.go:30", after := #[{ on := 7, ground := .data }, { on := 8, ground := .data }, { on := 6, ground := .guard }], guard := some (6, false) }) (v := _) rfl (by as_aux_lemma => kernel_rfl) (by as_aux_lemma => kernel_rfl) (by as_aux_lemma => kernel_rfl) (fun _ _ _ h => h) (Or.inl ⟨by kernel_rfl, by (intro w hSw; (try dsimp only at hSw); go_simp; first | done | with_reducible rfl)⟩) (by assumption) ?_
            (try simp only [List.getElem_toArray, List.getElem_cons_succ, List.getElem_cons_zero, Act.put, List.setIfInBounds_toArray, List.set_cons_zero, List.set_cons_succ])
            refine wpAnyH_take (i := 10) (oi := { dst := some 134, op := .pick (.tmp 130) (.const (Value.bool true)) (.tmp 133), type := 4, pos := "outright.go:30", after := #[{ on := 6, ground := .data }, { on := 9, ground := .data }], guard := none }) (v := _) rfl (by as_aux_lemma => kernel_rfl) (by as_aux_lemma => kernel_rfl) (by as_aux_lemma => kernel_rfl) (fun _ _ _ h => h) (Or.inl ⟨by kernel_rfl, by (intro w hSw; (try dsimp only at hSw); go_simp; first | done | with_reducible rfl)⟩) (by assumption) ?_
            (try simp only [List.getElem_toArray, List.getElem_cons_succ, List.getElem_cons_zero, Act.put, List.setIfInBounds_toArray, List.set_cons_zero, List.set_cons_succ])
            refine wpAnyH_take (i := 11) (oi := { dst := some 135, op := .move (.tmp 134), type := 4, pos := "outright.go:30", after := #[{ on := 10, ground := .data }, { on := 6, ground := .chain }], guard := none }) (v := _) rfl (by as_aux_lemma => kernel_rfl) (by as_aux_lemma => kernel_rfl) (by as_aux_lemma => kernel_rfl) (fun _ _ _ h => h) (Or.inl ⟨by kernel_rfl, by (intro w hSw; (try dsimp only at hSw); go_simp; first | done | with_reducible rfl)⟩) (by assumption) ?_
            (try simp only [List.getElem_toArray, List.getElem_cons_succ, List.getElem_cons_zero, Act.put, List.setIfInBounds_toArray, List.set_cons_zero, List.set_cons_succ])
            refine wpAnyH_take (i := 12) (oi := { dst := some 136, op := .fieldAddr 30 (.tmp 13) 0, type := 0, pos := "outright.go:30", after := #[{ on := 11, ground := .guard }], guard := some (11, false) }) (v := _) rfl (by as_aux_lemma => kernel_rfl) (by as_aux_lemma => kernel_rfl) (by as_aux_lemma => kernel_rfl) (fun _ _ _ h => h) (Or.inl ⟨by kernel_rfl, by (intro w hSw; (try dsimp only at hSw); go_simp; first | done | with_reducible rfl)⟩) (by assumption) ?_
            (try simp only [List.getElem_toArray, List.getElem_cons_succ, List.getElem_cons_zero, Act.put, List.setIfInBounds_toArray, List.set_cons_zero, List.set_cons_succ])
            refine wpAnyH_take (i := 13) (oi := { dst := some 137, op := .load 5 (.tmp 136), type := 5, pos := "outright.go:30", after := #[{ on := 12, ground := .data }, { on := 11, ground := .guard }], guard := some (11, false) }) (v := _) rfl (by as_aux_lemma => kernel_rfl) (by as_aux_lemma => kernel_rfl) (by as_aux_lemma => kernel_rfl) (fun _ _ _ h => h) (Or.inl ⟨by kernel_rfl, by (intro w hSw; (try dsimp only at hSw); go_simp; first | done | with_reducible rfl)⟩) (by assumption) ?_
            (try simp only [List.getElem_toArray, List.getElem_cons_succ, List.getElem_cons_zero, Act.put, List.setIfInBounds_toArray, List.set_cons_zero, List.set_cons_succ])
            as_aux_lemma =>
              refine wpAnyH_take (i := 14) (oi := { dst := some 138, op := .move (.tmp 0), type := 22, pos := "outright.go:30", after := #[{ on := 11, ground := .guard }], guard := some (11, false) }) (v := _) rfl (by as_aux_lemma => kernel_rfl) (by as_aux_lemma => kernel_rfl) (by as_aux_lemma => kernel_rfl) (fun _ _ _ h => h) (Or.inl ⟨by kernel_rfl, by (intro w hSw; (try dsimp only at hSw); go_simp; first | done | with_reducible rfl)⟩) (by assumption) ?_
              (try simp only [List.getElem_toArray, List.getElem_cons_succ, List.getElem_cons_zero, Act.put, List.setIfInBounds_toArray, List.set_cons_zero, List.set_cons_succ])
              refine wpAnyH_take (i := 15) (oi := { dst := some 139, op := .move (.tmp 10), type := 3, pos := "outright.go:30", after := #[{ on := 11, ground := .guard }], guard := some (11, false) }) (v := _) rfl (by as_aux_lemma => kernel_rfl) (by as_aux_lemma => kernel_rfl) (by as_aux_lemma => kernel_rfl) (fun _ _ _ h => h) (Or.inl ⟨by kernel_rfl, by (intro w hSw; (try dsimp only at hSw); go_simp; first | done | with_reducible rfl)⟩) (by assumption) ?_
              (try simp only [List.getElem_toArray, List.getElem_cons_succ, List.getElem_cons_zero, Act.put, List.setIfInBounds_toArray, List.set_cons_zero, List.set_cons_succ])
              refine wpAnyH_take (i := 16) (oi := { dst := some 140, op := .indexAddr 22 (.tmp 138) (.tmp 139), type := 0, pos := "outright.go:30", after := #[{ on := 14, ground := .data }, { on := 15, ground := .data }, { on := 11, ground := .guard }], guard := some (11, false) }) (v := _) rfl (by as_aux_lemma => kernel_rfl) (by as_aux_lemma => kernel_rfl) (by as_aux_lemma => kernel_rfl) (fun _ _ _ h => h) (Or.inl ⟨by kernel_rfl, by (intro w hSw; (try dsimp only at hSw); go_simp; first | done | with_reducible rfl)⟩) (by assumption) ?_
              (try simp only [List.getElem_toArray, List.getElem_cons_succ, List.getElem_cons_zero, Act.put, List.setIfInBounds_toArray, List.set_cons_zero, List.set_cons_succ])
              refine wpAnyH_take (i := 17) (oi := { dst := some 141, op := .fieldAddr 31 (.tmp 140) 0, type := 0, pos := "outright.go:30", after := #[{ on := 16, ground := .data }, { on := 11, ground := .guard }], guard := some (11, false) }) (v := _) rfl (by as_aux_lemma => kernel_rfl) (by as_aux_lemma => kernel_rfl) (by as_aux_lemma => kernel_rfl) (fun _ _ _ h => h) (Or.inl ⟨by kernel_rfl, by (intro w hSw; (try dsimp only at hSw); go_simp; first | done | with_reducible rfl)⟩) (by assumption) ?_
              (try simp only [List.getElem_toArray, List.getElem_cons_succ, List.getElem_cons_zero, Act.put, List.setIfInBounds_toArray, List.set_cons_zero, List.set_cons_succ])
              refine wpAnyH_take (i := 18) (oi := { dst := some 142, op := .load 5 (.tmp 141), type := 5, pos := "outright.go:30", after := #[{ on := 17, ground := .data }, { on := 11, ground := .guard }], guard := some (11, false) }) (v := _) rfl (by as_aux_lemma => kernel_rfl) (by as_aux_lemma => kernel_rfl) (by as_aux_lemma => kernel_rfl) (fun _ _ _ h => h) (Or.inl ⟨by kernel_rfl, by (intro w hSw; (try dsimp only at hSw); go_simp; first | done | with_reducible rfl)⟩) (by assumption) ?_
              (try simp only [List.getElem_toArray, List.getElem_cons_succ, List.getElem_cons_zero, Act.put, List.setIfInBounds_toArray, List.set_cons_zero, List.set_cons_succ])
              refine wpAnyH_take (i := 19) (oi := { dst := some 143, op := .binOp BinOp.neq 5 (.tmp 137) (.tmp 142) 5, type := 4, pos := "outright.go:30", after := #[{ on := 13, ground := .data }, { on := 18, ground := .data }, { on := 11, ground := .guard }], guard := some (11, false) }) (v := _) rfl (by as_aux_lemma => kernel_rfl) (by as_aux_lemma => kernel_rfl) (by as_aux_lemma => kernel_rfl) (fun _ _ _ h => h) (Or.inl ⟨by kernel_rfl, by (intro w hSw; (try dsimp only at hSw); go_simp; first | done | with_reducible rfl)⟩) (by assumption) ?_
              (try simp only [List.getElem_toArray, List.getElem_cons_succ, List.getElem_cons_zero, Act.put, List.setIfInBounds_toArray, List.set_cons_zero, List.set_cons_succ])
              refine wpAnyH_take (i := 20) (oi := { dst := some 144, op := .pick (.tmp 135) (.const (Value.bool true)) (.tmp 143), type := 4, pos := "outright.go:30", after := #[{ on := 11, ground := .data }, { on := 19, ground := .data }], guard := none }) (v := _) rfl (by as_aux_lemma => kernel_rfl) (by as_aux_lemma => kernel_rfl) (by as_aux_lemma => kernel_rfl) (fun _ _ _ h => h) (Or.inl ⟨by kernel_rfl, by (intro w hSw; (try dsimp only at hSw); go_simp; first | done | with_reducible rfl)⟩) (by assumption) ?_
              (try simp only [List.getElem_toArray, List.getElem_cons_succ, List.getElem_cons_zero, Act.put, List.setIfInBounds_toArray, List.set_cons_zero, List.set_cons_succ])
              refine wpAnyH_take (i := 21) (oi := { dst := some 145, op := .move (.tmp 144), type := 4, pos := "outright.go:30", after := #[{ on := 20, ground := .data }, { on := 11, ground := .chain }], guard := none }) (v := _) rfl (by as_aux_lemma => kernel_rfl) (by as_aux_lemma => kernel_rfl) (by as_aux_lemma => kernel_rfl) (fun _ _ _ h => h) (Or.inl ⟨by kernel_rfl, by (intro w hSw; (try dsimp only at hSw); go_simp; first | done | with_reducible rfl)⟩) (by assumption) ?_
              (try simp only [List.getElem_toArray, List.getElem_cons_succ, List.getElem_cons_zero, Act.put, List.setIfInBounds_toArray, List.set_cons_zero, List.set_cons_succ])
              refine wpAnyH_take (i := 22) (oi := { dst := some 146, op := .fieldAddr 30 (.tmp 13) 1, type := 0, pos := "outright.go:30", after := #[{ on := 21, ground := .guard }], guard := some (21, false) }) (v := _) rfl (by as_aux_lemma => kernel_rfl) (by as_aux_lemma => kernel_rfl) (by as_aux_lemma => kernel_rfl) (fun _ _ _ h => h) (Or.inl ⟨by kernel_rfl, by (intro w hSw; (try dsimp only at hSw); go_simp; first | done | with_reducible rfl)⟩) (by assumption) ?_
              (try simp only [List.getElem_toArray, List.getElem_cons_succ, List.getElem_cons_zero, Act.put, List.setIfInBounds_toArray, List.set_cons_zero, List.set_cons_succ])
              refine wpAnyH_take (i := 23) (oi := { dst := some 147, op := .load 9 (.tmp 146), type := 9, pos := "outright.go:30", after := #[{ on := 22, ground := .data }, { on := 21, ground := .guard }], guard := some (21, false) }) (v := _) rfl (by as_aux_lemma => kernel_rfl) (by as_aux_lemma => kernel_rfl) (by as_aux_lemma => kernel_rfl) (fun _ _ _ h => h) (Or.inl ⟨by kernel_rfl, by (intro w hSw; (try dsimp only at hSw); go_simp; first | done | with_reducible rfl)⟩) (by assumption) ?_
              (try simp only [List.getElem_toArray, List.getElem_cons_succ, List.getElem_cons_zero, Act.put, List.setIfInBounds_toArray, List.set_cons_zero, List.set_cons_succ])
              refine wpAnyH_take (i := 24) (oi := { dst := some 148, op := .move (.tmp 0), type := 22, pos := "outright.go:30", after := #[{ on := 21, ground := .guard }], guard := some (21, false) }) (v := _) rfl (by as_aux_lemma => kernel_rfl) (by as_aux_lemma => kernel_rfl) (by as_aux_lemma => kernel_rfl) (fun _ _ _ h => h) (Or.inl ⟨by kernel_rfl, by (intro w hSw; (try dsimp only at hSw); go_simp; first | done | with_reducible rfl)⟩) (by assumption) ?_
              (try simp only [List.getElem_toArray, List.getElem_cons_succ, List.getElem_cons_zero, Act.put, List.setIfInBounds_toArray, List.set_cons_zero, List.set_cons_succ])
              refine wpAnyH_take (i := 25) (oi := { dst := some 149, op := .move (.tmp 10), type := 3, pos := "outright.go:30", after := #[{ on := 21, ground := .guard }], guard := some (21, false) }) (v := _) rfl (by as_aux_lemma => kernel_rfl) (by as_aux_lemma => kernel_rfl) (by as_aux_lemma => kernel_rfl) (fun _ _ _ h => h) (Or.inl ⟨by kernel_rfl, by (intro w hSw; (try dsimp only at hSw); go_simp; first | done | with_reducible rfl)⟩) (by assumption) ?_
              (try simp only [List.getElem_toArray, List.getElem_cons_succ, List.getElem_cons_zero, Act.put, List.setIfInBounds_toArray, List.set_cons_zero, List.set_cons_succ])
              refine wpAnyH_take (i := 26) (oi := { dst := some 150, op := .indexAddr 22 (.tmp 148) (.tmp 149), type := 0, pos := "outright.go:30", after := #[{ on := 24, ground := .data }, { on := 25, ground := .data }, { on := 21, ground := .guard }], guard := some (21, false) }) (v := _) rfl (by as_aux_lemma => kernel_rfl) (by as_aux_lemma => kernel_rfl) (by as_aux_lemma => kernel_rfl) (fun _ _ _ h => h) (Or.inl ⟨by kernel_rfl, by (intro w hSw; (try dsimp only at hSw); go_simp; first | done | with_reducible rfl)⟩) (by assumption) ?_
              (try simp only [List.getElem_toArray, List.getElem_cons_succ, List.getElem_cons_zero, Act.put, List.setIfInBounds_toArray, List.set_cons_zero, List.set_cons_succ])
              refine wpAnyH_take (i := 27) (oi := { dst := some 151, op := .fieldAddr 31 (.tmp 150) 1, type := 0, pos := "outright.go:30", after := #[{ on := 26, ground := .data }, { on := 21, ground := .guard }], guard := some (21, false) }) (v := _) rfl (by as_aux_lemma => kernel_rfl) (by as_aux_lemma => kernel_rfl) (by as_aux_lemma => kernel_rfl) (fun _ _ _ h => h) (Or.inl ⟨by kernel_rfl, by (intro w hSw; (try dsimp only at hSw); go_simp; first | done | with_reducible rfl)⟩) (by assumption) ?_
              (try simp only [List.getElem_toArray, List.getElem_cons_succ, List.getElem_cons_zero, Act.put, List.setIfInBounds_toArray, List.set_cons_zero, List.set_cons_succ])
              as_aux_lemma =>
                refine wpAnyH_take (i := 28) (oi := { dst := some 152, op := .load 9 (.tmp 151), type := 9, pos := "outright.go:30", after := #[{ on := 27, ground := .data }, { on := 21, ground := .guard }], guard := some (21, false) }) (v := _) rfl (by as_aux_lemma => kernel_rfl) (by as_aux_lemma => kernel_rfl) (by as_aux_lemma => kernel_rfl) (fun _ _ _ h => h) (Or.inl ⟨by kernel_rfl, by (intro w hSw; (try dsimp only at hSw); go_simp; first | done | with_reducible rfl)⟩) (by assumption) ?_
                (try simp only [List.getElem_toArray, List.getElem_cons_succ, List.getElem_cons_zero, Act.put, List.setIfInBounds_toArray, List.set_cons_zero, List.set_cons_succ])
                refine wpAnyH_take (i := 29) (oi := { dst := some 153, op := .binOp BinOp.neq 9 (.tmp 147) (.tmp 152) 9, type := 4, pos := "outright.go:30", after := #[{ on := 23, ground := .data }, { on := 28, ground := .data }, { on := 21, ground := .guard }], guard := some (21, false) }) (v := _) rfl (by as_aux_lemma => kernel_rfl) (by as_aux_lemma => kernel_rfl) (by as_aux_lemma => kernel_rfl) (fun _ _ _ h => h) (Or.inl ⟨by kernel_rfl, by (intro w hSw; (try dsimp only at hSw); go_simp; first | done | with_reducible rfl)⟩) (by assumption) ?_
                (try simp only [List.getElem_toArray, List.getElem_cons_succ, List.getElem_cons_zero, Act.put, List.setIfInBounds_toArray, List.set_cons_zero, List.set_cons_succ])
                refine wpAnyH_take (i := 30) (oi := { dst := some 154, op := .pick (.tmp 145) (.const (Value.bool true)) (.tmp 153), type := 4, pos := "outright.go:30", after := #[{ on := 21, ground := .data }, { on := 29, ground := .data }], guard := none }) (v := _) rfl (by as_aux_lemma => kernel_rfl) (by as_aux_lemma => kernel_rfl) (by as_aux_lemma => kernel_rfl) (fun _ _ _ h => h) (Or.inl ⟨by kernel_rfl, by (intro w hSw; (try dsimp only at hSw); go_simp; first | done | with_reducible rfl)⟩) (by assumption) ?_
                (try simp only [List.getElem_toArray, List.getElem_cons_succ, List.getElem_cons_zero, Act.put, List.setIfInBounds_toArray, List.set_cons_zero, List.set_cons_succ])
                refine wpAnyH_take (i := 31) (oi := { dst := some 155, op := .move (.tmp 154), type := 4, pos := "outright.go:30", after := #[{ on := 30, ground := .data }, { on := 21, ground := .chain }], guard := none }) (v := _) rfl (by as_aux_lemma => kernel_rfl) (by as_aux_lemma => kernel_rfl) (by as_aux_lemma => kernel_rfl) (fun _ _ _ h => h) (Or.inl ⟨by kernel_rfl, by (intro w hSw; (try dsimp only at hSw); go_simp; first | done | with_reducible rfl)⟩) (by assumption) ?_
                (try simp only [List.getElem_toArray, List.getElem_cons_succ, List.getElem_cons_zero, Act.put, List.setIfInBounds_toArray, List.set_cons_zero, List.set_cons_succ])
                refine wpAnyH_take (i := 32) (oi := { dst := some 156, op := .move (.tmp 7), type := 36, pos := "outright.go:30", after := #[{ on := 31, ground := .guard }], guard := some (31, false) }) (v := _) rfl (by as_aux_lemma => kernel_rfl) (by as_aux_lemma => kernel_rfl) (by as_aux_lemma => kernel_rfl) (fun _ _ _ h => h) (Or.inl ⟨by kernel_rfl, by (intro w hSw; (try dsimp only at hSw); go_simp; first | done | with_reducible rfl)⟩) (by assumption) ?_
                (try simp only [List.getElem_toArray, List.getElem_cons_succ, List.getElem_cons_zero, Act.put, List.setIfInBounds_toArray, List.set_cons_zero, List.set_cons_succ])
                refine wpAnyH_take (i := 33) (oi := { dst := some 157, op := .move (.tmp 10), type := 3, pos := "outright.go:30", after := #[{ on := 31, ground := .guard }], guard := some (31, false) }) (v := _) rfl (by as_aux_lemma => kernel_rfl) (by as_aux_lemma => kernel_rfl) (by as_aux_lemma => kernel_rfl) (fun _ _ _ h => h) (Or.inl ⟨by kernel_rfl, by (intro w hSw; (try dsimp only at hSw); go_simp; first | done | with_reducible rfl)⟩) (by assumption) ?_
                (try simp only [List.getElem_toArray, List.getElem_cons_succ, List.getElem_cons_zero, Act.put, List.setIfInBounds_toArray, List.set_cons_zero, List.set_cons_succ])
                refine wpAnyH_take (i := 34) (oi := { dst := some 158, op := .indexAddr 36 (.tmp 156) (.tmp 157), type := 0, pos := "outright.go:30", after := #[{ on := 32, ground := .data }, { on := 33, ground := .data }, { on := 31, ground := .guard }], guard := some (31, false) }) (v := _) rfl (by as_aux_lemma => kernel_rfl) (by as_aux_lemma => kernel_rfl) (by as_aux_lemma => kernel_rfl) (fun _ _ _ h => h) (Or.inl ⟨by kernel_rfl, by (intro w hSw; (try dsimp only at hSw); go_simp; first | done | with_reducible rfl)⟩) (by assumption) ?_
                (try simp only [List.getElem_toArray, List.getElem_cons_succ, List.getElem_cons_zero, Act.put, List.setIfInBounds_toArray, List.set_cons_zero, List.set_cons_succ])
                refine wpAnyH_take (i := 35) (oi := { dst := some 159, op := .fieldAddr 44 (.tmp 158) 1, type := 0, pos := "outright.go:30", after := #[{ on := 34, ground := .data }, { on := 31, ground := .guard }], guard := some (31, false) }) (v := _) rfl (by as_aux_lemma => kernel_rfl) (by as_aux_lemma => kernel_rfl) (by as_aux_lemma => kernel_rfl) (fun _ _ _ h => h) (Or.inl ⟨by kernel_rfl, by (intro w hSw; (try dsimp only at hSw); go_simp; first | done | with_reducible rfl)⟩) (by assumption) ?_
                (try simp only [List.getElem_toArray, List.getElem_cons_succ, List.getElem_cons_zero, Act.put, List.setIfInBounds_toArray, List.set_cons_zero, List.set_cons_succ])
                refine wpAnyH_take (i := 36) (oi := { dst := some 160, op := .load 5 (.tmp 159), type := 5, pos := "outright.go:30", after := #[{ on := 35, ground := .data }, { on := 31, ground := .guard }], guard := some (31, false) }) (v := _) rfl (by as_aux_lemma => kernel_rfl) (by as_aux_lemma => kernel_rfl) (by as_aux_lemma => kernel_rfl) (fun _ _ _ h => h) (Or.inl ⟨by kernel_rfl, by (intro w hSw; (try dsimp only at hSw); go_simp; first | done | with_reducible rfl)⟩) (by assumption) ?_
                (try simp only [List.getElem_toArray, List.getElem_cons_succ, List.getElem_cons_zero, Act.put, List.setIfInBounds_toArray, List.set_cons_zero, List.set_cons_succ])
                refine wpAnyH_take (i := 37) (oi := { dst := some 161, op := .fieldAddr 30 (.tmp 13) 0, type := 0, pos := "outright.go:30", after := #[{ on := 31, ground := .guard }], guard := some (31, false) }) (v := _) rfl (by as_aux_lemma => kernel_rfl) (by as_aux_lemma => kernel_rfl) (by as_aux_lemma => kernel_rfl) (fun _ _ _ h => h) (Or.inl ⟨by kernel_rfl, by (intro w hSw; (try dsimp only at hSw); go_simp; first | done | with_reducible rfl)⟩) (by assumption) ?_
                (try simp only [List.getElem_toArray, List.getElem_cons_succ, List.getElem_cons_zero, Act.put, List.setIfInBounds_toArray, List.set_cons_zero, List.set_cons_succ])
                refine wpAnyH_take (i := 38) (oi := { dst := some 162, op := .load 5 (.tmp 161), type := 5, pos := "outright.go:30", after := #[{ on := 37, ground := .data }, { on := 31, ground := .guard }], guard := some (31, false) }) (v := _) rfl (by as_aux_lemma => kernel_rfl) (by as_aux_lemma => kernel_rfl) (by as_aux_lemma => kernel_rfl) (fun _ _ _ h => h) (Or.inl ⟨by kernel_rfl, by (intro w hSw; (try dsimp only at hSw); go_simp; first | done | with_reducible rfl)⟩) (by assumption) ?_
                (try simp only [List.getElem_toArray, List.getElem_cons_succ, List.getElem_cons_zero, Act.put, List.setIfInBounds_toArray, List.set_cons_zero, List.set_cons_succ])
                refine wpAnyH_take (i := 39) (oi := { dst := some 163, op := .binOp BinOp.neq 5 (.tmp 160) (.tmp 162) 5, type := 4, pos := "outright.go:30", after := #[{ on := 36, ground := .data }, { on := 38, ground := .data }, { on := 31, ground := .guard }], guard := some (31, false) }) (v := _) rfl (by as_aux_lemma => kernel_rfl) (by as_aux_lemma => kernel_rfl) (by as_aux_lemma => kernel_rfl) (fun _ _ _ h => h) (Or.inl ⟨by kernel_rfl, by (intro w hSw; (try dsimp only at hSw); go_simp; first | done | with_reducible rfl)⟩) (by assumption) ?_
                (try simp only [List.getElem_toArray, List.getElem_cons_succ, List.getElem_cons_zero, Act.put, List.setIfInBounds_toArray, List.set_cons_zero, List.set_cons_succ])
                refine wpAnyH_take (i := 40) (oi := { dst := some 164, op := .pick (.tmp 155) (.const (Value.bool true)) (.tmp 163), type := 4, pos := "outright.go:30", after := #[{ on := 31, ground := .data }, { on := 39, ground := .data }], guard := none }) (v := _) rfl (by as_aux_lemma => kernel_rfl) (by as_aux_lemma => kernel_rfl) (by as_aux_lemma => kernel_rfl) (fun _ _ _ h => h) (Or.inl ⟨by kernel_rfl, by (intro w hSw; (try dsimp only at hSw); go_simp; first | done | with_reducible rfl)⟩) (by assumption) ?_
                (try simp only [List.getElem_toArray, List.getElem_cons_succ, List.getElem_cons_zero, Act.put, List.setIfInBounds_toArray, List.set_cons_zero, List.set_cons_succ])
                refine wpAnyH_take (i := 41) (oi := { dst := some 165, op := .move (.tmp 164), type := 4, pos := "outright.go:30", after := #[{ on := 40, ground := .data }, { on := 31, ground := .chain }], guard := none }) (v := _) rfl (by as_aux_lemma => kernel_rfl) (by as_aux_lemma => kernel_rfl) (by as_aux_lemma => kernel_rfl) (fun _ _ _ h => h) (Or.inl ⟨by kernel_rfl, by (intro w hSw; (try dsimp only at hSw); go_simp; first | done | with_reducible rfl)⟩) (by assumption) ?_
                (try simp only [List.getElem_toArray, List.getElem_cons_succ, List.getElem_cons_zero, Act.put, List.setIfInBounds_toArray, List.set_cons_zero, List.set_cons_succ])
                as_aux_lemma =>
                  refine wpAnyH_take (i := 42) (oi := { dst := some 166, op := .move (.tmp 7), type := 36, pos := "outright.go:30", after := #[{ on := 41, ground := .guard }], guard := some (41, false) }) (v := _) rfl (by as_aux_lemma => kernel_rfl) (by as_aux_lemma => kernel_rfl) (by as_aux_lemma => kernel_rfl) (fun _ _ _ h => h) (Or.inl ⟨by kernel_rfl, by (intro w hSw; (try dsimp only at hSw); go_simp; first | done | with_reducible rfl)⟩) (by assumption) ?_
                  (try simp only [List.getElem_toArray, List.getElem_cons_succ, List.getElem_cons_zero, Act.put, List.setIfInBounds_toArray, List.set_cons_zero, List.set_cons_succ])
                  refine wpAnyH_take (i := 43) (oi := { dst := some 167, op := .move (.tmp 10), type := 3, pos := "outright.go:30", after := #[{ on := 41, ground := .guard }], guard := some (41, false) }) (v := _) rfl (by as_aux_lemma => kernel_rfl) (by as_aux_lemma => kernel_rfl) (by as_aux_lemma => kernel_rfl) (fun _ _ _ h => h) (Or.inl ⟨by kernel_rfl, by (intro w hSw; (try dsimp only at hSw); go_simp; first | done | with_reducible rfl)⟩) (by assumption) ?_
                  (try simp only [List.getElem_toArray, List.getElem_cons_succ, List.getElem_cons_zero, Act.put, List.setIfInBounds_toArray, List.set_cons_zero, List.set_cons_succ])
                  refine wpAnyH_take (i := 44) (oi := { dst := some 168, op := .indexAddr 36 (.tmp 166) (.tmp 167), type := 0, pos := "outright.go:30", after := #[{ on := 42, ground := .data }, { on := 43, ground := .data }, { on := 41, ground := .guard }], guard := some (41, false) }) (v := _) rfl (by as_aux_lemma => kernel_rfl) (by as_aux_lemma => kernel_rfl) (by as_aux_lemma => kernel_rfl) (fun _ _ _ h => h) (Or.inl ⟨by kernel_rfl, by (intro w hSw; (try dsimp only at hSw); go_simp; first | done | with_reducible rfl)⟩) (by assumption) ?_
                  (try simp only [List.getElem_toArray, List.getElem_cons_succ, List.getElem_cons_zero, Act.put, List.setIfInBounds_toArray, List.set_cons_zero, List.set_cons_succ])
                  refine wpAnyH_take (i := 45) (oi := { dst := some 169, op := .fieldAddr 44 (.tmp 168) 3, type := 0, pos := "outright.go:30", after := #[{ on := 44, ground := .data }, { on := 41, ground := .guard }], guard := some (41, false) }) (v := _) rfl (by as_aux_lemma => kernel_rfl) (by as_aux_lemma => kernel_rfl) (by as_aux_lemma => kernel_rfl) (fun _ _ _ h => h) (Or.inl ⟨by kernel_rfl, by (intro w hSw; (try dsimp only at hSw); go_simp; first | done | with_reducible rfl)⟩) (by assumption) ?_
                  (try simp only [List.getElem_toArray, List.getElem_cons_succ, List.getElem_cons_zero, Act.put, List.setIfInBounds_toArray, List.set_cons_zero, List.set_cons_succ])
                  refine wpAnyH_take (i := 46) (oi := { dst := some 170, op := .load 3 (.tmp 169), type := 3, pos := "outright.go:30", after := #[{ on := 45, ground := .data }, { on := 41, ground := .guard }], guard := some (41, false) }) (v := _) rfl (by as_aux_lemma => kernel_rfl) (by as_aux_lemma => kernel_rfl) (by as_aux_lemma => kernel_rfl) (fun _ _ _ h => h) (Or.inl ⟨by kernel_rfl, by (intro w hSw; (try dsimp only at hSw); go_simp; first | done | with_reducible rfl)⟩) (by assumption) ?_
                  (try simp only [List.getElem_toArray, List.getElem_cons_succ, List.getElem_cons_zero, Act.put, List.setIfInBounds_toArray, List.set_cons_zero, List.set_cons_succ])
                  refine wpAnyH_take (i := 47) (oi := { dst := some 171, op := .fieldAddr 30 (.tmp 13) 1, type := 0, pos := "outright.go:30", after := #[{ on := 41, ground := .guard }], guard := some (41, false) }) (v := _) rfl (by as_aux_lemma => kernel_rfl) (by as_aux_lemma => kernel_rfl) (by as_aux_lemma => kernel_rfl) (fun _ _ _ h => h) (Or.inl ⟨by kernel_rfl, by (intro w hSw; (try dsimp only at hSw); go_simp; first | done | with_reducible rfl)⟩) (by assumption) ?_
                  (try simp only [List.getElem_toArray, List.getElem_cons_succ, List.getElem_cons_zero, Act.put, List.setIfInBounds_toArray, List.set_cons_zero, List.set_cons_succ])
                  refine wpAnyH_take (i := 48) (oi := { dst := some 172, op := .load 9 (.tmp 171), type := 9, pos := "outright.go:30", after := #[{ on := 47, ground := .data }, { on := 41, ground := .guard }], guard := some (41, false) }) (v := _) rfl (by as_aux_lemma => kernel_rfl) (by as_aux_lemma => kernel_rfl) (by as_aux_lemma => kernel_rfl) (fun _ _ _ h => h) (Or.inl ⟨by kernel_rfl, by (intro w hSw; (try dsimp only at hSw); go_simp; first | done | with_reducible rfl)⟩) (by assumption) ?_
                  (try simp only [List.getElem_toArray, List.getElem_cons_succ, List.getElem_cons_zero, Act.put, List.setIfInBounds_toArray, List.set_cons_zero, List.set_cons_succ])
                  refine wpAnyH_take (i := 49) (oi := { dst := some 173, op := .call { callee := Callee.builtin Builtin.len, args := #[.tmp 172], argTypes := #[9] }, type := 3, pos := "outright.go:30", after := #[{ on := 48, ground := .data }, { on := 41, ground := .guard }], guard := some (41, false) }) (v := _) rfl (by as_aux_lemma => kernel_rfl) (by as_aux_lemma => kernel_rfl) (by as_aux_lemma => kernel_rfl) (fun _ _ _ h => h) (Or.inl ⟨by kernel_rfl, by (intro w hSw; (try dsimp only at hSw); go_simp; first | done | with_reducible rfl)⟩) (by assumption) ?_
                  (try simp only [List.getElem_toArray, List.getElem_cons_succ, List.getElem_cons_zero, Act.put, List.setIfInBounds_toArray, List.set_cons_zero, List.set_cons_succ])
                  refine wpAnyH_take (i := 50) (oi := { dst := some 174, op := .binOp BinOp.neq 3 (.tmp 170) (.tmp 173) 3, type := 4, pos := "outright.go:30", after := #[{ on := 46, ground := .data }, { on := 49, ground := .data }, { on := 41, ground := .guard }], guard := some (41, false) }) (v := _) rfl (by as_aux_lemma => kernel_rfl) (by as_aux_lemma => kernel_rfl) (by as_aux_lemma => kernel_rfl) (fun _ _ _ h => h) (Or.inl ⟨by kernel_rfl, by (intro w hSw; (try dsimp only at hSw); go_simp; first | done | with_reducible rfl)⟩) (by assumption) ?_
                  (try simp only [List.getElem_toArray, List.getElem_cons_succ, List.getElem_cons_zero, Act.put, List.setIfInBounds_toArray, List.set_cons_zero, List.set_cons_succ])
                  refine wpAnyH_take (i := 51) (oi := { dst := some 175, op := .pick (.tmp 165) (.const (Value.bool true)) (.tmp 174), type := 4, pos := "outright.go:30", after := #[{ on := 41, ground := .data }, { on := 50, ground := .data }], guard := none }) (v := _) rfl (by as_aux_lemma => kernel_rfl) (by as_aux_lemma => kernel_rfl) (by as_aux_lemma => kernel_rfl) (fun _ _ _ h => h) (Or.inl ⟨by kernel_rfl, by (intro w hSw; (try dsimp only at hSw); go_simp; first | done | with_reducible rfl)⟩) (by assumption) ?_
                  (try simp only [List.getElem_toArray, List.getElem_cons_succ, List.getElem_cons_zero, Act.put, List.setIfInBounds_toArray, List.set_cons_zero, List.set_cons_succ])
                  refine wpAnyH_take (i := 52) (oi := { dst := some 176, op := .move (.tmp 175), type := 4, pos := "outright.go:30", after := #[{ on := 51, ground := .data }, { on := 41, ground := .chain }], guard := none }) (v := _) rfl (by as_aux_lemma => kernel_rfl) (by as_aux_lemma => kernel_rfl) (by as_aux_lemma => kernel_rfl) (fun _ _ _ h => h) (Or.inl ⟨by kernel_rfl, by (intro w hSw; (try dsimp only at hSw); go_simp; first | done | with_reducible rfl)⟩) (by assumption) ?_
                  (try simp only [List.getElem_toArray, List.getElem_cons_succ, List.getElem_cons_zero, Act.put, List.setIfInBounds_toArray, List.set_cons_zero, List.set_cons_succ])
                  refine wpAnyH_take (i := 53) (oi := { dst := some 177, op := .move (.tmp 7), type := 36, pos := "outright.go:30", after := #[{ on := 52, ground := .guard }], guard := some (52, false) }) (v := _) rfl (by as_aux_lemma => kernel_rfl) (by as_aux_lemma => kernel_rfl) (by as_aux_lemma => kernel_rfl) (fun _ _ _ h => h) (Or.inl ⟨by kernel_rfl, by (intro w hSw; (try dsimp only at hSw); go_simp; first | done | with_reducible rfl)⟩) (by assumption) ?_
                  (try simp only [List.getElem_toArray, List.getElem_cons_succ, List.getElem_cons_zero, Act.put, List.setIfInBounds_toArray, List.set_cons_zero, List.set_cons_succ])
                  refine wpAnyH_take (i := 54) (oi := { dst := some 178, op := .move (.tmp 10), type := 3, pos := "outright.go:30", after := #[{ on := 52, ground := .guard }], guard := some (52, false) }) (v := _) rfl (by as_aux_lemma => kernel_rfl) (by as_aux_lemma => kernel_rfl) (by as_aux_lemma => kernel_rfl) (fun _ _ _ h => h) (Or.inl ⟨by kernel_rfl, by (intro w hSw; (try dsimp only at hSw); go_simp; first | done | with_reducible rfl)⟩) (by assumption) ?_
                  (try simp only [List.getElem_toArray, List.getElem_cons_succ, List.getElem_cons_zero, Act.put, List.setIfInBounds_toArray, List.set_cons_zero, List.set_cons_succ])
                  refine wpAnyH_take (i := 55) (oi := { dst := some 179, op := .indexAddr 36 (.tmp 177) (.tmp 178), type := 0, pos := "outright.go:30", after := #[{ on := 53, ground := .data }, { on := 54, ground := .data }, { on := 52, ground := .guard }], guard := some (52, false) }) (v := _) rfl (by as_aux_lemma => kernel_rfl) (by as_aux_lemma => kernel_rfl) (by as_aux_lemma => kernel_rfl) (fun _ _ _ h => h) (Or.inl ⟨by kernel_rfl, by (intro w hSw; (try dsimp only at hSw); go_simp; first | done | with_reducible rfl)⟩) (by assumption) ?_
                  (try simp only [List.getElem_toArray, List.getElem_cons_succ, List.getElem_cons_zero, Act.put, List.setIfInBounds_toArray, List.set_cons_zero, List.set_cons_succ])
                  as_aux_lemma =>
                    refine wpAnyH_take (i := 56) (oi := { dst := some 180, op := .fieldAddr 44 (.tmp 179) 0, type := 0, pos := "outright.go:30", after := #[{ on := 55, ground := .data }, { on := 52, ground := .guard }], guard := some (52, false) }) (v := _) rfl (by as_aux_lemma => kernel_rfl) (by as_aux_lemma => kernel_rfl) (by as_aux_lemma => kernel_rfl) (fun _ _ _ h => h) (Or.inl ⟨by kernel_rfl, by (intro w hSw; (try dsimp only at hSw); go_simp; first | done | with_reducible rfl)⟩) (by assumption) ?_
                    (try simp only [List.getElem_toArray, List.getElem_cons_succ, List.getElem_cons_zero, Act.put, List.setIfInBounds_toArray, List.set_cons_zero, List.set_cons_succ])
                    refine wpAnyH_take (i := 57) (oi := { dst := some 181, op := .load 42 (.tmp 180), type := 42, pos := "outright.go:30", after := #[{ on := 56, ground := .data }, { on := 52, ground := .guard }], guard := some (52, false) }) (v := _) rfl (by as_aux_lemma => kernel_rfl) (by as_aux_lemma => kernel_rfl) (by as_aux_lemma => kernel_rfl) (fun _ _ _ h => h) (Or.inl ⟨by kernel_rfl, by (intro w hSw; (try dsimp only at hSw); go_simp; first | done | with_reducible rfl)⟩) (by assumption) ?_
                    (try simp only [List.getElem_toArray, List.getElem_cons_succ, List.getElem_cons_zero, Act.put, List.setIfInBounds_toArray, List.set_cons_zero, List.set_cons_succ])
                    refine wpAnyH_take (i := 58) (oi := { dst := some 182, op := .fieldAddr 30 (.tmp 13) 0, type := 0, pos := "outright.go:30", after := #[{ on := 52, ground := .guard }], guard := some (52, false) }) (v := _) rfl (by as_aux_lemma => kernel_rfl) (by as_aux_lemma => kernel_rfl) (by as_aux_lemma => kernel_rfl) (fun _ _ _ h => h) (Or.inl ⟨by kernel_rfl, by (intro w hSw; (try dsimp only at hSw); go_simp; first | done | with_reducible rfl)⟩) (by assumption) ?_
                    (try simp only [List.getElem_toArray, List.getElem_cons_succ, List.getElem_cons_zero, Act.put, List.setIfInBounds_toArray, List.set_cons_zero, List.set_cons_succ])
                    refine wpAnyH_take (i := 59) (oi := { dst := some 183, op := .load 5 (.tmp 182), type := 5, pos := "outright.go:30", after := #[{ on := 58, ground := .data }, { on := 52, ground := .guard }], guard := some (52, false) }) (v := _) rfl (by as_aux_lemma => kernel_rfl) (by as_aux_lemma => kernel_rfl) (by as_aux_lemma => kernel_rfl) (fun _ _ _ h => h) (Or.inl ⟨by kernel_rfl, by (intro w hSw; (try dsimp only at hSw); go_simp; first | done | with_reducible rfl)⟩) (by assumption) ?_
                    (try simp only [List.getElem_toArray, List.getElem_cons_succ, List.getElem_cons_zero, Act.put, List.setIfInBounds_toArray, List.set_cons_zero, List.set_cons_succ])
                    refine wpAnyH_take (i := 60) (oi := { dst := some 184, op := .fieldAddr 30 (.tmp 13) 1, type := 0, pos := "outright.go:30", after := #[{ on := 52, ground := .guard }], guard := some (52, false) }) (v := _) rfl (by as_aux_lemma => kernel_rfl) (by as_aux_lemma => kernel_rfl) (by as_aux_lemma => kernel_rfl) (fun _ _ _ h => h) (Or.inl ⟨by kernel_rfl, by (intro w hSw; (try dsimp only at hSw); go_simp; first | done | with_reducible rfl)⟩) (by assumption) ?_
                    (try simp only [List.getElem_toArray, List.getElem_cons_succ, List.getElem_cons_zero, Act.put, List.setIfInBounds_toArray, List.set_cons_zero, List.set_cons_succ])
                    refine wpAnyH_take (i := 61) (oi := { dst := some 185, op := .load 9 (.tmp 184), type := 9, pos := "outright.go:30", after := #[{ on := 60, ground := .data }, { on := 52, ground := .guard }], guard := some (52, false) }) (v := _) rfl (by as_aux_lemma => kernel_rfl) (by as_aux_lemma => kernel_rfl) (by as_aux_lemma => kernel_rfl) (fun _ _ _ h => h) (Or.inl ⟨by kernel_rfl, by (intro w hSw; (try dsimp only at hSw); go_simp; first | done | with_reducible rfl)⟩) (by assumption) ?_
                    (try simp only [List.getElem_toArray, List.getElem_cons_succ, List.getElem_cons_zero, Act.put, List.setIfInBounds_toArray, List.set_cons_zero, List.set_cons_succ])
                    refine wpAnyH_ready (rs := [62]) (by as_aux_lemma => kernel_rfl) (by simp) (AllReadyH.cons rfl (fun K hK => ?_) AllReadyH.nil)
                    try simp only [List.getElem_toArray, List.getElem_cons_succ, List.getElem_cons_zero]
                    go_simp
                    go_at_call 26
                    refine (O1.out _).mono ?_
                    rintro e wn ⟨rfl, hbn⟩
                    have HB1 := Lib.hid (HB0.out.trans (hbn.mono HB0.out.size))
                    have SA := KS.out _ HB1.out
                    clear hbn
                    go_simp
                    refine hK.out _ _ (by exact SA) (fun hHeld => ?_)
                    clear hK K
                    (try simp only [List.getElem_toArray, List.getElem_cons_succ, List.getElem_cons_zero, Act.put, List.setIfInBounds_toArray, List.set_cons_zero, List.set_cons_succ])
                    refine wpAnyH_take (i := 63) (oi := { dst := some 187, op := .binOp BinOp.neq 42 (.tmp 181) (.tmp 186) 42, type := 4, pos := "outright.go:30", after := #[{ on := 57, ground := .data }, { on := 62, ground := .data }, { on := 52, ground := .guard }], guard := some (52, false) }) (v := _) rfl (by as_aux_lemma => kernel_rfl) (by as_aux_lemma => kernel_rfl) (by as_aux_lemma => kernel_rfl) (fun _ _ _ h => h) (Or.inl ⟨by kernel_rfl, by (intro w hSw; (try dsimp only at hSw); go_simp; first | done | with_reducible rfl)⟩) (by assumption) ?_
                    (try simp only [List.getElem_toArray, List.getElem_cons_succ, List.getElem_cons_zero, Act.put, List.setIfInBounds_toArray, List.set_cons_zero, List.set_cons_succ])
                    refine wpAnyH_take (i := 64) (oi := { dst := some 188, op := .pick (.tmp 176) (.const (Value.bool true)) (.tmp 187), type := 4, pos := "outright.go:30", after := #[{ on := 52, ground := .data }, { on := 63, ground := .data }], guard := none }) (v := _) rfl (by as_aux_lemma => kernel_rfl) (by as_aux_lemma => kernel_rfl) (by as_aux_lemma => kernel_rfl) (fun _ _ _ h => h) (Or.inl ⟨by kernel_rfl, by (intro w hSw; (try dsimp only at hSw); go_simp; first | done | with_reducible rfl)⟩) (by assumption) ?_
                    (try simp only [List.getElem_toArray, List.getElem_cons_succ, List.getElem_cons_zero, Act.put, List.setIfInBounds_toArray, List.set_cons_zero, List.set_cons_succ])
                    refine wpAnyH_done (by as_aux_lemma => kernel_rfl) ?_ _
                    go_wp2
                    go_meet
                    exact ⟨rfl, Lib.hid HB1.out⟩
        case rest =>
          obtain ⟨rfl, HC⟩ := hcut
          have HO := Lib.hid (own_below HKd.out.1 HC.out)
          have HBc := Lib.hid (HKd.out.2.1.trans (HC.out.mono HKd.out.2.1.size))
          have hbp := HKd.out.2.2.1.below HC.out HKd.out.2.2.1.lt
          have c0 := hbp.cell 0
          have c1 := hbp.cell 1
          have hle := HBc.out.size
          have hk1 : k ≤ 4611686018427387904 := by omega
          have hk2 : (k + 1) * 24 ≤ 140737488355328 := by omega
          clear hbp KS HRW HRV hC
          go_wp2_with (at_builtin; refine appendN_new elemObj rfl _ _ rfl w7.heap.size u9 k _ (by rfl) HO.out #[.int .u8 (o.1.toNat : Int), .string o.2] rfl (by rfl) (by intro u hu; simp at hu; rcases hu with rfl | rfl <;> rfl) hk1 hk2 hle ?_; intro v' w' ho hg hd; clear hd; have HK' : Hid (w'.ownsRow w7.heap.size 30 2 v' (k + 1) (objV (l.take (k + 1))) ∧ Below w7.heap.size w7 w') := Lib.hid ⟨by rw [E1.out]; exact ho, below_own HBc.out HO.out hg⟩; clear ho hg)
          go_roundw
          case rel => exact ⟨k + 1, by omega, by go_num, HK'⟩
          case measure => simp [intOf]; omega
      · as_aux_lemma =>
          obtain rfl : k = n := by omega
          have HO : Hid (wr.ownsRow w7.heap.size 30 2 u9 k (objV l)) := Lib.hid (by have := HK.out.1; rw [List.take_of_length_le (by rw [HL.out]; exact Nat.le_refl _)] at this; exact this)
          obtain ⟨A9, c9, rfl, hr9⟩ := own_reads HO.out
          have B9 := Lib.hid (BB.out A9 k c9 wr wr.heap.size hr9 (Nat.le_refl _) (by omega))
          have HBr : Hid (Below w7.heap.size w7 wr) := Lib.hid HK.out.2
          clear HO HK hr9 BB BA2 EX
          go_wp2_with fail
          (with_reducible refine B9.out.mono ?_)
          rintro e' wa ⟨rfl, hba⟩
          have HBa : Hid (Below w7.heap.size w7 wa) := Lib.hid (HBr.out.trans (hba.mono HBr.out.size))
          clear hba B9 HBr
          obtain ⟨m, hm⟩ : ∃ m, cu % s.size = m := ⟨_, rfl⟩
          have hml : m < s.size := by rw [← hm]; exact Nat.mod_lt _ (by omega)
          have hmi : (cu : Int) % (s.size : Int) = (m : Int) := by rw [← hm]; rfl
          have HM := Lib.hid hmi
          clear hm hmi
          have SC2 := Lib.hid (fun W => scan_any (s.extract 0 m) W (by rw [ByteArray.size_extract]; omega))
          have SV2 := Lib.hid (fun W => salvage_any (s.extract 0 m) W (by rw [ByteArray.size_extract]; omega))
          rw [LC3.out m hml] at SC2
          rw [LC4.out m hml] at SV2
          have hwl := wholeN_le l m
          rw [HL.out] at hwl
          have HEL : Hid ((entsAt 4 (l.take (wholeN l m))).length = wholeN l m) := Lib.hid (by rw [entsAt_length, List.length_take, HL.out]; omega)
          have LFT := Lib.hid (fun i h => left_at l (wholeN l m) i h (by rw [HL.out]; exact hwl))
          have CIF := Lib.hid (fun i h => cut_iff l m i h)
          have HLL := HL.out
          generalize hW : wholeN l m = wn at SV2 hwl HEL LFT CIF
          clear hW
          have SM := Lib.hid (fun W : World => digSum_any s W (by omega))
          have LBL := Lib.hid (fun W : World => label_any (shaF (byteAt s) s.size) W)
          have PSM := Lib.hid (fun W : World => psum_any (shaF (byteAt s) s.size) W)
          have FIT := Lib.hid (fun W : World => fits_any (labB (shaF (byteAt s) s.size)) s W (by omega))
          generalize shaF (byteAt s) s.size = I at SM LBL PSM FIT
          generalize labB I = lab at LBL PSM FIT
          rw [show (lab.toList == lab.toList) = true from beq_self_eq_true _] at FIT
          have hmi2 : (m : Int) ≤ (s.size : Int) := by omega
          go_upto_region 21 with fail
          rw [HM.out]
          go_wp2_with fail
          (with_reducible refine (SC2.out _).mono ?_)
          rintro e' wb ⟨vb, rfl, hob, hbb⟩
          have HBb : Hid (Below w7.heap.size w7 wb) := Lib.hid (HBa.out.trans (hbb.mono HBa.out.size))
          clear hob hbb SC2
          go_wp2_with fail
          (with_reducible refine (SV2.out _).mono ?_)
          rintro e' wc ⟨vc, rfl, hoc, hbc⟩
          obtain ⟨nl, cl, Al, rfl⟩ := own_value hoc
          obtain rfl : nl = (entsAt 4 (l.take wn)).length := own_len hoc
          have HBc : Hid (Below w7.heap.size w7 wc) := Lib.hid (HBb.out.trans (hbc.mono HBb.out.size))
          rw [HEL.out] at hoc ⊢
          have HOc := Lib.hid hoc
          clear hoc hbc SV2
          have u1 : (s.toList != s.toList) = false := by simp
          have u2 : decide ((k : Int) < (wn : Int)) = false := by rw [decide_eq_false_iff_not]; omega
          have u3 : decide (k < wn) = false := by rw [decide_eq_false_iff_not]; omega
          have EX := Lib.hid (fun j h => endAt_next l j h)
          clear HLL
          go_wp2_with fail
          go_loopw [23] (fun i wr => ∃ j : Nat, j ≤ k ∧ i = .int .i64 j ∧ Hid (Below wc.heap.size wc wr)) (fun i _ => k - (intOf i).toNat)
          case atStart => exact ⟨0, by omega, rfl, Lib.hid (Below.refl _ _)⟩
          case round =>
            obtain ⟨j, hj, rfl, HK⟩ := hrel
            have HK7 := Lib.hid (HBc.out.trans (HK.out.mono HBc.out.size))
            by_cases hlt : j < k
            · have hjL : j < l.length := by have := HL.out; omega
              obtain ⟨g, rfl, hrow⟩ := ent_at HO7.out j hlt (by rw [HES.out]; exact hlt)
              have hent : (entsAt 4 l)[j]'(by rw [HES.out]; exact hlt) = (endAt l j, l[j]) := Option.some.inj ((List.getElem?_eq_getElem _).symm.trans (EN.out j hjL))
              rw [hent] at hrow
              have hcf := CIF.out j hjL
              have hzo := HZ.out _ (List.getElem_mem hjL)
              have HRV := Lib.hid hrow
              have LF1 : Hid (j < wn → (entsAt 4 (l.take wn))[j]? = some (endAt l j, l[j])) := Lib.hid (fun h => LFT.out j h)
              have hbz := BS2.out j hjL
              obtain ⟨o, ho⟩ : ∃ o, l[j] = o := ⟨_, rfl⟩
              dsimp only at HRV
              rw [ho] at HRV hcf hzo LF1 hbz
              obtain ⟨en, hen⟩ : ∃ en, endAt l j = en := ⟨_, rfl⟩
              rw [hen] at HRV hcf LF1 hbz
              have henb : en ≤ 67108864 := by omega
              have SP := Lib.hid (fun W => span_any en o W hzo)
              clear ho hen hent hrow hjL
              have hki : (j : Int) < (k : Int) := by omega
              obtain ⟨p1, p2⟩ := HRV.out wr HK7.out
              have hes := entA_size en o
              go_wp2_with fail
              (with_reducible refine (SP.out _).mono ?_)
              rintro e' wd ⟨rfl, hbd⟩
              have HKd := Lib.hid (HK.out.trans (hbd.mono HK.out.size))
              have HKd7 := Lib.hid (HK7.out.trans (hbd.mono HK7.out.size))
              clear hbd SP p1 p2 hes
              by_cases hw : j < wn
              · as_aux_lemma =>
                  have d1 : decide ((en : Int) + (9 + (o.2.size : Int)) ≤ (m : Int)) = true := by rw [decide_eq_true_eq]; have := hcf.1 hw; omega
                  have d2 : decide ((j : Int) < (wn : Int)) = true := by rw [decide_eq_true_eq]; omega
                  clear hcf
                  obtain ⟨gl, rfl, hrl⟩ := ent_at HOc.out j hw (by rw [HEL.out]; exact hw)
                  have hel : (entsAt 4 (l.take wn))[j]'(by rw [HEL.out]; exact hw) = (en, o) := Option.some.inj ((List.getElem?_eq_getElem _).symm.trans (LF1.out hw))
                  rw [hel] at hrl
                  clear hel
                  have KS : Hid (∀ W : World, Below wd.heap.size wd W → ok35 W g (j * 35) = true ∧ row35 W g (j * 35) = entA en o ∧ ok35 W gl (j * 35) = true ∧ row35 W gl (j * 35) = entA en o) := Lib.hid (fun W hW => by
                    obtain ⟨r1, r2⟩ := HRV.out W (HKd7.out.trans (hW.mono HKd7.out.size))
                    obtain ⟨r3, r4⟩ := hrl W (HKd.out.trans (hW.mono HKd.out.size))
                    exact ⟨r1, r2, r3, r4⟩)
                  have HB1 : Hid (Below wd.heap.size wd wd.drew) := Lib.hid (Below.refl _ _).drew
                  have SA := KS.out _ HB1.out
                  have qn : ∀ x y W, (neqE x y (.agg (entA en o)) (.agg (entA en o))).run Try.prog W = .ok (.value (.bool false)) W := fun x y W => run_neqE x y en o W
                  have k0 : (0 : Int) ≤ (j : Int) := by omega
                  have j1 : (j : Int) < (wn : Int) := by omega
                  have t1 : ((true : Bool) != true) = false := rfl
                  clear hrl
                  go_upto_region 30 with fail
                  generalize entA en o = N at KS qn SA
                  refine wp_region_held_drew (S := fun w' => ok35 w' g (j * 35) = true ∧ row35 w' g (j * 35) = N ∧ ok35 w' gl (j * 35) = true ∧ row35 w' gl (j * 35) = N) (by kernel_rfl) (by exact SA) (fun hHeld => ?_)
                  refine wpAnyH_take (i := 0) (oi := { dst := some 251, op := .move (.tmp 26), type := 4, pos := "outright.go:45", after := #[], guard := none }) (v := _) rfl (by as_aux_lemma => kernel_rfl) (by as_aux_lemma => kernel_rfl) (by as_aux_lemma => kernel_rfl) (fun _ _ _ h => h) (Or.inl ⟨by kernel_rfl, by (intro w hSw; (try dsimp only at hSw); go_simp; first | done | with_reducible rfl)⟩) (by assumption) ?_
                  (try simp only [List.getElem_toArray, List.getElem_cons_succ, List.getElem_cons_zero, Act.put, List.setIfInBounds_toArray, List.set_cons_zero, List.set_cons_succ])
                  refine wpAnyH_take (i := 1) (oi := { dst := some 252, op := .move (.tmp 23), type := 3, pos := "outright.go:45", after := #[], guard := none }) (v := _) rfl (by as_aux_lemma => kernel_rfl) (by as_aux_lemma => kernel_rfl) (by as_aux_lemma => kernel_rfl) (fun _ _ _ h => h) (Or.inl ⟨by kernel_rfl, by (intro w hSw; (try dsimp only at hSw); go_simp; first | done | with_reducible rfl)⟩) (by assumption) ?_
                  (try simp only [List.getElem_toArray, List.getElem_cons_succ, List.getElem_cons_zero, Act.put, List.setIfInBounds_toArray, List.set_cons_zero, List.set_cons_succ])
                  refine wpAnyH_take (i := 2) (oi := { dst := some 253, op := .move (.tmp 22), type := 36, pos := "outright.go:45", after := #[], guard := none }) (v := _) rfl (by as_aux_lemma => kernel_rfl) (by as_aux_lemma => kernel_rfl) (by as_aux_lemma => kernel_rfl) (fun _ _ _ h => h) (Or.inl ⟨by kernel_rfl, by (intro w hSw; (try dsimp only at hSw); go_simp; first | done | with_reducible rfl)⟩) (by assumption) ?_
                  (try simp only [List.getElem_toArray, List.getElem_cons_succ, List.getElem_cons_zero, Act.put, List.setIfInBounds_toArray, List.set_cons_zero, List.set_cons_succ])
                  refine wpAnyH_take (i := 3) (oi := { dst := some 254, op := .call { callee := Callee.builtin Builtin.len, args := #[.tmp 253], argTypes := #[36] }, type := 3, pos := "outright.go:45", after := #[{ on := 2, ground := .data }], guard := none }) (v := _) rfl (by as_aux_lemma => kernel_rfl) (by as_aux_lemma => kernel_rfl) (by as_aux_lemma => kernel_rfl) (fun _ _ _ h => h) (Or.inl ⟨by kernel_rfl, by (intro w hSw; (try dsimp only at hSw); go_simp; first | done | with_reducible rfl)⟩) (by assumption) ?_
                  (try simp only [List.getElem_toArray, List.getElem_cons_succ, List.getElem_cons_zero, Act.put, List.setIfInBounds_toArray, List.set_cons_zero, List.set_cons_succ])
                  refine wpAnyH_take (i := 4) (oi := { dst := some 255, op := .binOp BinOp.lss 3 (.tmp 252) (.tmp 254) 3, type := 4, pos := "outright.go:45", after := #[{ on := 1, ground := .data }, { on := 3, ground := .data }], guard := none }) (v := _) rfl (by as_aux_lemma => kernel_rfl) (by as_aux_lemma => kernel_rfl) (by as_aux_lemma => kernel_rfl) (fun _ _ _ h => h) (Or.inl ⟨by kernel_rfl, by (intro w hSw; (try dsimp only at hSw); go_simp; first | done | with_reducible rfl)⟩) (by assumption) ?_
                  (try simp only [List.getElem_toArray, List.getElem_cons_succ, List.getElem_cons_zero, Act.put, List.setIfInBounds_toArray, List.set_cons_zero, List.set_cons_succ])
                  refine wpAnyH_take (i := 5) (oi := { dst := some 256, op := .binOp BinOp.neq 4 (.tmp 251) (.tmp 255) 4, type := 4, pos := "outright.go:45", after := #[{ on := 0, ground := .data }, { on := 4, ground := .data }], guard := none }) (v := _) rfl (by as_aux_lemma => kernel_rfl) (by as_aux_lemma => kernel_rfl) (by as_aux_lemma => kernel_rfl) (fun _ _ _ h => h) (Or.inl ⟨by kernel_rfl, by (intro w hSw; (try dsimp only at hSw); go_simp; first | done | with_reducible rfl)⟩) (by assumption) ?_
                  (try simp only [List.getElem_toArray, List.getElem_cons_succ, List.getElem_cons_zero, Act.put, List.setIfInBounds_toArray, List.set_cons_zero, List.set_cons_succ])
                  refine wpAnyH_take (i := 6) (oi := { dst := some 257, op := .move (.tmp 256), type := 4, pos := "outright.go:45", after := #[{ on := 5, ground := .data }], guard := none }) (v := _) rfl (by as_aux_lemma => kernel_rfl) (by as_aux_lemma => kernel_rfl) (by as_aux_lemma => kernel_rfl) (fun _ _ _ h => h) (Or.inl ⟨by kernel_rfl, by (intro w hSw; (try dsimp only at hSw); go_simp; first | done | with_reducible rfl)⟩) (by assumption) ?_
                  (try simp only [List.getElem_toArray, List.getElem_cons_succ, List.getElem_cons_zero, Act.put, List.setIfInBounds_toArray, List.set_cons_zero, List.set_cons_succ])
                  refine wpAnyH_take (i := 7) (oi := { dst := some 258, op := .move (.tmp 26), type := 4, pos := "outright.go:45", after := #[{ on := 6, ground := .guard }], guard := some (6, false) }) (v := _) rfl (by as_aux_lemma => kernel_rfl) (by as_aux_lemma => kernel_rfl) (by as_aux_lemma => kernel_rfl) (fun _ _ _ h => h) (Or.inl ⟨by kernel_rfl, by (intro w hSw; (try dsimp only at hSw); go_simp; first | done | with_reducible rfl)⟩) (by assumption) ?_
                  (try simp only [List.getElem_toArray, List.getElem_cons_succ, List.getElem_cons_zero, Act.put, List.setIfInBounds_toArray, List.set_cons_zero, List.set_cons_succ])
                  refine wpAnyH_take (i := 8) (oi := { dst := some 259, op := .move (.tmp 258), type := 4, pos := "outright.go:45", after := #[{ on := 7, ground := .data }, { on := 6, ground := .chain }, { on := 6, ground := .guard }], guard := some (6, false) }) (v := _) rfl (by as_aux_lemma => kernel_rfl) (by as_aux_lemma => kernel_rfl) (by as_aux_lemma => kernel_rfl) (fun _ _ _ h => h) (Or.inl ⟨by kernel_rfl, by (intro w hSw; (try dsimp only at hSw); go_simp; first | done | with_reducible rfl)⟩) (by assumption) ?_
                  (try simp only [List.getElem_toArray, List.getElem_cons_succ, List.getElem_cons_zero, Act.put, List.setIfInBounds_toArray, List.set_cons_zero, List.set_cons_succ])
                  refine wpAnyH_take (i := 9) (oi := { dst := some 260, op := .move (.tmp 22), type := 36, pos := "outright.go:45", after := #[{ on := 8, ground := .guard }], guard := some (8, true) }) (v := _) rfl (by as_aux_lemma => kernel_rfl) (by as_aux_lemma => kernel_rfl) (by as_aux_lemma => kernel_rfl) (fun _ _ _ h => h) (Or.inl ⟨by kernel_rfl, by (intro w hSw; (try dsimp only at hSw); go_simp; first | done | with_reducible rfl)⟩) (by assumption) ?_
                  (try simp only [List.getElem_toArray, List.getElem_cons_succ, List.getElem_cons_zero, Act.put, List.setIfInBounds_toArray, List.set_cons_zero, List.set_cons_succ])
                  refine wpAnyH_take (i := 10) (oi := { dst := some 261, op := .move (.tmp 23), type := 3, pos := "outright.go:45", after := #[{ on := 8, ground := .guard }], guard := some (8, true) }) (v := _) rfl (by as_aux_lemma => kernel_rfl) (by as_aux_lemma => kernel_rfl) (by as_aux_lemma => kernel_rfl) (fun _ _ _ h => h) (Or.inl ⟨by kernel_rfl, by (intro w hSw; (try dsimp only at hSw); go_simp; first | done | with_reducible rfl)⟩) (by assumption) ?_
                  (try simp only [List.getElem_toArray, List.getElem_cons_succ, List.getElem_cons_zero, Act.put, List.setIfInBounds_toArray, List.set_cons_zero, List.set_cons_succ])
                  refine wpAnyH_take (i := 11) (oi := { dst := some 262, op := .indexAddr 36 (.tmp 260) (.tmp 261), type := 0, pos := "outright.go:45", after := #[{ on := 9, ground := .data }, { on := 10, ground := .data }, { on := 8, ground := .guard }], guard := some (8, true) }) (v := _) rfl (by as_aux_lemma => kernel_rfl) (by as_aux_lemma => kernel_rfl) (by as_aux_lemma => kernel_rfl) (fun _ _ _ h => h) (Or.inl ⟨by kernel_rfl, by (intro w hSw; (try dsimp only at hSw); go_simp; first | done | with_reducible rfl)⟩) (by assumption) ?_
                  (try simp only [List.getElem_toArray, List.getElem_cons_succ, List.getElem_cons_zero, Act.put, List.setIfInBounds_toArray, List.set_cons_zero, List.set_cons_succ])
                  refine wpAnyH_take (i := 12) (oi := { dst := some 263, op := .load 44 (.tmp 262), type := 44, pos := "outright.go:45", after := #[{ on := 11, ground := .data }, { on := 8, ground := .guard }], guard := some (8, true) }) (v := _) rfl (by as_aux_lemma => kernel_rfl) (by as_aux_lemma => kernel_rfl) (by as_aux_lemma => kernel_rfl) (fun _ _ _ h => h) (Or.inl ⟨by kernel_rfl, by (intro w hSw; (try dsimp only at hSw); go_simp; first | done | with_reducible rfl)⟩) (by assumption) ?_
                  (try simp only [List.getElem_toArray, List.getElem_cons_succ, List.getElem_cons_zero, Act.put, List.setIfInBounds_toArray, List.set_cons_zero, List.set_cons_succ])
                  refine wpAnyH_take (i := 13) (oi := { dst := some 264, op := .move (.tmp 7), type := 36, pos := "outright.go:45", after := #[{ on := 8, ground := .guard }], guard := some (8, true) }) (v := _) rfl (by as_aux_lemma => kernel_rfl) (by as_aux_lemma => kernel_rfl) (by as_aux_lemma => kernel_rfl) (fun _ _ _ h => h) (Or.inl ⟨by kernel_rfl, by (intro w hSw; (try dsimp only at hSw); go_simp; first | done | with_reducible rfl)⟩) (by assumption) ?_
                  (try simp only [List.getElem_toArray, List.getElem_cons_succ, List.getElem_cons_zero, Act.put, List.setIfInBounds_toArray, List.set_cons_zero, List.set_cons_succ])
                  as_aux_lemma =>
                    refine wpAnyH_take (i := 14) (oi := { dst := some 265, op := .move (.tmp 23), type := 3, pos := "outright.go:45", after := #[{ on := 8, ground := .guard }], guard := some (8, true) }) (v := _) rfl (by as_aux_lemma => kernel_rfl) (by as_aux_lemma => kernel_rfl) (by as_aux_lemma => kernel_rfl) (fun _ _ _ h => h) (Or.inl ⟨by kernel_rfl, by (intro w hSw; (try dsimp only at hSw); go_simp; first | done | with_reducible rfl)⟩) (by assumption) ?_
                    (try simp only [List.getElem_toArray, List.getElem_cons_succ, List.getElem_cons_zero, Act.put, List.setIfInBounds_toArray, List.set_cons_zero, List.set_cons_succ])
                    refine wpAnyH_take (i := 15) (oi := { dst := some 266, op := .indexAddr 36 (.tmp 264) (.tmp 265), type := 0, pos := "outright.go:45", after := #[{ on := 13, ground := .data }, { on := 14, ground := .data }, { on := 8, ground := .guard }], guard := some (8, true) }) (v := _) rfl (by as_aux_lemma => kernel_rfl) (by as_aux_lemma => kernel_rfl) (by as_aux_lemma => kernel_rfl) (fun _ _ _ h => h) (Or.inl ⟨by kernel_rfl, by (intro w hSw; (try dsimp only at hSw); go_simp; first | done | with_reducible rfl)⟩) (by assumption) ?_
                    (try simp only [List.getElem_toArray, List.getElem_cons_succ, List.getElem_cons_zero, Act.put, List.setIfInBounds_toArray, List.set_cons_zero, List.set_cons_succ])
                    refine wpAnyH_take (i := 16) (oi := { dst := some 267, op := .load 44 (.tmp 266), type := 44, pos := "outright.go:45", after := #[{ on := 15, ground := .data }, { on := 8, ground := .guard }], guard := some (8, true) }) (v := _) rfl (by as_aux_lemma => kernel_rfl) (by as_aux_lemma => kernel_rfl) (by as_aux_lemma => kernel_rfl) (fun _ _ _ h => h) (Or.inl ⟨by kernel_rfl, by (intro w hSw; (try dsimp only at hSw); go_simp; first | done | with_reducible rfl)⟩) (by assumption) ?_
                    (try simp only [List.getElem_toArray, List.getElem_cons_succ, List.getElem_cons_zero, Act.put, List.setIfInBounds_toArray, List.set_cons_zero, List.set_cons_succ])
                    refine wpAnyH_take (i := 17) (oi := { dst := some 268, op := .binOp BinOp.neq 44 (.tmp 263) (.tmp 267) 44, type := 4, pos := "outright.go:45", after := #[{ on := 12, ground := .data }, { on := 16, ground := .data }, { on := 8, ground := .guard }], guard := some (8, true) }) (v := _) rfl (by as_aux_lemma => kernel_rfl) (by as_aux_lemma => kernel_rfl) (by as_aux_lemma => kernel_rfl) (fun _ _ _ h => h) (Or.inl ⟨by kernel_rfl, by (intro w hSw; (try dsimp only at hSw); go_simp; first | done | with_reducible rfl)⟩) (by assumption) ?_
                    (try simp only [List.getElem_toArray, List.getElem_cons_succ, List.getElem_cons_zero, Act.put, List.setIfInBounds_toArray, List.set_cons_zero, List.set_cons_succ])
                    refine wpAnyH_take (i := 18) (oi := { dst := some 269, op := .pick (.tmp 259) (.tmp 268) (.const (Value.bool false)), type := 4, pos := "outright.go:45", after := #[{ on := 8, ground := .data }, { on := 17, ground := .data }, { on := 6, ground := .guard }], guard := some (6, false) }) (v := _) rfl (by as_aux_lemma => kernel_rfl) (by as_aux_lemma => kernel_rfl) (by as_aux_lemma => kernel_rfl) (fun _ _ _ h => h) (Or.inl ⟨by kernel_rfl, by (intro w hSw; (try dsimp only at hSw); go_simp; first | done | with_reducible rfl)⟩) (by assumption) ?_
                    (try simp only [List.getElem_toArray, List.getElem_cons_succ, List.getElem_cons_zero, Act.put, List.setIfInBounds_toArray, List.set_cons_zero, List.set_cons_succ])
                    refine wpAnyH_take (i := 19) (oi := { dst := some 270, op := .pick (.tmp 257) (.const (Value.bool true)) (.tmp 269), type := 4, pos := "outright.go:45", after := #[{ on := 6, ground := .data }, { on := 18, ground := .data }], guard := none }) (v := _) rfl (by as_aux_lemma => kernel_rfl) (by as_aux_lemma => kernel_rfl) (by as_aux_lemma => kernel_rfl) (fun _ _ _ h => h) (Or.inl ⟨by kernel_rfl, by (intro w hSw; (try dsimp only at hSw); go_simp; first | done | with_reducible rfl)⟩) (by assumption) ?_
                    (try simp only [List.getElem_toArray, List.getElem_cons_succ, List.getElem_cons_zero, Act.put, List.setIfInBounds_toArray, List.set_cons_zero, List.set_cons_succ])
                    refine wpAnyH_done (by as_aux_lemma => kernel_rfl) ?_ _
                    go_wp2
                    go_roundw
                    case rel => exact ⟨j + 1, by omega, by go_num, Lib.hid (HKd.out.trans (HB1.out.mono HKd.out.size))⟩
                    case measure => simp [intOf]; omega
              · as_aux_lemma =>
                  have d1 : decide ((en : Int) + (9 + (o.2.size : Int)) ≤ (m : Int)) = false := by rw [decide_eq_false_iff_not]; intro h; exact hw (hcf.2 (by omega))
                  have d2 : decide ((j : Int) < (wn : Int)) = false := by rw [decide_eq_false_iff_not]; omega
                  clear hcf
                  have HB1 : Hid (Below wd.heap.size wd wd.drew) := Lib.hid (Below.refl _ _).drew
                  have t1 : ((false : Bool) != false) = false := rfl
                  go_upto_region 30 with fail
                  refine wp_region_held_drew (S := fun w' => True) (by kernel_rfl) (by trivial) (fun hHeld => ?_)
                  refine wpAnyH_take (i := 0) (oi := { dst := some 251, op := .move (.tmp 26), type := 4, pos := "outright.go:45", after := #[], guard := none }) (v := _) rfl (by as_aux_lemma => kernel_rfl) (by as_aux_lemma => kernel_rfl) (by as_aux_lemma => kernel_rfl) (fun _ _ _ h => h) (Or.inl ⟨by kernel_rfl, by (intro w hSw; (try dsimp only at hSw); go_simp; first | done | with_reducible rfl)⟩) (by assumption) ?_
                  (try simp only [List.getElem_toArray, List.getElem_cons_succ, List.getElem_cons_zero, Act.put, List.setIfInBounds_toArray, List.set_cons_zero, List.set_cons_succ])
                  refine wpAnyH_take (i := 1) (oi := { dst := some 252, op := .move (.tmp 23), type := 3, pos := "outright.go:45", after := #[], guard := none }) (v := _) rfl (by as_aux_lemma => kernel_rfl) (by as_aux_lemma => kernel_rfl) (by as_aux_lemma => kernel_rfl) (fun _ _ _ h => h) (Or.inl ⟨by kernel_rfl, by (intro w hSw; (try dsimp only at hSw); go_simp; first | done | with_reducible rfl)⟩) (by assumption) ?_
                  (try simp only [List.getElem_toArray, List.getElem_cons_succ, List.getElem_cons_zero, Act.put, List.setIfInBounds_toArray, List.set_cons_zero, List.set_cons_succ])
                  refine wpAnyH_take (i := 2) (oi := { dst := some 253, op := .move (.tmp 22), type := 36, pos := "outright.go:45", after := #[], guard := none }) (v := _) rfl (by as_aux_lemma => kernel_rfl) (by as_aux_lemma => kernel_rfl) (by as_aux_lemma => kernel_rfl) (fun _ _ _ h => h) (Or.inl ⟨by kernel_rfl, by (intro w hSw; (try dsimp only at hSw); go_simp; first | done | with_reducible rfl)⟩) (by assumption) ?_
                  (try simp only [List.getElem_toArray, List.getElem_cons_succ, List.getElem_cons_zero, Act.put, List.setIfInBounds_toArray, List.set_cons_zero, List.set_cons_succ])
                  refine wpAnyH_take (i := 3) (oi := { dst := some 254, op := .call { callee := Callee.builtin Builtin.len, args := #[.tmp 253], argTypes := #[36] }, type := 3, pos := "outright.go:45", after := #[{ on := 2, ground := .data }], guard := none }) (v := _) rfl (by as_aux_lemma => kernel_rfl) (by as_aux_lemma => kernel_rfl) (by as_aux_lemma => kernel_rfl) (fun _ _ _ h => h) (Or.inl ⟨by kernel_rfl, by (intro w hSw; (try dsimp only at hSw); go_simp; first | done | with_reducible rfl)⟩) (by assumption) ?_
                  (try simp only [List.getElem_toArray, List.getElem_cons_succ, List.getElem_cons_zero, Act.put, List.setIfInBounds_toArray, List.set_cons_zero, List.set_cons_succ])
                  refine wpAnyH_take (i := 4) (oi := { dst := some 255, op := .binOp BinOp.lss 3 (.tmp 252) (.tmp 254) 3, type := 4, pos := "outright.go:45", after := #[{ on := 1, ground := .data }, { on := 3, ground := .data }], guard := none }) (v := _) rfl (by as_aux_lemma => kernel_rfl) (by as_aux_lemma => kernel_rfl) (by as_aux_lemma => kernel_rfl) (fun _ _ _ h => h) (Or.inl ⟨by kernel_rfl, by (intro w hSw; (try dsimp only at hSw); go_simp; first | done | with_reducible rfl)⟩) (by assumption) ?_
                  (try simp only [List.getElem_toArray, List.getElem_cons_succ, List.getElem_cons_zero, Act.put, List.setIfInBounds_toArray, List.set_cons_zero, List.set_cons_succ])
                  refine wpAnyH_take (i := 5) (oi := { dst := some 256, op := .binOp BinOp.neq 4 (.tmp 251) (.tmp 255) 4, type := 4, pos := "outright.go:45", after := #[{ on := 0, ground := .data }, { on := 4, ground := .data }], guard := none }) (v := _) rfl (by as_aux_lemma => kernel_rfl) (by as_aux_lemma => kernel_rfl) (by as_aux_lemma => kernel_rfl) (fun _ _ _ h => h) (Or.inl ⟨by kernel_rfl, by (intro w hSw; (try dsimp only at hSw); go_simp; first | done | with_reducible rfl)⟩) (by assumption) ?_
                  (try simp only [List.getElem_toArray, List.getElem_cons_succ, List.getElem_cons_zero, Act.put, List.setIfInBounds_toArray, List.set_cons_zero, List.set_cons_succ])
                  refine wpAnyH_take (i := 6) (oi := { dst := some 257, op := .move (.tmp 256), type := 4, pos := "outright.go:45", after := #[{ on := 5, ground := .data }], guard := none }) (v := _) rfl (by as_aux_lemma => kernel_rfl) (by as_aux_lemma => kernel_rfl) (by as_aux_lemma => kernel_rfl) (fun _ _ _ h => h) (Or.inl ⟨by kernel_rfl, by (intro w hSw; (try dsimp only at hSw); go_simp; first | done | with_reducible rfl)⟩) (by assumption) ?_
                  (try simp only [List.getElem_toArray, List.getElem_cons_succ, List.getElem_cons_zero, Act.put, List.setIfInBounds_toArray, List.set_cons_zero, List.set_cons_succ])
                  refine wpAnyH_take (i := 7) (oi := { dst := some 258, op := .move (.tmp 26), type := 4, pos := "outright.go:45", after := #[{ on := 6, ground := .guard }], guard := some (6, false) }) (v := _) rfl (by as_aux_lemma => kernel_rfl) (by as_aux_lemma => kernel_rfl) (by as_aux_lemma => kernel_rfl) (fun _ _ _ h => h) (Or.inl ⟨by kernel_rfl, by (intro w hSw; (try dsimp only at hSw); go_simp; first | done | with_reducible rfl)⟩) (by assumption) ?_
                  (try simp only [List.getElem_toArray, List.getElem_cons_succ, List.getElem_cons_zero, Act.put, List.setIfInBounds_toArray, List.set_cons_zero, List.set_cons_succ])
                  refine wpAnyH_take (i := 8) (oi := { dst := some 259, op := .move (.tmp 258), type := 4, pos := "outright.go:45", after := #[{ on := 7, ground := .data }, { on := 6, ground := .chain }, { on := 6, ground := .guard }], guard := some (6, false) }) (v := _) rfl (by as_aux_lemma => kernel_rfl) (by as_aux_lemma => kernel_rfl) (by as_aux_lemma => kernel_rfl) (fun _ _ _ h => h) (Or.inl ⟨by kernel_rfl, by (intro w hSw; (try dsimp only at hSw); go_simp; first | done | with_reducible rfl)⟩) (by assumption) ?_
                  (try simp only [List.getElem_toArray, List.getElem_cons_succ, List.getElem_cons_zero, Act.put, List.setIfInBounds_toArray, List.set_cons_zero, List.set_cons_succ])
                  refine wpAnyH_take (i := 9) (oi := _) (v := undef) rfl (by as_aux_lemma => kernel_rfl) (by as_aux_lemma => kernel_rfl) (by as_aux_lemma => kernel_rfl) (fun _ _ _ h => h) (Or.inr ⟨by kernel_rfl, rfl⟩) (by assumption) ?_
                  (try simp only [List.getElem_toArray, List.getElem_cons_succ, List.getElem_cons_zero, Act.put, List.setIfInBounds_toArray, List.set_cons_zero, List.set_cons_succ])
                  refine wpAnyH_take (i := 10) (oi := _) (v := undef) rfl (by as_aux_lemma => kernel_rfl) (by as_aux_lemma => kernel_rfl) (by as_aux_lemma => kernel_rfl) (fun _ _ _ h => h) (Or.inr ⟨by kernel_rfl, rfl⟩) (by assumption) ?_
                  (try simp only [List.getElem_toArray, List.getElem_cons_succ, List.getElem_cons_zero, Act.put, List.setIfInBounds_toArray, List.set_cons_zero, List.set_cons_succ])
                  refine wpAnyH_take (i := 11) (oi := _) (v := undef) rfl (by as_aux_lemma => kernel_rfl) (by as_aux_lemma => kernel_rfl) (by as_aux_lemma => kernel_rfl) (fun _ _ _ h => h) (Or.inr ⟨by kernel_rfl, rfl⟩) (by assumption) ?_
                  (try simp only [List.getElem_toArray, List.getElem_cons_succ, List.getElem_cons_zero, Act.put, List.setIfInBounds_toArray, List.set_cons_zero, List.set_cons_succ])
                  refine wpAnyH_take (i := 12) (oi := _) (v := undef) rfl (by as_aux_lemma => kernel_rfl) (by as_aux_lemma => kernel_rfl) (by as_aux_lemma => kernel_rfl) (fun _ _ _ h => h) (Or.inr ⟨by kernel_rfl, rfl⟩) (by assumption) ?_
                  (try simp only [List.getElem_toArray, List.getElem_cons_succ, List.getElem_cons_zero, Act.put, List.setIfInBounds_toArray, List.set_cons_zero, List.set_cons_succ])
                  refine wpAnyH_take (i := 13) (oi := _) (v := undef) rfl (by as_aux_lemma => kernel_rfl) (by as_aux_lemma => kernel_rfl) (by as_aux_lemma => kernel_rfl) (fun _ _ _ h => h) (Or.inr ⟨by kernel_rfl, rfl⟩) (by assumption) ?_
                  (try simp only [List.getElem_toArray, List.getElem_cons_succ, List.getElem_cons_zero, Act.put, List.setIfInBounds_toArray, List.set_cons_zero, List.set_cons_succ])
                  as_aux_lemma =>
                    refine wpAnyH_take (i := 14) (oi := _) (v := undef) rfl (by as_aux_lemma => kernel_rfl) (by as_aux_lemma => kernel_rfl) (by as_aux_lemma => kernel_rfl) (fun _ _ _ h => h) (Or.inr ⟨by kernel_rfl, rfl⟩) (by assumption) ?_
                    (try simp only [List.getElem_toArray, List.getElem_cons_succ, List.getElem_cons_zero, Act.put, List.setIfInBounds_toArray, List.set_cons_zero, List.set_cons_succ])
                    refine wpAnyH_take (i := 15) (oi := _) (v := undef) rfl (by as_aux_lemma => kernel_rfl) (by as_aux_lemma => kernel_rfl) (by as_aux_lemma => kernel_rfl) (fun _ _ _ h => h) (Or.inr ⟨by kernel_rfl, rfl⟩) (by assumption) ?_
                    (try simp only [List.getElem_toArray, List.getElem_cons_succ, List.getElem_cons_zero, Act.put, List.setIfInBounds_toArray, List.set_cons_zero, List.set_cons_succ])
                    refine wpAnyH_take (i := 16) (oi := _) (v := undef) rfl (by as_aux_lemma => kernel_rfl) (by as_aux_lemma => kernel_rfl) (by as_aux_lemma => kernel_rfl) (fun _ _ _ h => h) (Or.inr ⟨by kernel_rfl, rfl⟩) (by assumption) ?_
                    (try simp only [List.getElem_toArray, List.getElem_cons_succ, List.getElem_cons_zero, Act.put, List.setIfInBounds_toArray, List.set_cons_zero, List.set_cons_succ])
                    refine wpAnyH_take (i := 17) (oi := _) (v := undef) rfl (by as_aux_lemma => kernel_rfl) (by as_aux_lemma => kernel_rfl) (by as_aux_lemma => kernel_rfl) (fun _ _ _ h => h) (Or.inr ⟨by kernel_rfl, rfl⟩) (by assumption) ?_
                    (try simp only [List.getElem_toArray, List.getElem_cons_succ, List.getElem_cons_zero, Act.put, List.setIfInBounds_toArray, List.set_cons_zero, List.set_cons_succ])
                    refine wpAnyH_take (i := 18) (oi := { dst := some 269, op := .pick (.tmp 259) (.tmp 268) (.const (Value.bool false)), type := 4, pos := "outright.go:45", after := #[{ on := 8, ground := .data }, { on := 17, ground := .data }, { on := 6, ground := .guard }], guard := some (6, false) }) (v := _) rfl (by as_aux_lemma => kernel_rfl) (by as_aux_lemma => kernel_rfl) (by as_aux_lemma => kernel_rfl) (fun _ _ _ h => h) (Or.inl ⟨by kernel_rfl, by (intro w hSw; (try dsimp only at hSw); go_simp; first | done | with_reducible rfl)⟩) (by assumption) ?_
                    (try simp only [List.getElem_toArray, List.getElem_cons_succ, List.getElem_cons_zero, Act.put, List.setIfInBounds_toArray, List.set_cons_zero, List.set_cons_succ])
                    refine wpAnyH_take (i := 19) (oi := { dst := some 270, op := .pick (.tmp 257) (.const (Value.bool true)) (.tmp 269), type := 4, pos := "outright.go:45", after := #[{ on := 6, ground := .data }, { on := 18, ground := .data }], guard := none }) (v := _) rfl (by as_aux_lemma => kernel_rfl) (by as_aux_lemma => kernel_rfl) (by as_aux_lemma => kernel_rfl) (fun _ _ _ h => h) (Or.inl ⟨by kernel_rfl, by (intro w hSw; (try dsimp only at hSw); go_simp; first | done | with_reducible rfl)⟩) (by assumption) ?_
                    (try simp only [List.getElem_toArray, List.getElem_cons_succ, List.getElem_cons_zero, Act.put, List.setIfInBounds_toArray, List.set_cons_zero, List.set_cons_succ])
                    refine wpAnyH_done (by as_aux_lemma => kernel_rfl) ?_ _
                    go_wp2
                    go_roundw
                    case rel => exact ⟨j + 1, by omega, by go_num, Lib.hid (HKd.out.trans (HB1.out.mono HKd.out.size))⟩
                    case measure => simp [intOf]; omega
            · as_aux_lemma =>
                obtain rfl : j = k := by omega
                have HBk : Hid (Below w.heap.size w wr) := Lib.hid (HB7.out.trans (HK7.out.mono HB7.out.size))
                clear HK HK7 HOc HO7 HBc HBb HBa LFT CIF EN EX BS2 HEL HES LB1 LC3 LC4
                go_wp2_with fail
                (with_reducible refine (SM.out _).mono ?_)
                rintro e' wd ⟨rfl, hbd⟩
                obtain ⟨o1, n2, n3⟩ := new_id wd I
                have f1 := idA_full I
                have R1 : Hid ((put32 (wd.alloc zeroId) wd.heap.size 0 (idA I)).rowIs wd.heap.size 42 32 (u8V I) ∧ Below w.heap.size w (put32 (wd.alloc zeroId) wd.heap.size 0 (idA I))) := Lib.hid (by
                  have b := HBk.out.trans (hbd.mono HBk.out.size)
                  exact ⟨n2, b.trans (n3.mono b.size)⟩)
                clear n2 n3 hbd SM HBk
                unfold zeroId at o1
                go_upto_region 33 with fail
                change Code.wp _ _ _ _ (put32 (wd.alloc zeroId) wd.heap.size 0 (idA I))
                generalize put32 (wd.alloc zeroId) wd.heap.size 0 (idA I) = we at R1 ⊢
                clear o1
                generalize wd.heap.size = p at R1 ⊢
                have o2 := ok32_of R1.out.1 (off := 0) (by omega)
                have r2 := row32_id R1.out.1
                go_wp2_with fail
                (with_reducible refine (LBL.out _).mono ?_)
                rintro e' wf ⟨rfl, hbf⟩
                have R2 : Hid (wf.rowIs p 42 32 (u8V I) ∧ Below w.heap.size w wf) := Lib.hid ⟨R1.out.1.of_block (hbf.block _ R1.out.1.lt), R1.out.2.trans (hbf.mono R1.out.2.size)⟩
                clear hbf R1 o2 r2
                go_wp2_with fail
                (with_reducible refine (PSM.out _).mono ?_)
                rintro e' wh ⟨rfl, hbh⟩
                obtain ⟨o1, n2, n3⟩ := new_id wh I
                have R3 : Hid ((put32 (wh.alloc zeroId) wh.heap.size 0 (idA I)).rowIs p 42 32 (u8V I) ∧ (put32 (wh.alloc zeroId) wh.heap.size 0 (idA I)).rowIs wh.heap.size 42 32 (u8V I) ∧ Below w.heap.size w (put32 (wh.alloc zeroId) wh.heap.size 0 (idA I))) := Lib.hid (by
                  have a := R2.out.1.of_block (hbh.block _ R2.out.1.lt)
                  have b := R2.out.2.trans (hbh.mono R2.out.2.size)
                  exact ⟨a.of_block (n3.block _ a.lt), n2, b.trans (n3.mono b.size)⟩)
                clear n2 n3 hbh PSM R2
                unfold zeroId at o1
                go_upto_region 34 with fail
                change Code.wp _ _ _ _ (put32 (wh.alloc zeroId) wh.heap.size 0 (idA I))
                generalize put32 (wh.alloc zeroId) wh.heap.size 0 (idA I) = wi at R3 ⊢
                clear o1 f1
                generalize wh.heap.size = q at R3 ⊢
                have KS : Hid (∀ W : World, Below wi.heap.size wi W → ok32 W p 0 = true ∧ row32 W p 0 = idA I ∧ ok32 W q 0 = true ∧ row32 W q 0 = idA I) := Lib.hid (fun W hW => by
                  have a := R3.out.1.of_block (hW.block _ R3.out.1.lt)
                  have b := R3.out.2.1.of_block (hW.block _ R3.out.2.1.lt)
                  exact ⟨ok32_of a (by omega), row32_id a, ok32_of b (by omega), row32_id b⟩)
                obtain ⟨s1, s2, s3, s4⟩ := KS.out _ (Below.refl _ _)
                have hqa : ∀ W, (Op.equalIn 10000 42 (.agg (idA I)) (.agg (idA I))).run Try.prog W = .ok true W := fun W => by rw [eq_ids, eqB_same]
                go_wp2_with fail
                (with_reducible refine (LBL.out _).mono ?_)
                rintro e' wj ⟨rfl, hbn⟩
                have HB1 : Hid (Below wi.heap.size wi wj) := Lib.hid hbn
                clear hbn s1 s2 s3 s4 LBL
                go_wp2_with fail
                (with_reducible refine (FIT.out _).mono ?_)
                rintro e' wk ⟨rfl, hbn⟩
                have HB2 := Lib.hid (HB1.out.trans (hbn.mono HB1.out.size))
                clear hbn FIT
                go_wp2_with fail
                (with_reducible refine (AW.out _).mono ?_)
                rintro e' wl ⟨rfl, hbn⟩
                have HB3 := Lib.hid (HB2.out.trans (hbn.mono HB2.out.size))
                clear hbn AW
                go_wp2
                go_ret
                exact ⟨rfl, R3.out.2.2.trans (HB3.out.mono R3.out.2.2.size)⟩
  · have e1 : (e != 0) = true := by rw [bne_iff_ne]; exact he
    have ea : s.toList.isEmpty = true := LE1.out he
    rcases CO.out with h | h | h
    · exact absurd h he
    · subst h
      clear he CO LE1 LSC LB LF LC1 LC2 BB BA
      go_wp2_with fail
      (with_reducible refine (AW.out _).mono ?_)
      rintro e' w7 ⟨rfl, hb7⟩
      have HB8 := Lib.hid (HB2.out.trans (hb7.mono HB2.out.size))
      clear hb7 AW
      go_wp2
      go_ret
      exact ⟨rfl, HB8.out⟩
    · subst h
      clear he CO LE1 LSC LB LF LC1 LC2 BB BA
      go_wp2_with fail
      (with_reducible refine (AW.out _).mono ?_)
      rintro e' w7 ⟨rfl, hb7⟩
      have HB8 := Lib.hid (HB2.out.trans (hb7.mono HB2.out.size))
      clear hb7 AW
      go_wp2
      go_ret
      exact ⟨rfl, HB8.out⟩
end Go.Proofs.Ytpfccicahfncbaa
