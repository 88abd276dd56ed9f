/- Walk: pack.Build. -/
import Derived.Test.YtpfccicahfncbaaMgPackBack4
namespace Go.Proofs.Ytpfccicahfncbaa
open Go.RowKit Wir Dig
set_option linter.unusedVariables false
set_option linter.unusedSimpArgs false
attribute [local go_sem ↓] execOp_ld32 execOp_st32
attribute [local go_sem] run_ld32 run_st32
/-- What stands between rounds: the builder, the names counted. -/
def PkI (w wr : World) (m k : Nat) (s : ByteArray) (S : List (Array Value)) : Prop :=
  BldIs wr w.heap.size w.heap.size s ∧ SeenC wr m k S ∧ Below w.heap.size w wr ∧ w.heap.size < m
/-- The same within a round: the object's own block is there. -/
def PkQ (w wr W : World) (m k : Nat) (s : ByteArray) (S : List (Array Value)) (o : PObj) : Prop :=
  BldIs W w.heap.size w.heap.size s ∧ SeenC W m k S ∧ Below w.heap.size w W ∧ w.heap.size < m ∧ m < wr.heap.size ∧ W.heap[wr.heap.size]? = some (.cells #[.int .u8 (o.1.toNat : Int), .string o.2] 30 (0, 0))
theorem PkQ.made {w wr : World} {m k : Nat} {s : ByteArray} {S : List (Array Value)} (h : PkI w wr m k s S) (o : PObj) : PkQ w wr (wr.alloc (.cells #[.int .u8 (o.1.toNat : Int), .string o.2] 30)) m k s S o :=
  ⟨h.1.alloc _, h.2.1.below ((Below.refl _ _).alloc (Nat.le_refl _) _), h.2.2.1.alloc h.2.2.1.size _, h.2.2.2, h.2.1.lt, heap_alloc_new wr _⟩
theorem PkQ.below {w wr W W' : World} {m k : Nat} {s : ByteArray} {S : List (Array Value)} {o : PObj} (h : PkQ w wr W m k s S o) (hb : Below W.heap.size W W') : PkQ w wr W' m k s S o := by
  obtain ⟨h1, h2, h3, h4, h5, h6⟩ := h
  exact ⟨h1.below hb, h2.below hb, h3.trans (hb.mono h3.size), h4, h5, (hb.block _ (Array.getElem?_eq_some_iff.1 h6).1).trans h6⟩
/-- Where the map alone is written, twice: all but the map. -/
theorem PkQ.grown2 {w wr W W1 W' : World} {m k k' : Nat} {s : ByteArray} {S S' : List (Array Value)} {o : PObj} (h : PkQ w wr W m k s S o) (hg : W.grownBy W1 (some m)) (hm1 : ∃ es clock, W1.heap[m]? = some (.map es clock)) (hg' : W1.grownBy W' (some m)) (hs : SeenC W' m k' S') : PkQ w wr W' m k' s S' o := by
  obtain ⟨h1, h2, h3, h4, h5, h6⟩ := h
  obtain ⟨es, clock, hm⟩ := h2.map_block
  obtain ⟨es1, clock1, hm1⟩ := hm1
  have h7 := (hg.block _ (Array.getElem?_eq_some_iff.1 h6).1 (fun e => by injection e with e; omega)).trans h6
  exact ⟨(h1.map hm hg).map hm1 hg', hs, below_grown (below_grown h3 hg (fun g e => by injection e with e; omega)) hg' (fun g e => by injection e with e; omega), h4, h5, (hg'.block _ (Array.getElem?_eq_some_iff.1 h7).1 (fun e => by injection e with e; omega)).trans h7⟩
theorem PkQ.cells {w wr W : World} {m k : Nat} {s : ByteArray} {S : List (Array Value)} {o : PObj} (h : PkQ w wr W m k s S o) : W.cell? ⟨wr.heap.size, 0, none⟩ = some (.int .u8 (o.1.toNat : Int)) ∧ W.cell? ⟨wr.heap.size, 1, none⟩ = some (.string o.2) :=
  ⟨by rw [Lib.cell_of_heap h.2.2.2.2.2]; rfl, by rw [Lib.cell_of_heap h.2.2.2.2.2]; rfl⟩
set_option maxRecDepth 100000 in
set_option maxHeartbeats 1000000 in
theorem build_any (A : Option Addr) (n c : Nat) (l : List PObj) (w : World) (B : Nat) (hr : Reads w B 2 A n (objV l)) (hB : B ≤ w.heap.size) (hn : n ≤ 1152921504606846976) (hz : ∀ o ∈ l, o.2.size ≤ 140737488355328) :
    Calls Try.prog 8 #[.slice A n c] w fun e w' => e = .returned (.tuple #[.string (bldR l).1, .int .i64 (bldR l).2]) ∧ Below w.heap.size w w' := by
  have HR := Lib.hid hr
  have HL := Lib.hid hr.objLen
  have HZ := Lib.hid hz
  clear hr hz
  have hmm := run_mk Try.prog 85
  have W0 : Hid (∀ W : World, BldIs W w.heap.size w.heap.size ByteArray.empty → w.heap.size ≤ W.heap.size → Calls Try.prog 31 #[.pointer (some ⟨w.heap.size, 0, none⟩), .string ⟨#[109, 112, 107, 49]⟩] W fun e w' => e = .returned (.tuple #[.int .i64 4, .nilIface]) ∧ BldIs w' w.heap.size w.heap.size markPk ∧ Below w.heap.size W w') := Lib.hid (fun W hb hs => (writeString_any w.heap.size w.heap.size ByteArray.empty markPk W hb (by decide) hs).mono (by
    rintro e w' ⟨rfl, h1, h2, _⟩
    exact ⟨rfl, by rw [ByteArray.empty_append] at h1; exact h1, h2⟩))
  have N0 := Lib.hid (bld_new w _ rfl)
  go_enter Try.func8, Try.ntmps8
  go_wp2_with fail
  (with_reducible refine (W0.out _ N0.out (by simp)).mono ?_)
  rintro e w1 ⟨rfl, hb1, hw1⟩
  have HB1 := Lib.hid hb1
  have HW1 : Hid (Below w.heap.size w w1) := Lib.hid (((Below.refl _ _).alloc (Nat.le_refl _) _).trans hw1)
  have HLT : Hid (w.heap.size < w1.heap.size) := Lib.hid (Nat.lt_of_lt_of_le (by simp) hw1.size)
  clear hb1 hw1 W0 N0
  go_wp2_with fail
  clear hmm
  obtain ⟨m, hm⟩ : ∃ m, w1.heap.size = m := ⟨_, rfl⟩
  have HM0 : Hid (PkI w (w1.alloc (.map #[] 0)) m 0 markPk []) := Lib.hid (by
    rw [← hm]; exact ⟨HB1.out.alloc _, SeenC.made w1, HW1.out.alloc HW1.out.size _, HLT.out⟩)
  clear HB1 HW1 HLT
  rw [hm]
  generalize w1.alloc (.map #[] 0) = w2 at HM0 ⊢
  clear hm
  go_loopw [16] (fun i wr => ∃ (k : Nat) (s : ByteArray) (S : List (Array Value)), k ≤ n ∧ i = .int .i64 k ∧ Hid (PkI w wr m k s S ∧ bldR l = bldF k s S (l.drop k)) ∧ s.size ≤ 67108864 ∧ k ≤ 65536) (fun i _ => n - (intOf i).toNat)
  case atStart => exact ⟨0, markPk, [], by omega, rfl, Lib.hid ⟨HM0.out, rfl⟩, by decide, by omega⟩
  case round =>
    obtain ⟨k, s, S, hk, rfl, HK, hss, hk6⟩ := hrel
    have hle := HK.out.1.2.2.1.size
    by_cases hlt : k < n
    · obtain ⟨ad, hkl, rfl, hbl, hc0, hc1⟩ := obj_cells HR.out k hlt
      have ED := Lib.hid (drop_cons l k hkl)
      have hz1 := HZ.out _ (List.getElem_mem hkl)
      have hC0 : Hid (∀ W : World, Below w.heap.size w W → W.cell? (ad.add (k * 2)) = some (.int .u8 ((l[k]).1.toNat : Int)) ∧ W.cell? ⟨(ad.add (k * 2)).block, (ad.add (k * 2)).off + 1, none⟩ = some (.string (l[k]).2)) := Lib.hid (fun W hW => by
        show _ ∧ W.cell? ((ad.add (k * 2)).add 1) = _
        rw [hW.cell (by rw [block_of_add]; omega), hW.cell (by rw [block_of_add, block_of_add]; omega)]; exact ⟨hc0, hc1⟩)
      obtain ⟨o, ho⟩ : ∃ o, l[k] = o := ⟨_, rfl⟩
      rw [ho] at hz1 hC0 ED
      obtain ⟨x0, x1⟩ := hC0.out wr HK.out.1.2.2.1
      have hki : (k : Int) < (n : Int) := by omega
      clear hc0 hc1 ho hkl
      have C3 : Hid (∀ W, Calls Try.prog 33 #[.int .i64 ((k : Int) + 1)] W fun e w' => e = .returned (.string (trlB (k + 1))) ∧ Below W.heap.size W w') := Lib.hid (fun W => by
        have := trailer_any (k + 1) W (by omega)
        rw [show ((k + 1 : Nat) : Int) = (k : Int) + 1 from by omega] at this
        exact this)
      have hts := (trlB_size (k + 1)).2
      have HTT := Lib.hid (rfl : trlB (k + 1) = trlB (k + 1))
      obtain ⟨t, ht⟩ : ∃ t, trlB (k + 1) = t := ⟨_, rfl⟩
      rw [ht] at hts C3
      have HTR := Lib.hid ht
      clear ht HTT
      go_upto_region 7 with fail
      have HQ : Hid (PkQ w wr (wr.alloc (.cells #[.int .u8 (o.1.toNat : Int), .string o.2] 30)) m k s S o) := Lib.hid (PkQ.made HK.out.1 o)
      have HQB : Hid (Below wr.heap.size wr (wr.alloc (.cells #[.int .u8 (o.1.toNat : Int), .string o.2] 30))) := Lib.hid ((Below.refl _ _).alloc (Nat.le_refl _) _)
      generalize wr.alloc (.cells #[.int .u8 (o.1.toNat : Int), .string o.2] 30) = wo at HQ HQB ⊢
      have SA := HQ.out.cells.2
      have LEN := Lib.hid (bldLen_any w.heap.size w.heap.size s wo.drew HQ.out.1)
      have v1 : IntKind.i64.wrap ((s.size : Int) + 8) = (s.size : Int) + 8 := wrap_small _ (by omega)
      have v2 : IntKind.i64.wrap ((s.size : Int) + 8 + 1) = (s.size : Int) + 8 + 1 := wrap_small _ (by omega)
      have v3 : IntKind.i64.wrap ((s.size : Int) + 8 + 1 + (o.2.size : Int)) = (s.size : Int) + 8 + 1 + (o.2.size : Int) := wrap_small _ (by omega)
      have v4 : IntKind.i64.wrap ((s.size : Int) + 8 + 1 + (o.2.size : Int) + (t.size : Int)) = (s.size : Int) + 8 + 1 + (o.2.size : Int) + (t.size : Int) := wrap_small _ (by omega)
      have v5 : IntKind.i64.wrap ((k : Int) + 1) = (k : Int) + 1 := wrap_small _ (by omega)
      clear x0 x1
      refine wp_region_held_drew (S := fun w' => w'.cell? ⟨wr.heap.size, 1, none⟩ = some (.string o.2)) (by kernel_rfl) (by first | exact SB | exact SA) (fun hHeld => ?_)
      refine wpAnyH_take (i := 3) (oi := _) (v := _) rfl (by as_aux_lemma => kernel_rfl) (by as_aux_lemma => kernel_rfl) (by as_aux_lemma => kernel_rfl) (fun _ _ _ h => h) (Or.inl ⟨by kernel_rfl, by (intro w hSw; (try dsimp only at hSw); go_simp; first | done | with_reducible rfl)⟩) (by assumption) ?_
      (try simp only [Act.put, List.setIfInBounds_toArray, List.set_cons_zero, List.set_cons_succ])
      refine wpAnyH_take (i := 4) (oi := _) (v := _) rfl (by as_aux_lemma => kernel_rfl) (by as_aux_lemma => kernel_rfl) (by as_aux_lemma => kernel_rfl) (fun _ _ _ h => h) (Or.inl ⟨by kernel_rfl, by (intro w hSw; (try dsimp only at hSw); go_simp; first | done | with_reducible rfl)⟩) (by assumption) ?_
      (try simp only [Act.put, List.setIfInBounds_toArray, List.set_cons_zero, List.set_cons_succ])
      refine wpAnyH_take (i := 5) (oi := _) (v := _) rfl (by as_aux_lemma => kernel_rfl) (by as_aux_lemma => kernel_rfl) (by as_aux_lemma => kernel_rfl) (fun _ _ _ h => h) (Or.inl ⟨by kernel_rfl, by (intro w hSw; (try dsimp only at hSw); go_simp; first | done | with_reducible rfl)⟩) (by assumption) ?_
      (try simp only [Act.put, List.setIfInBounds_toArray, List.set_cons_zero, List.set_cons_succ])
      refine wpAnyH_take (i := 7) (oi := _) (v := _) rfl (by as_aux_lemma => kernel_rfl) (by as_aux_lemma => kernel_rfl) (by as_aux_lemma => kernel_rfl) (fun _ _ _ h => h) (Or.inl ⟨by kernel_rfl, by (intro w hSw; (try dsimp only at hSw); go_simp; first | done | with_reducible rfl)⟩) (by assumption) ?_
      (try simp only [Act.put, List.setIfInBounds_toArray, List.set_cons_zero, List.set_cons_succ])
      refine wpAnyH_take (i := 8) (oi := _) (v := _) rfl (by as_aux_lemma => kernel_rfl) (by as_aux_lemma => kernel_rfl) (by as_aux_lemma => kernel_rfl) (fun _ _ _ h => h) (Or.inl ⟨by kernel_rfl, by (intro w hSw; (try dsimp only at hSw); go_simp; first | done | with_reducible rfl)⟩) (by assumption) ?_
      (try simp only [Act.put, List.setIfInBounds_toArray, List.set_cons_zero, List.set_cons_succ])
      refine wpAnyH_ready (rs := [0]) (by as_aux_lemma => kernel_rfl) (by simp) (AllReadyH.cons rfl (fun K hK => ?_) AllReadyH.nil)
      try simp only [List.getElem_toArray, List.getElem_cons_succ, List.getElem_cons_zero]
      go_simp
      (with_reducible refine LEN.out.mono ?_)
      rintro e w' ⟨rfl, rfl⟩
      go_simp
      refine hK.out _ _ (by first | exact SB | exact SA) (fun hHeld => ?_)
      clear hK K
      (try simp only [Act.put, List.setIfInBounds_toArray, List.set_cons_zero, List.set_cons_succ])
      refine wpAnyH_take (i := 1) (oi := _) (v := _) rfl (by as_aux_lemma => kernel_rfl) (by as_aux_lemma => kernel_rfl) (by as_aux_lemma => kernel_rfl) (fun _ _ _ h => h) (Or.inl ⟨by kernel_rfl, by (intro w hSw; (try dsimp only at hSw); go_simp; first | done | with_reducible rfl)⟩) (by assumption) ?_
      (try simp only [Act.put, List.setIfInBounds_toArray, List.set_cons_zero, List.set_cons_succ])
      refine wpAnyH_take (i := 2) (oi := _) (v := _) rfl (by as_aux_lemma => kernel_rfl) (by as_aux_lemma => kernel_rfl) (by as_aux_lemma => kernel_rfl) (fun _ _ _ h => h) (Or.inl ⟨by kernel_rfl, by (intro w hSw; (try dsimp only at hSw); go_simp; first | done | with_reducible rfl)⟩) (by assumption) ?_
      (try simp only [Act.put, List.setIfInBounds_toArray, List.set_cons_zero, List.set_cons_succ])
      refine wpAnyH_take (i := 6) (oi := _) (v := _) rfl (by as_aux_lemma => kernel_rfl) (by as_aux_lemma => kernel_rfl) (by as_aux_lemma => kernel_rfl) (fun _ _ _ h => h) (Or.inl ⟨by kernel_rfl, by (intro w hSw; (try dsimp only at hSw); go_simp; first | done | with_reducible rfl)⟩) (by assumption) ?_
      (try simp only [Act.put, List.setIfInBounds_toArray, List.set_cons_zero, List.set_cons_succ])
      refine wpAnyH_ready (rs := [9]) (by as_aux_lemma => kernel_rfl) (by simp) (AllReadyH.cons rfl (fun K hK => ?_) AllReadyH.nil)
      try simp only [List.getElem_toArray, List.getElem_cons_succ, List.getElem_cons_zero]
      go_simp
      (with_reducible refine (C3.out _).mono ?_)
      rintro e w3 ⟨rfl, hb3⟩
      have HQ3 : Hid (PkQ w wr w3 m k s S o ∧ Below wr.heap.size wr w3) := Lib.hid ⟨HQ.out.below (((Below.refl _ wo).drew).trans hb3), HQB.out.trans ((((Below.refl _ wo).drew).trans hb3).mono HQB.out.size)⟩
      have SB := HQ3.out.1.cells.2
      clear hb3
      go_simp
      refine hK.out _ _ (by first | exact SB | exact SA) (fun hHeld => ?_)
      clear hK K
      (try simp only [Act.put, List.setIfInBounds_toArray, List.set_cons_zero, List.set_cons_succ])
      refine wpAnyH_take (i := 10) (oi := _) (v := _) rfl (by as_aux_lemma => kernel_rfl) (by as_aux_lemma => kernel_rfl) (by as_aux_lemma => kernel_rfl) (fun _ _ _ h => h) (Or.inl ⟨by kernel_rfl, by (intro w hSw; (try dsimp only at hSw); go_simp; first | done | with_reducible rfl)⟩) (by assumption) ?_
      (try simp only [Act.put, List.setIfInBounds_toArray, List.set_cons_zero, List.set_cons_succ])
      refine wpAnyH_take (i := 11) (oi := _) (v := _) rfl (by as_aux_lemma => kernel_rfl) (by as_aux_lemma => kernel_rfl) (by as_aux_lemma => kernel_rfl) (fun _ _ _ h => h) (Or.inl ⟨by kernel_rfl, by (intro w hSw; (try dsimp only at hSw); go_simp; first | done | with_reducible rfl)⟩) (by assumption) ?_
      (try simp only [Act.put, List.setIfInBounds_toArray, List.set_cons_zero, List.set_cons_succ])
      refine wpAnyH_take (i := 12) (oi := _) (v := _) rfl (by as_aux_lemma => kernel_rfl) (by as_aux_lemma => kernel_rfl) (by as_aux_lemma => kernel_rfl) (fun _ _ _ h => h) (Or.inl ⟨by kernel_rfl, by (intro w hSw; (try dsimp only at hSw); go_simp; first | done | with_reducible rfl)⟩) (by assumption) ?_
      (try simp only [Act.put, List.setIfInBounds_toArray, List.set_cons_zero, List.set_cons_succ])
      refine wpAnyH_done (by as_aux_lemma => kernel_rfl) ?_ _
      have C1 := Lib.hid (fun W => check_any o W (by omega))
      unfold objA at C1
      have HQ3' := HQ3
      obtain ⟨y0, y1⟩ := HQ3.out.1.cells
      clear SA SB LEN v1 v2 v3 v4 v5 C3 HQ HQB
      cases hok : okO o with
      | false =>
        have HB : Hid (bldR l = (ByteArray.empty, 1)) := Lib.hid (by rw [HK.out.2, ED.out]; exact bldF_bad (by unfold badO; rw [hok]; rfl))
        rw [chk_no hok] at C1
        clear hok
        go_wp2_with fail
        (with_reducible refine (C1.out _).mono ?_)
        rintro e w4 ⟨rfl, hb4⟩
        have HQ4 := Lib.hid (HQ3.out.1.below hb4).2.2.1
        clear hb4 C1 y0 y1
        go_wp2
        go_ret2
        exact ⟨by rw [HB.out]; rfl, HQ4.out⟩
      | true =>
        rw [chk_yes hok] at C1
        have BAD : Hid (65536 ≤ k ∨ 67108864 < s.size + (9 + o.2.size) + t.size → bldR l = (ByteArray.empty, 1)) := Lib.hid (fun h => by
          rw [HK.out.2, ED.out]
          refine bldF_bad ?_
          cases hb : badO k s o with
          | true => rfl
          | false => have := (badO_iff k s o).1 hb; rw [HTR.out] at this; omega)
        by_cases h6 : k < 65536
        · by_cases hsz : s.size + (9 + o.2.size) + t.size ≤ 67108864
          · have hno : badO k s o = false := (badO_iff k s o).2 ⟨hok, h6, by rw [HTR.out]; exact hsz⟩
            have HGO := Lib.hid hno
            have HOK := Lib.hid hok
            have hzo := (okO_iff o).1 hok
            clear hno hok BAD hk6
            have C4 : Hid (∀ W, Calls Try.prog 26 #[.int .u8 (o.1.toNat : Int), .string o.2] W fun e w' => e = .returned (.agg (nmA o)) ∧ Below W.heap.size W w') := Lib.hid (fun W => of_any o.1 o.2 W (by omega))
            have hk8 : decide ((65536 : Int) ≤ (k : Int)) = false := by rw [decide_eq_false_iff_not]; omega
            have hk9 : decide ((67108864 : Int) < (s.size : Int) + 8 + 1 + (o.2.size : Int) + (t.size : Int)) = false := by rw [decide_eq_false_iff_not]; omega
            go_wp2_with fail
            (with_reducible refine (C1.out _).mono ?_)
            rintro e w4 ⟨rfl, hb4⟩
            have HQ4 : Hid (PkQ w wr w4 m k s S o) := Lib.hid (HQ3.out.1.below hb4)
            clear hb4 C1 y0 y1
            obtain ⟨y0, y1⟩ := HQ4.out.cells
            go_upto_if 43 with fail
            clear hk8 hk9
            go_wp2_with fail
            (with_reducible refine (C4.out _).mono ?_)
            rintro e w5 ⟨rfl, hb5⟩
            have HQ5 : Hid (PkQ w wr w5 m k s S o) := Lib.hid (HQ4.out.below hb5)
            have Z5 : (w5.alloc zeroId).rowIs w5.heap.size 42 32 (fun _ => .int .u8 0) := zeros_row w5 (T := 42) (c := _) (n := 32) (z := .int .u8 0) (by rfl)
            have HP := Lib.hid (stored o ((Below.refl w5.heap.size w5).alloc (Nat.le_refl _) zeroId) (Nat.le_refl _) Z5)
            have o4 := ok32_of Z5 (Nat.le_refl 32)
            have f1 : full32 (nmA o) = true := idA_full _
            unfold zeroId at o4
            clear hb5 C4 y0 y1 Z5
            go_upto_region 11 with fail
            change Code.wp _ _ _ _ (put32 (w5.alloc zeroId) w5.heap.size 0 (nmA o))
            have HQ6 : Hid (PkQ w wr (put32 (w5.alloc zeroId) w5.heap.size 0 (nmA o)) m k s S o) := Lib.hid (HQ5.out.below HP.out.2.2)
            obtain ⟨g, hg⟩ : ∃ g, w5.heap.size = g := ⟨_, rfl⟩
            have hgm : m < g := by have := HQ5.out.2.1.lt; omega
            rw [hg] at HP HQ6 ⊢
            generalize put32 (w5.alloc zeroId) g 0 (nmA o) = w6 at HP HQ6 ⊢
            have HRW := Lib.hid HP.out.1
            clear HP o4 f1 hg HQ5 HQ4
            obtain ⟨st, w7, w8, e1, e2, e3, e4, e5, e6, e7, e8, _⟩ := SeenC.entry (w := w6.drew) (HQ6.out.2.1.of_block rfl) (nmF o) (by unfold maxLen; omega)
            have e0 := SeenC.look' (w := w6.drew) (HQ6.out.2.1.of_block rfl) (nmF o)
            have hcc := cnt_or S (nmF o)
            have HCC : Hid (cntS S (nmF o) = @ite _ (nmA o ∈ S) (Classical.propDecidable _) 1 0) := Lib.hid rfl
            rw [show idA (nmF o) = nmA o from rfl] at e0 e1 e2 e7 e8
            obtain ⟨c, hc⟩ : ∃ c, cntS S (nmF o) = c := ⟨_, rfl⟩
            rw [hc] at e0 e1 e2 e4 e7 hcc HCC
            clear hc
            have HE3 := Lib.hid e3
            have HE5 := Lib.hid e5
            have HE6 := Lib.hid e6
            have HE7 := Lib.hid e7
            have HE8 := Lib.hid e8
            have R7 : Hid (w7.rowIs g 42 32 (u8V (nmF o))) := Lib.hid (HRW.out.of_block (e3.block g HRW.out.lt (fun e => by injection e with e; omega)))
            have R8 : Hid (w8.rowIs g 42 32 (u8V (nmF o))) := Lib.hid (R7.out.of_block (e5.block g R7.out.lt (fun e => by injection e with e; omega)))
            have vc : IntKind.i64.wrap (c + 1) = c + 1 := wrap_small _ (by omega)
            clear e3 e5 e6 e7 e8
            have SA : ok32 w6.drew g 0 = true ∧ row32 w6.drew g 0 = nmA o := ⟨ok32_of HRW.out (Nat.le_refl 32), row32_id HRW.out⟩
            have SB : ok32 w7 g 0 = true ∧ row32 w7 g 0 = nmA o := ⟨ok32_of R7.out (Nat.le_refl 32), row32_id R7.out⟩
            have SC : ok32 w8 g 0 = true ∧ row32 w8 g 0 = nmA o := ⟨ok32_of R8.out (Nat.le_refl 32), row32_id R8.out⟩
            go_cut [49] (fun v49 wx => v49 = .map (some m) ∧ wx = w8)
            case first =>
              refine wp_region_held_drew (S := fun w' => ok32 w' g 0 = true ∧ row32 w' g 0 = nmA o) (by kernel_rfl) (by first | exact SC | exact SB | exact SA) (fun hHeld => ?_)
              refine wpAnyH_take (i := 0) (oi := _) (v := _) rfl (by as_aux_lemma => kernel_rfl) (by as_aux_lemma => kernel_rfl) (by as_aux_lemma => kernel_rfl) (fun _ _ _ h => h) (Or.inl ⟨by kernel_rfl, by (intro w hSw; (try dsimp only at hSw); go_simp; first | done | with_reducible rfl)⟩) (by assumption) ?_
              (try simp only [Act.put, List.setIfInBounds_toArray, List.set_cons_zero, List.set_cons_succ])
              refine wpAnyH_take (i := 1) (oi := { dst := some 50, op := .load 42 (.tmp 9), type := 42, pos := "pack.go:54", after := #[], guard := none }) (v := _) rfl (by as_aux_lemma => kernel_rfl) (by as_aux_lemma => kernel_rfl) (by as_aux_lemma => kernel_rfl) (fun _ _ _ h => h) (Or.inl ⟨by kernel_rfl, by (intro w hSw; (try dsimp only at hSw); go_simp; first | done | with_reducible rfl)⟩) (by assumption) ?_
              (try simp only [Act.put, List.setIfInBounds_toArray, List.set_cons_zero, List.set_cons_succ])
              refine wpAnyH_ready (rs := [2, 4]) (by as_aux_lemma => kernel_rfl) (by simp) (AllReadyH.cons rfl (fun K hK => ?_) (AllReadyH.cons rfl (fun K hK => ?_) AllReadyH.nil))
              · try simp only [List.getElem_toArray, List.getElem_cons_succ, List.getElem_cons_zero]
                go_simp
                refine hK.out _ _ (by first | exact SC | exact SB | exact SA) (fun hHeld => ?_)
                clear hK K
                (try simp only [Act.put, List.setIfInBounds_toArray, List.set_cons_zero, List.set_cons_succ])
                refine wpAnyH_take (i := 3) (oi := _) (v := _) rfl (by as_aux_lemma => kernel_rfl) (by as_aux_lemma => kernel_rfl) (by as_aux_lemma => kernel_rfl) (fun _ _ _ h => h) (Or.inl ⟨by kernel_rfl, by (intro w hSw; (try dsimp only at hSw); go_simp; first | done | with_reducible rfl)⟩) (by assumption) ?_
                (try simp only [Act.put, List.setIfInBounds_toArray, List.set_cons_zero, List.set_cons_succ])
                refine wpAnyH_ready (rs := [4]) (by as_aux_lemma => kernel_rfl) (by simp) (AllReadyH.cons rfl (fun K hK => ?_) AllReadyH.nil)
                try simp only [List.getElem_toArray, List.getElem_cons_succ, List.getElem_cons_zero]
                go_simp
                refine hK.out _ _ (by first | exact SC | exact SB | exact SA) (fun hHeld => ?_)
                clear hK K
                (try simp only [Act.put, List.setIfInBounds_toArray, List.set_cons_zero, List.set_cons_succ])
                refine wpAnyH_take (i := 5) (oi := _) (v := _) rfl (by as_aux_lemma => kernel_rfl) (by as_aux_lemma => kernel_rfl) (by as_aux_lemma => kernel_rfl) (fun _ _ _ h => h) (Or.inl ⟨by kernel_rfl, by (intro w hSw; (try dsimp only at hSw); go_simp; first | done | with_reducible rfl)⟩) (by assumption) ?_
                (try simp only [Act.put, List.setIfInBounds_toArray, List.set_cons_zero, List.set_cons_succ])
                refine wpAnyH_ready (rs := [6]) (by as_aux_lemma => kernel_rfl) (by simp) (AllReadyH.cons rfl (fun K hK => ?_) AllReadyH.nil)
                try simp only [List.getElem_toArray, List.getElem_cons_succ, List.getElem_cons_zero]
                go_simp
                refine hK.out _ _ (by first | exact SC | exact SB | exact SA) (fun hHeld => ?_)
                clear hK K
                (try simp only [Act.put, List.setIfInBounds_toArray, List.set_cons_zero, List.set_cons_succ])
                refine wpAnyH_done (by as_aux_lemma => kernel_rfl) ?_ _
                go_wp2
                go_meet
                exact ⟨rfl, rfl⟩
              · try simp only [List.getElem_toArray, List.getElem_cons_succ, List.getElem_cons_zero]
                go_simp
                refine hK.out _ _ (by first | exact SC | exact SB | exact SA) (fun hHeld => ?_)
                clear hK K
                (try simp only [Act.put, List.setIfInBounds_toArray, List.set_cons_zero, List.set_cons_succ])
                refine wpAnyH_take (i := 5) (oi := _) (v := _) rfl (by as_aux_lemma => kernel_rfl) (by as_aux_lemma => kernel_rfl) (by as_aux_lemma => kernel_rfl) (fun _ _ _ h => h) (Or.inl ⟨by kernel_rfl, by (intro w hSw; (try dsimp only at hSw); go_simp; first | done | with_reducible rfl)⟩) (by assumption) ?_
                (try simp only [Act.put, List.setIfInBounds_toArray, List.set_cons_zero, List.set_cons_succ])
                refine wpAnyH_ready (rs := [2]) (by as_aux_lemma => kernel_rfl) (by simp) (AllReadyH.cons rfl (fun K hK => ?_) AllReadyH.nil)
                try simp only [List.getElem_toArray, List.getElem_cons_succ, List.getElem_cons_zero]
                go_simp
                refine hK.out _ _ (by first | exact SC | exact SB | exact SA) (fun hHeld => ?_)
                clear hK K
                (try simp only [Act.put, List.setIfInBounds_toArray, List.set_cons_zero, List.set_cons_succ])
                refine wpAnyH_take (i := 3) (oi := _) (v := _) rfl (by as_aux_lemma => kernel_rfl) (by as_aux_lemma => kernel_rfl) (by as_aux_lemma => kernel_rfl) (fun _ _ _ h => h) (Or.inl ⟨by kernel_rfl, by (intro w hSw; (try dsimp only at hSw); go_simp; first | done | with_reducible rfl)⟩) (by assumption) ?_
                (try simp only [Act.put, List.setIfInBounds_toArray, List.set_cons_zero, List.set_cons_succ])
                refine wpAnyH_ready (rs := [6]) (by as_aux_lemma => kernel_rfl) (by simp) (AllReadyH.cons rfl (fun K hK => ?_) AllReadyH.nil)
                try simp only [List.getElem_toArray, List.getElem_cons_succ, List.getElem_cons_zero]
                go_simp
                refine hK.out _ _ (by first | exact SC | exact SB | exact SA) (fun hHeld => ?_)
                clear hK K
                (try simp only [Act.put, List.setIfInBounds_toArray, List.set_cons_zero, List.set_cons_succ])
                refine wpAnyH_done (by as_aux_lemma => kernel_rfl) ?_ _
                go_wp2
                go_meet
                exact ⟨rfl, rfl⟩
            case rest =>
              obtain ⟨rfl, rfl⟩ := hcut
              have HBC : Hid (Below w.heap.size w wc) := Lib.hid (below_grown (below_grown HQ6.out.2.2.1.drew HE3.out (fun g' e => by injection e with e; have := HQ6.out.2.2.2.1; omega)) HE5.out (fun g' e => by injection e with e; have := HQ6.out.2.2.2.1; omega))
              have hl8 := HE7.out wc rfl
              obtain ⟨o8, r8⟩ := SC
              clear SA SB e0 e1 e2 e4 vc
              by_cases hm : nmA o ∈ S
              · have HB : Hid (bldR l = (ByteArray.empty, 7)) := Lib.hid (by rw [HK.out.2, ED.out]; exact bldF_there HGO.out hm)
                obtain rfl : c = 1 := by rw [HCC.out, if_pos hm]
                clear hm hcc HCC
                go_wp2
                go_ret2
                exact ⟨by rw [HB.out]; rfl, HBC.out⟩
              · have HB : Hid (bldR l = bldF (k + 1) (s ++ recB o) (nmA o :: S) (l.drop (k + 1)) ∧ (s ++ recB o).size ≤ 67108864) := Lib.hid ⟨by rw [HK.out.2, ED.out, bldF_on HGO.out hm], by rw [ByteArray.size_append, recB_size]; omega⟩
                obtain rfl : c = 0 := by rw [HCC.out, if_neg hm]
                have HQ8 : Hid (PkQ w wr wc m (k + 1) s (nmA o :: S) o) := Lib.hid ((HQ6.out.below ((Below.refl _ w6).drew)).grown2 HE3.out HE6.out HE5.out (HE8.out hm))
                clear hm hcc HCC HQ6 HE3 HE5 HE6 HE7 HE8 R7 R8 HRW HQ3' HQ3
                obtain ⟨y0, y1⟩ := HQ8.out.cells
                have F := Lib.hid (fun W => frame_any (recS o) W (by rw [recS_size]; omega))
                have E2 : Hid (bs [o.1] ++ o.2 = recS o) := Lib.hid rfl
                rw [show frmB (recS o) = recB o from rfl] at F
                have RC := Lib.hid (fun j hj => byte_conv wc o.1 (o.1.toNat : Int) rfl j hj)
                have HB8 : Hid (Below wc.heap.size wc (wc.alloc (.cells #[.int .u8 (o.1.toNat : Int)] 5))) := Lib.hid ((Below.refl _ _).alloc (Nat.le_refl _) _)
                obtain ⟨y3, y4⟩ := (HQ8.out.below HB8.out).cells
                have hz14 : (bs [o.1]).size = 1 := rfl
                go_wp2_with (with_reducible refine conv_str_wp (e := 5) (by kernel_rfl) (by kernel_rfl) (by kernel_rfl) rfl _ rfl ⟨wc.heap.size, 0, none⟩ 1 1 rfl [o.1] rfl RC.out ?_)
                rw [E2.out]
                generalize wc.alloc (.cells #[.int .u8 (o.1.toNat : Int)] 5) = w9 at HB8 y3 y4 ⊢
                (with_reducible refine (F.out _).mono ?_)
                rintro e w10 ⟨rfl, hb10⟩
                have HQ10 : Hid (PkQ w wr w10 m (k + 1) s (nmA o :: S) o) := Lib.hid (HQ8.out.below (HB8.out.trans (hb10.mono HB8.out.size)))
                clear hb10 F y0 y1 y3 y4 RC hl8 o8 r8
                have W15 := Lib.hid (writeString_any w.heap.size w.heap.size s (recB o) w10 HQ10.out.1 (by rw [recB_size]; omega) HQ10.out.2.2.1.size)
                go_wp2_with fail
                (with_reducible refine W15.out.mono ?_)
                rintro e w11 ⟨rfl, hbl11, hb11, hk11⟩
                have HK' : Hid (PkI w w11 m (k + 1) (s ++ recB o) (nmA o :: S)) := Lib.hid ⟨hbl11, HQ10.out.2.1.others hk11 (by have := HQ10.out.2.2.2.1; omega), HQ10.out.2.2.1.trans hb11, HQ10.out.2.2.2.1⟩
                clear hbl11 hb11 hk11 W15
                go_wp2
                go_roundw
                case rel => exact ⟨k + 1, s ++ recB o, nmA o :: S, by omega, by go_num, Lib.hid ⟨HK'.out, HB.out.1⟩, HB.out.2, by omega⟩
                case measure => simp [intOf]; omega
          · have HB := Lib.hid (BAD.out (Or.inr (by omega)))
            have hk8 : decide ((65536 : Int) ≤ (k : Int)) = false := by rw [decide_eq_false_iff_not]; omega
            have hk9 : decide ((67108864 : Int) < (s.size : Int) + 8 + 1 + (o.2.size : Int) + (t.size : Int)) = true := by rw [decide_eq_true_eq]; omega
            clear BAD hok
            go_wp2_with fail
            (with_reducible refine (C1.out _).mono ?_)
            rintro e w4 ⟨rfl, hb4⟩
            have HQ4 := Lib.hid (HQ3.out.1.below hb4).2.2.1
            clear hb4 C1 y0 y1
            go_upto_if 43 with fail
            clear hk8 hk9
            go_wp2
            go_ret2
            exact ⟨by rw [HB.out]; rfl, HQ4.out⟩
        · have HB := Lib.hid (BAD.out (Or.inl (by omega)))
          have hk8 : decide ((65536 : Int) ≤ (k : Int)) = true := by rw [decide_eq_true_eq]; omega
          clear BAD hok
          go_wp2_with fail
          (with_reducible refine (C1.out _).mono ?_)
          rintro e w4 ⟨rfl, hb4⟩
          have HQ4 := Lib.hid (HQ3.out.1.below hb4).2.2.1
          clear hb4 C1 y0 y1
          go_upto_if 43 with fail
          clear hk8
          go_wp2
          go_ret2
          exact ⟨by rw [HB.out]; rfl, HQ4.out⟩
    · obtain rfl : k = n := by omega
      have HE : Hid (bldR l = (s ++ trlB k, 0)) := Lib.hid (by rw [HK.out.2, List.drop_eq_nil_of_le (by rw [HL.out]; exact Nat.le_refl _)]; rfl)
      have C3 := Lib.hid (fun W => trailer_any k W (by omega))
      have hts := (trlB_size k).2
      obtain ⟨t, ht⟩ : ∃ t, trlB k = t := ⟨_, rfl⟩
      rw [ht] at hts C3 HE
      clear ht
      go_wp2_with fail
      (with_reducible refine (C3.out _).mono ?_)
      rintro e w3 ⟨rfl, hb3⟩
      have HB3 : Hid (BldIs w3 w.heap.size w.heap.size s ∧ Below w.heap.size w w3) := Lib.hid ⟨HK.out.1.1.below hb3, HK.out.1.2.2.1.trans (hb3.mono hle)⟩
      clear hb3 C3
      have W17 := Lib.hid (writeString_any w.heap.size w.heap.size s t w3 HB3.out.1 (by omega) HB3.out.2.size)
      go_wp2_with fail
      (with_reducible refine W17.out.mono ?_)
      rintro e w4 ⟨rfl, hbl4, hb4, _⟩
      have HB4 : Hid (Below w.heap.size w w4) := Lib.hid (HB3.out.2.trans hb4)
      have S18 := Lib.hid (bldString_any w.heap.size w.heap.size (s ++ t) w4 hbl4 HB4.out.size)
      clear hbl4 hb4 W17
      go_wp2_with fail
      (with_reducible refine S18.out.mono ?_)
      rintro e w5 ⟨rfl, hb5⟩
      have HB5 : Hid (Below w.heap.size w w5) := Lib.hid (HB4.out.trans hb5)
      clear hb5 S18
      go_wp2
      go_ret2
      exact ⟨by rw [HE.out]; rfl, HB5.out⟩
end Go.Proofs.Ytpfccicahfncbaa
