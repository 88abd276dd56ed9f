/- Walk: ParityTables. -/
import Derived.Test.YtfoandpcoakcjaaMgParityTablesUpto5
import Derived.Test.YtfoandpcoakcjaaMgParityTablesUpto7
import Derived.Test.YtfoandpcoakcjaaMgParityTablesUpto8
namespace Go.Proofs.Ytfoandpcoakcjaa
open Go.RowKit Wir
set_option linter.unusedVariables false
set_option linter.unusedSimpArgs false
attribute [local go_sem ↓] execOp_ld32 execOp_st32 execOp_bslI
attribute [local go_sem] run_ld32 run_st32 run_bslI
/-- The document's table, as its sums come in. -/
structure PtA (w wr : World) (da pa sz : Int) (L : List Idn) (v : Value) : Prop where
  tab : Blk wr w.heap.size 25 (tblA ⟨da, pa, sz, L⟩ v)
  own : wr.ownsRow (w.heap.size + 1) 27 32 v L.length (idsV L)
  below : Below w.heap.size w wr
section
variable {w wr w' : World} {da pa sz : Int} {L : List Idn} {v : Value}
theorem PtA.mono (h : PtA w wr da pa sz L v) (hb : Below wr.heap.size wr w') : PtA w w' da pa sz L v := ⟨h.tab.below hb h.tab.lt, own_below h.own hb, h.below.trans (hb.mono h.below.size)⟩
theorem PtA.push {v' : Value} {I : Idn} (h : PtA w wr da pa sz L v) (ho : w'.ownsRow (w.heap.size + 1) 27 32 v' (L.length + 1) (idsV L ++ (idA I).toList)) (hg : wr.grownBy w' v.ownBlock) :
    Blk w' w.heap.size 25 (tblA ⟨da, pa, sz, L⟩ v) ∧ Below w.heap.size w w' ∧ PtA w (w'.setCell ⟨w.heap.size, 3, none⟩ v') da pa sz (L ++ [I]) v' := by
  have a1 := h.tab.grown hg (fun e => own_blk_ne h.own h.tab (by decide) e.symm)
  have a4 : Below w.heap.size w w' := h.below.grown hg h.below.size (fun b e => by have := (h.own.lt b e).1; omega)
  have ho2 : w'.ownsRow (w.heap.size + 1) 27 32 v' (L ++ [I]).length (idsV (L ++ [I])) := by
    rw [List.length_append, idsV_app, idsV_single]; exact ho
  refine ⟨a1, a4, a1.set_ 3 v', ?_, a4.setCell (p := ⟨w.heap.size, 3, none⟩) (Nat.le_refl _) _⟩
  exact ho2.kept (only_setCell (grown_refl w' (some w.heap.size)) (p := ⟨w.heap.size, 3, none⟩) (.inl rfl) _) (.inr (own_blk_ne ho2 a1 (by decide)))
end
theorem appendN_src {P : Program} {w : World} {t e : TypeId} {z : Value} {size bytes : Nat} (E : ElemN P t e z size bytes) {ops : Array Oper} {rest : List Oper} {o : Oper} {a : Act} {Q : Exit → Act → World → Prop} (hgd : o.guard = none) (s x : Operand)
    (ho : o.op = .call { callee := .builtin .append, args := #[s, x], argTypes := #[t, t] })
    (base : Nat) (v : Value) (n : Nat) (xs : List Value) (hs : a.eval s = v) (hown : w.ownsRow base e size v n xs) (B : Nat) (A : Option Addr) (m c : Nat) (news : List Value) (hx : a.eval x = .slice A m c) (hr : Reads w B size A m news)
    (h1 : ∀ u ∈ news, u.oneCell' = true) (hn : n + m ≤ 4611686018427387904) (hbytes : (n + m) * bytes ≤ 140737488355328) (hbase : base ≤ w.heap.size)
    (h : ∀ v' w', w'.ownsRow base e size v' (n + m) (xs ++ news) → w.grownBy w' v.ownBlock → wpList P ops Q rest (a.put o.dst v') w') : wpList P ops Q (o :: rest) a w := by
  obtain ⟨i, hi, hz0, hz1, hz2⟩ := E.info
  exact wpList_append_any w hgd s x t ho base e i z size bytes E.ht hi hz0 hz1 hz2 E.hz E.pos v n xs hs hown B A m c news hx hr h1 (by unfold maxLen; omega) hbytes hbase (fun v' w' h2 h3 _ => h v' w' h2 h3)
theorem own_empty (w : World) (T : TypeId) (size : Nat) : (w.alloc (.cells #[] T)).ownsRow w.heap.size T size (.slice (some ⟨w.heap.size, 0, none⟩) 0 0) 0 [] :=
  ⟨by simp, .inr ⟨w.heap.size, 0, #[], rfl, Nat.le_refl _, heap_alloc_new w _, Nat.le_refl _, Nat.zero_le _, by simp, by simp⟩⟩
/-- Both tables, and the program's sums with the mark behind them. -/
structure PtB (w wr : World) (T : Tbl) (v : Value) (pb g n c : Nat) (M : Idn) : Prop where
  t1 : Blk wr w.heap.size 25 (tblA T v)
  i1 : IdR wr wr.heap.size v T.ids
  t2 : Blk wr pb 29 (tblA T (.slice (some ⟨g, 0, none⟩) n c))
  i2 : IdR wr wr.heap.size (.slice (some ⟨g, 0, none⟩) (n + 1) c) (T.ids ++ [M])
  len : T.ids.length = n
  below : Below w.heap.size w wr
theorem PtB.mono {w wr w' : World} {T : Tbl} {v : Value} {pb g n c : Nat} {M : Idn} (h : PtB w wr T v pb g n c M) (hb : Below wr.heap.size wr w') : PtB w w' T v pb g n c M :=
  ⟨h.t1.below hb h.t1.lt, (h.i1.below hb).more hb.size, h.t2.below hb h.t2.lt, (h.i2.below hb).more hb.size, h.len, h.below.trans (hb.mono h.below.size)⟩
theorem PtB.in_ {w wr : World} {T : Tbl} {v : Value} {pb g n c : Nat} {M : Idn} (h : PtB w wr T v pb g n c M) : IdR wr wr.heap.size (.slice (some ⟨g, 0, none⟩) n c) T.ids := by
  have := h.i2.cut (k := n) (by rw [List.length_append, h.len]; exact Nat.le_succ _)
  rwa [List.take_left' h.len] at this
theorem PtB.mark {w wr : World} {T : Tbl} {v : Value} {pb g n c : Nat} {M : Idn} (h : PtB w wr T v pb g n c M) : ok32 wr g (n * 32) = true ∧ row32 wr g (n * 32) = idA M := by
  obtain ⟨g', e, _, h1, h2⟩ := h.i2.at2 (i := n) (by rw [List.length_append, h.len]; exact Nat.lt_succ_self _)
  injection e with e
  injection e with e _ _
  subst e
  refine ⟨h1, h2.trans ?_⟩
  congr 1
  rw [List.getElem_append_right (by rw [h.len]; exact Nat.le_refl _)]
  simp
/-- A row of names of one's own, whatever it holds. -/
def OwnL (w : World) (lo : Nat) (v : Value) (m : Nat) : Prop := ∃ xs, w.ownsRow lo 27 32 v m xs
theorem OwnL.put {w : World} {lo m i g c : Nat} (h : OwnL w lo (.slice (some ⟨g, 0, none⟩) m c) m) (hi : i < m) (I : Idn) : ok32 w g (i * 32) = true ∧ OwnL (put32 w g (i * 32) (idA I)) lo (.slice (some ⟨g, 0, none⟩) m c) m ∧ w.grownBy (put32 w g (i * 32) (idA I)) (some g) ∧ lo ≤ g := by
  obtain ⟨xs, h1, h2⟩ := h
  rcases h2 with ⟨h2, _⟩ | ⟨g', c', cur, e, hb, hg, hc, hm, hs, ht⟩
  · cases h2
  · injection e with e1 e2 e3
    injection e1 with e1
    injection e1 with e1 _ _
    subst e1 e3
    have r : w.rowIs g 27 (c * 32) (fun k => cur.toList.getD k undef) := ⟨cur, hg, hs, fun j hj => by
      show cur[j]? = some (cur.toList.getD j undef)
      rw [List.getD_eq_getElem?_getD, Array.getElem?_toList, Array.getElem?_eq_getElem (by omega)]; rfl⟩
    obtain ⟨q1, q2⟩ := put32_row r (i * 32) (idA I) (by omega) (idA_full I)
    refine ⟨ok32_of r (by omega), ?_, q2, hb⟩
    obtain ⟨cu, k1, k2, _⟩ := q1
    exact ⟨cu.toList.take (m * 32), by rw [List.length_take, Array.length_toList, k2]; omega, .inr ⟨g, c, cu, rfl, hb, k1, hc, hm, k2, rfl⟩⟩
theorem OwnL.slice {w : World} {lo m : Nat} {v : Value} (h : OwnL w lo v m) : ∃ A c, v = .slice A m c := by
  obtain ⟨xs, h⟩ := h
  obtain ⟨A, c, e, _⟩ := own_reads h
  exact ⟨A, c, e⟩
/-- What was read, three times: once by the document, twice by the program; the second answer's sums are written over. -/
structure PtD (w wr : World) (T : Tbl) (v1 v3 vl : Value) (ub wb m lo hi : Nat) : Prop where
  u : Blk wr ub 25 (tblA T v1)
  iu : IdR wr lo v1 T.ids
  t : Blk wr wb 29 (tblA T v3)
  ow : wr.ownsRow hi 27 32 v3 T.ids.length (idsV T.ids)
  ol : OwnL wr lo vl m
  ne : ∀ g, vl.ownBlock = some g → v3.ownBlock ≠ some g
  below : Below w.heap.size w wr
  ord : w.heap.size ≤ lo ∧ lo ≤ wr.heap.size
theorem PtD.mono {w wr w' : World} {T : Tbl} {v1 v3 vl : Value} {ub wb m lo hi : Nat} (h : PtD w wr T v1 v3 vl ub wb m lo hi) (hb : Below wr.heap.size wr w') : PtD w w' T v1 v3 vl ub wb m lo hi := by
  obtain ⟨xs, ho⟩ := h.ol
  exact ⟨h.u.below hb h.u.lt, h.iu.below (hb.mono h.ord.2), h.t.below hb h.t.lt, own_below h.ow hb, ⟨xs, own_below ho hb⟩, h.ne, h.below.trans (hb.mono h.below.size), h.ord.1, Nat.le_trans h.ord.2 hb.size⟩
/-- The row that is written over is written, or appended to. -/
theorem PtD.write {w wr w' : World} {T : Tbl} {v1 v3 vl vl' : Value} {ub wb m m' lo hi : Nat} (h : PtD w wr T v1 v3 vl ub wb m lo hi) (hol : OwnL w' lo vl' m') (hg : wr.grownBy w' vl.ownBlock)
    (hne : ∀ g, vl'.ownBlock = some g → v3.ownBlock ≠ some g) : PtD w w' T v1 v3 vl' ub wb m' lo hi := by
  obtain ⟨xs, ho⟩ := h.ol
  have hge : ∀ g, vl.ownBlock = some g → lo ≤ g := fun g e => (ho.lt g e).1
  have ne1 (g : Nat) (T' : TypeId) (cs : Array Value) (hb : Blk wr g T' cs) (hT : 27 ≠ T') : some g ≠ vl.ownBlock := fun e => own_blk_ne ho hb hT e.symm
  refine ⟨h.u.grown hg (ne1 _ _ _ h.u (by decide)), ?_, h.t.grown hg (ne1 _ _ _ h.t (by decide)), ?_, hol, hne, h.below.grown hg h.below.size (fun g e => Nat.le_trans h.ord.1 (hge g e)), h.ord.1, Nat.le_trans h.ord.2 hg.size⟩
  · rcases h.iu with e | ⟨g, c, N, f, e1, e2, e3, e4⟩
    · exact .inl e
    · exact .inr ⟨g, c, N, f, e1, e2, e3.of_block (hg.block g (Nat.lt_of_lt_of_le e2 h.ord.2) (fun e => by have := hge g e.symm; omega)), e4⟩
  · refine h.ow.kept hg ?_
    cases hv : vl.ownBlock with
    | none =>
      cases h3 : v3.ownBlock with
      | none => exact .inl rfl
      | some g => exact .inr (by intro e; cases e)
    | some g => exact .inr (h.ne g hv)
/-- What the checks read. -/
def PtS (W : World) (rb pb g k c : Nat) (da pa sz : Int) (v : Value) (M : Idn) : Prop :=
  W.cell? ⟨pb, 0, none⟩ = some (.int .i64 da) ∧ W.cell? ⟨pb, 1, none⟩ = some (.int .i64 pa) ∧ W.cell? ⟨pb, 2, none⟩ = some (.int .i64 sz) ∧ W.cell? ⟨pb, 3, none⟩ = some (.slice (some ⟨g, 0, none⟩) k c) ∧ W.cell? ⟨rb, 3, none⟩ = some v ∧ ok32 W g (k * 32) = true ∧ row32 W g (k * 32) = idA M
theorem PtB.holds {w wr : World} {da pa sz : Int} {L : List Idn} {v : Value} {pb g n c : Nat} {M : Idn} (h : PtB w wr ⟨da, pa, sz, L⟩ v pb g n c M) : PtS wr w.heap.size pb g n c da pa sz v M := by
  obtain ⟨c0, c1, c2, c3⟩ := tbl_cells h.t2
  obtain ⟨_, _, _, d3⟩ := tbl_cells h.t1
  obtain ⟨m1, m2⟩ := h.mark
  exact ⟨c0, c1, c2, c3, d3, m1, m2⟩
theorem decR_len (x : ByteArray) : (decR x).1.ids.length ≤ 64 := by
  cases hu : unF x with
  | none => rw [decR_none hu]; exact Nat.zero_le _
  | some y =>
    obtain ⟨p, r⟩ := y
    rw [decR_some hu]
    split
    · split
      · next h =>
        unfold sayR at h ⊢
        by_cases hb : sayB p = true
        · rw [if_pos hb]
          show (sumsF _ _).length ≤ 64
          rw [sumsF_length]
          unfold sayB at hb
          simp only [Bool.and_eq_true, decide_eq_true_eq] at hb
          have := (uniB_iff _ _).1 hb.2.2.1
          omega
        · rw [if_neg hb]; exact Nat.zero_le _
      · exact Nat.zero_le _
    · exact Nat.zero_le _
theorem encR_size (t : Tbl) : (encR t).1.size ≤ 5000 := by
  unfold encR
  split
  · next h =>
    have h1 := tblS_size h
    show (frmB (tblS t)).size ≤ _
    have h2 : (frmB (tblS t)).size = 8 + (tblS t).size := frmB_size _
    omega
  · exact Nat.zero_le _
def spB : ByteArray := ⟨#[115, 112, 111, 105, 108, 116]⟩
def bhB : ByteArray := ⟨#[98, 101, 104, 105, 110, 100]⟩
def mkB : ByteArray := ⟨#[109, 97, 114, 107]⟩
def sumL (ss : List ByteArray) : List Idn := ss.map byteAt
set_option maxRecDepth 100000 in
set_option maxHeartbeats 8000000 in
theorem parityTables_walk (da pa sz : Int) (A : Option Addr) (n c : Nat) (ss : List ByteArray) (s whole sum name : ByteArray) {w : World}
    (hd1 : -9223372036854775808 ≤ da) (hd2 : da ≤ 9223372036854775807) (hp1 : -9223372036854775808 ≤ pa) (hp2 : pa ≤ 9223372036854775807) (hz1 : -9223372036854775808 ≤ sz) (hz2 : sz ≤ 9223372036854775807)
    (hr : Reads w w.heap.size 1 A n (strV ss)) (hz : ∀ x ∈ ss, x.size ≤ 140737488355328) (hn : n * 64 ≤ 140737488355328) (hs : s.size ≤ 140737488351232) (hw : whole.size ≤ 140737488351232) (hu : sum.size ≤ 140737488351232) (hm : name.size ≤ 140737488351232) :
    Calls Try.prog 3 #[.int .i64 da, .int .i64 pa, .int .i64 sz, .slice A n c, .string s, .string whole, .string sum, .string name] w fun e w' => e = .returned (.bool true) ∧ Below w.heap.size w w' := by
  have HR := Lib.hid hr
  have HZ := Lib.hid hz
  have HL := Lib.hid hr.len
  clear hr hz
  have HA0 : Hid (PtA w (w.alloc (.cells (tblA ⟨da, pa, sz, []⟩ (.slice none 0 0)) 25)) da pa sz [] (.slice none 0 0)) := Lib.hid ⟨Blk.new _ _ _, World.ownsRow_nil _ _ _ _, (Below.refl _ _).alloc (Nat.le_refl _) _⟩
  go_enter Try.func3, Try.ntmps3
  go_upto_region 2 with fail
  change Code.wp _ _ _ _ (w.alloc (.cells (tblA ⟨da, pa, sz, []⟩ (.slice none 0 0)) 25))
  generalize w.alloc (.cells (tblA ⟨da, pa, sz, []⟩ (.slice none 0 0)) 25) = w1 at HA0 ⊢
  go_wp2_with fail
  go_loopw [18] (fun i wr => ∃ (k : Nat) (v : Value), k ≤ n ∧ i = .int .i64 k ∧ Hid (PtA w wr da pa sz (sumL (ss.take k)) v)) (fun i _ => n - (intOf i).toNat)
  case atStart => exact ⟨0, .slice none 0 0, by omega, rfl, HA0⟩
  case round =>
    obtain ⟨k, v, hk, rfl, HK⟩ := hrel
    by_cases hlt : k < n
    · as_aux_lemma =>
      obtain ⟨ad, u0, rfl, hb, hu0, hc0⟩ := HR.out.at_ hlt
      have hkl : k < ss.length := by rw [HL.out]; exact hlt
      rw [strV_get _ k hkl] at hu0
      rw [← Option.some.inj hu0] at hc0
      have hxz := HZ.out _ (List.getElem_mem hkl)
      have hlk : (sumL (ss.take k)).length = k := by unfold sumL; rw [List.length_map, List.length_take]; omega
      have HSUM : Hid (sumL (ss.take (k + 1)) = sumL (ss.take k) ++ [byteAt ss[k]]) := Lib.hid (by unfold sumL; rw [List.take_add_one, List.getElem?_eq_getElem hkl, List.map_append]; rfl)
      have KS : Hid (∀ W, Below w.heap.size w W → W.cell? (ad.add k) = some (.string ss[k])) := Lib.hid (fun W hW => by rw [hW.cell (by rw [block_of_add]; exact hb)]; exact hc0)
      obtain ⟨x, hx⟩ : ∃ x, ss[k] = x := ⟨_, rfl⟩
      rw [hx] at KS HSUM hxz
      have IDF := Lib.hid (fun W => idF_any x W (by omega))
      obtain ⟨I, hI⟩ : ∃ I : Idn, byteAt x = I := ⟨_, rfl⟩
      rw [hI] at IDF HSUM
      generalize hLL : sumL (ss.take k) = LL at *
      have HSUM2 : Hid (sumL (ss.take (k + 1)) = LL ++ [I]) := HSUM
      clear hu0 hc0 hx hI hkl hLL HSUM u0
      obtain ⟨Av, cv, rfl, hRv⟩ := own_reads HK.out.own
      clear hRv
      have HK2 : Hid (PtA w wr da pa sz LL (.slice Av k cv)) := Lib.hid (by have h := HK.out; rw [hlk] at h; exact h)
      clear HK
      have HOW : Hid (∀ W, Below wr.heap.size wr W → W.ownsRow (w.heap.size + 1) 27 32 (.slice Av k cv) k (idsV LL) ∧ W.cell? ⟨w.heap.size, 3, none⟩ = some (.slice Av k cv) ∧ w.heap.size + 1 ≤ W.heap.size) := Lib.hid (fun W hW => by
        have h := HK2.out.mono hW
        have := h.own
        rw [hlk] at this
        exact ⟨this, h.tab.cell 3, h.tab.lt⟩)
      have HPP : Hid (∀ W, Below wr.heap.size wr W → ∀ v' w', w'.ownsRow (w.heap.size + 1) 27 32 v' (k + 1) (idsV LL ++ (idA I).toList) → W.grownBy w' (Value.slice Av k cv).ownBlock → Blk w' w.heap.size 25 (tblA ⟨da, pa, sz, LL⟩ (.slice Av k cv)) ∧ Below w.heap.size w w' ∧ PtA w (w'.setCell ⟨w.heap.size, 3, none⟩ v') da pa sz (sumL (ss.take (k + 1))) v') := Lib.hid (fun W hW v' w' ho hg => by
        rw [HSUM2.out]
        exact (HK2.out.mono hW).push (by rw [hlk]; exact ho) hg)
      have f1 := idA_full I
      have HONE := Lib.hid (idA_ones I)
      have HSZ := Lib.hid (idA_size I)
      have hk1 : k ≤ 4611686018427387904 := by omega
      have hk2 : (k + 1) * 32 ≤ 140737488355328 := by omega
      have hki : (k : Int) < (n : Int) := by omega
      have hk0 : (0 : Int) ≤ (k : Int) := by omega
      have HBW := Lib.hid HK2.out.below
      clear HSUM2 hlk HK2
      go_upto_region 5 with fail
      have HB0 : Hid (Below wr.heap.size wr wr.drew) := Lib.hid (Below.refl _ _).drew
      have SA := KS.out _ (HBW.out.trans (HB0.out.mono HBW.out.size))
      obtain ⟨_, d0, _⟩ := HOW.out _ HB0.out
      refine wp_region_held_drew (S := fun w' => w'.cell? (ad.add k) = some (.string x)) (by kernel_rfl) (by first | exact SA | exact SB | exact SC | exact SD | exact SE) (fun hHeld => ?_)
      refine wpAnyH_take (i := 0) (oi := { dst := some 53, op := .fieldAddr 25 (.tmp 17) 3, type := 0, pos := "law.go:30", after := #[], guard := none }) (v := _) rfl (by as_aux_lemma => kernel_rfl) (by as_aux_lemma => kernel_rfl) (by as_aux_lemma => kernel_rfl) (fun _ _ _ h => h) (Or.inl ⟨by kernel_rfl, by (intro w hSw; (try dsimp only at hSw); go_simp; first | done | with_reducible rfl)⟩) (by assumption) ?_
      (try simp only [List.getElem_toArray, List.getElem_cons_succ, List.getElem_cons_zero, Act.put, List.setIfInBounds_toArray, List.set_cons_zero, List.set_cons_succ])
      refine wpAnyH_take (i := 2) (oi := { dst := some 55, op := .move (.tmp 3), type := 22, pos := "law.go:30", after := #[], guard := none }) (v := _) rfl (by as_aux_lemma => kernel_rfl) (by as_aux_lemma => kernel_rfl) (by as_aux_lemma => kernel_rfl) (fun _ _ _ h => h) (Or.inl ⟨by kernel_rfl, by (intro w hSw; (try dsimp only at hSw); go_simp; first | done | with_reducible rfl)⟩) (by assumption) ?_
      (try simp only [List.getElem_toArray, List.getElem_cons_succ, List.getElem_cons_zero, Act.put, List.setIfInBounds_toArray, List.set_cons_zero, List.set_cons_succ])
      refine wpAnyH_take (i := 3) (oi := { dst := some 56, op := .move (.tmp 18), type := 3, pos := "law.go:30", after := #[], guard := none }) (v := _) rfl (by as_aux_lemma => kernel_rfl) (by as_aux_lemma => kernel_rfl) (by as_aux_lemma => kernel_rfl) (fun _ _ _ h => h) (Or.inl ⟨by kernel_rfl, by (intro w hSw; (try dsimp only at hSw); go_simp; first | done | with_reducible rfl)⟩) (by assumption) ?_
      (try simp only [List.getElem_toArray, List.getElem_cons_succ, List.getElem_cons_zero, Act.put, List.setIfInBounds_toArray, List.set_cons_zero, List.set_cons_succ])
      refine wpAnyH_take (i := 4) (oi := { dst := some 57, op := .indexAddr 22 (.tmp 55) (.tmp 56), type := 0, pos := "law.go:30", after := #[{ on := 2, ground := .data }, { on := 3, ground := .data }], guard := none }) (v := _) rfl (by as_aux_lemma => kernel_rfl) (by as_aux_lemma => kernel_rfl) (by as_aux_lemma => kernel_rfl) (fun _ _ _ h => h) (Or.inl ⟨by kernel_rfl, by (intro w hSw; (try dsimp only at hSw); go_simp; first | done | with_reducible rfl)⟩) (by assumption) ?_
      (try simp only [List.getElem_toArray, List.getElem_cons_succ, List.getElem_cons_zero, Act.put, List.setIfInBounds_toArray, List.set_cons_zero, List.set_cons_succ])
      refine wpAnyH_take (i := 5) (oi := { dst := some 58, op := .load 9 (.tmp 57), type := 9, pos := "law.go:30", after := #[{ on := 4, ground := .data }], guard := none }) (v := _) rfl (by as_aux_lemma => kernel_rfl) (by as_aux_lemma => kernel_rfl) (by as_aux_lemma => kernel_rfl) (fun _ _ _ h => h) (Or.inl ⟨by kernel_rfl, by (intro w hSw; (try dsimp only at hSw); go_simp; first | done | with_reducible rfl)⟩) (by assumption) ?_
      (try simp only [List.getElem_toArray, List.getElem_cons_succ, List.getElem_cons_zero, Act.put, List.setIfInBounds_toArray, List.set_cons_zero, List.set_cons_succ])
      refine wpAnyH_ready (rs := [1, 6]) (by as_aux_lemma => kernel_rfl) (by simp) (AllReadyH.cons rfl (fun K hK => ?_) (AllReadyH.cons rfl (fun K hK => ?_) AllReadyH.nil))
      · as_aux_lemma =>
          try simp only [List.getElem_toArray, List.getElem_cons_succ, List.getElem_cons_zero]
          go_simp
          refine hK.out _ _ (by first | exact SA | exact SB | exact SC | exact SD | exact SE) (fun hHeld => ?_)
          clear hK K
          (try simp only [List.getElem_toArray, List.getElem_cons_succ, List.getElem_cons_zero, Act.put, List.setIfInBounds_toArray, List.set_cons_zero, List.set_cons_succ])
          refine wpAnyH_ready (rs := [6]) (by as_aux_lemma => kernel_rfl) (by simp) (AllReadyH.cons rfl (fun K hK => ?_) AllReadyH.nil)
          try simp only [List.getElem_toArray, List.getElem_cons_succ, List.getElem_cons_zero]
          go_simp
          go_at_call 5
          refine (IDF.out _).mono ?_
          rintro e wn ⟨rfl, hbn⟩
          have HB1 : Hid (Below wr.heap.size wr wn) := Lib.hid (HB0.out.trans (hbn.mono HB0.out.size))
          have HB2 : Hid (Below wr.heap.size wr (wn.alloc (.cells (idA I) 27))) := Lib.hid (HB1.out.alloc HB1.out.size _)
          have SB := KS.out _ (HBW.out.trans (HB1.out.mono HBW.out.size))
          have SC := KS.out _ (HBW.out.trans (HB2.out.mono HBW.out.size))
          obtain ⟨_, d1, _⟩ := HOW.out _ HB1.out
          obtain ⟨_, d2, _⟩ := HOW.out _ HB2.out
          clear hbn
          go_simp
          refine hK.out _ _ (by first | exact SA | exact SB | exact SC | exact SD | exact SE) (fun hHeld => ?_)
          clear hK K
          (try simp only [List.getElem_toArray, List.getElem_cons_succ, List.getElem_cons_zero, Act.put, List.setIfInBounds_toArray, List.set_cons_zero, List.set_cons_succ])
          refine wpAnyH_ready (rs := [7]) (by as_aux_lemma => kernel_rfl) (by simp) (AllReadyH.cons rfl (fun K hK => ?_) AllReadyH.nil)
          try simp only [List.getElem_toArray, List.getElem_cons_succ, List.getElem_cons_zero]
          go_simp
          refine hK.out _ _ (by first | exact SA | exact SB | exact SC | exact SD | exact SE) (fun hHeld => ?_)
          clear hK K
          (try simp only [List.getElem_toArray, List.getElem_cons_succ, List.getElem_cons_zero, Act.put, List.setIfInBounds_toArray, List.set_cons_zero, List.set_cons_succ])
          refine wpAnyH_ready (rs := [8]) (by as_aux_lemma => kernel_rfl) (by simp) (AllReadyH.cons rfl (fun K hK => ?_) AllReadyH.nil)
          try simp only [List.getElem_toArray, List.getElem_cons_succ, List.getElem_cons_zero]
          rw [if_pos (by as_aux_lemma => kernel_rfl)]
          change Oper.wp _ _ _ (wn.alloc (.cells (idA I) 27)) _ _
          refine wp_appendN elemId _ _ rfl (w.heap.size + 1) (.slice Av k cv) k _ rfl (HOW.out _ HB1.out).1 (idA I) HSZ.out rfl HONE.out hk1 hk2 (HOW.out _ HB1.out).2.2 ?_
          intro v' w' ho hg hd
          clear hd
          obtain ⟨gg, cg, rfl, hcg⟩ := own_slI ho (Nat.succ_pos _)
          have HQ := Lib.hid (HPP.out _ HB1.out _ w' ho hg)
          clear ho hg
          have SD := KS.out _ HQ.out.2.1
          have SE := KS.out _ HQ.out.2.2.below
          have k3 : w'.cell? ⟨w.heap.size, 3, none⟩ = some (.slice Av k cv) := HQ.out.1.cell 3
          have f3 : w'.frozen? ⟨w.heap.size, 3, none⟩ = false := HQ.out.1.frozen 3
          refine hK.out _ _ (by first | exact SA | exact SB | exact SC | exact SD | exact SE) (fun hHeld => ?_)
          clear hK K
          (try simp only [List.getElem_toArray, List.getElem_cons_succ, List.getElem_cons_zero, Act.put, List.setIfInBounds_toArray, List.set_cons_zero, List.set_cons_succ])
          refine wpAnyH_take (i := 9) (oi := { dst := some 62, op := .fieldAddr 25 (.tmp 17) 3, type := 0, pos := "law.go:30", after := #[{ on := 0, ground := .phase }, { on := 1, ground := .phase }, { on := 2, ground := .phase }, { on := 3, ground := .phase }, { on := 4, ground := .phase }, { on := 5, ground := .phase }, { on := 6, ground := .phase }, { on := 7, ground := .phase }, { on := 8, ground := .phase }], guard := none }) (v := _) rfl (by as_aux_lemma => kernel_rfl) (by as_aux_lemma => kernel_rfl) (by as_aux_lemma => kernel_rfl) (fun _ _ _ h => h) (Or.inl ⟨by kernel_rfl, by (intro w hSw; (try dsimp only at hSw); go_simp; first | done | with_reducible rfl)⟩) (by assumption) ?_
          (try simp only [List.getElem_toArray, List.getElem_cons_succ, List.getElem_cons_zero, Act.put, List.setIfInBounds_toArray, List.set_cons_zero, List.set_cons_succ])
          refine wpAnyH_ready (rs := [10]) (by as_aux_lemma => kernel_rfl) (by simp) (AllReadyH.cons rfl (fun K hK => ?_) AllReadyH.nil)
          try simp only [List.getElem_toArray, List.getElem_cons_succ, List.getElem_cons_zero]
          go_simp
          refine hK.out _ _ (by first | exact SA | exact SB | exact SC | exact SD | exact SE) (fun hHeld => ?_)
          clear hK K
          (try simp only [List.getElem_toArray, List.getElem_cons_succ, List.getElem_cons_zero, Act.put, List.setIfInBounds_toArray, List.set_cons_zero, List.set_cons_succ])
          refine wpAnyH_done (by as_aux_lemma => kernel_rfl) ?_ _
          go_wp2
          go_roundw
          case rel => exact ⟨k + 1, .slice (some ⟨gg, 0, none⟩) (k + 1) cg, by omega, by go_num, Lib.hid HQ.out.2.2⟩
          case measure => simp [intOf]; omega
      · as_aux_lemma =>
          try simp only [List.getElem_toArray, List.getElem_cons_succ, List.getElem_cons_zero]
          go_simp
          go_at_call 5
          refine (IDF.out _).mono ?_
          rintro e wn ⟨rfl, hbn⟩
          have HB1 : Hid (Below wr.heap.size wr wn) := Lib.hid (HB0.out.trans (hbn.mono HB0.out.size))
          have HB2 : Hid (Below wr.heap.size wr (wn.alloc (.cells (idA I) 27))) := Lib.hid (HB1.out.alloc HB1.out.size _)
          have SB := KS.out _ (HBW.out.trans (HB1.out.mono HBW.out.size))
          have SC := KS.out _ (HBW.out.trans (HB2.out.mono HBW.out.size))
          obtain ⟨_, d1, _⟩ := HOW.out _ HB1.out
          obtain ⟨_, d2, _⟩ := HOW.out _ HB2.out
          clear hbn
          go_simp
          refine hK.out _ _ (by first | exact SA | exact SB | exact SC | exact SD | exact SE) (fun hHeld => ?_)
          clear hK K
          (try simp only [List.getElem_toArray, List.getElem_cons_succ, List.getElem_cons_zero, Act.put, List.setIfInBounds_toArray, List.set_cons_zero, List.set_cons_succ])
          refine wpAnyH_ready (rs := [1, 7]) (by as_aux_lemma => kernel_rfl) (by simp) (AllReadyH.cons rfl (fun K hK => ?_) (AllReadyH.cons rfl (fun K hK => ?_) AllReadyH.nil))
          · as_aux_lemma =>
              try simp only [List.getElem_toArray, List.getElem_cons_succ, List.getElem_cons_zero]
              go_simp
              refine hK.out _ _ (by first | exact SA | exact SB | exact SC | exact SD | exact SE) (fun hHeld => ?_)
              clear hK K
              (try simp only [List.getElem_toArray, List.getElem_cons_succ, List.getElem_cons_zero, Act.put, List.setIfInBounds_toArray, List.set_cons_zero, List.set_cons_succ])
              refine wpAnyH_ready (rs := [7]) (by as_aux_lemma => kernel_rfl) (by simp) (AllReadyH.cons rfl (fun K hK => ?_) AllReadyH.nil)
              try simp only [List.getElem_toArray, List.getElem_cons_succ, List.getElem_cons_zero]
              go_simp
              refine hK.out _ _ (by first | exact SA | exact SB | exact SC | exact SD | exact SE) (fun hHeld => ?_)
              clear hK K
              (try simp only [List.getElem_toArray, List.getElem_cons_succ, List.getElem_cons_zero, Act.put, List.setIfInBounds_toArray, List.set_cons_zero, List.set_cons_succ])
              refine wpAnyH_ready (rs := [8]) (by as_aux_lemma => kernel_rfl) (by simp) (AllReadyH.cons rfl (fun K hK => ?_) AllReadyH.nil)
              try simp only [List.getElem_toArray, List.getElem_cons_succ, List.getElem_cons_zero]
              rw [if_pos (by as_aux_lemma => kernel_rfl)]
              change Oper.wp _ _ _ (wn.alloc (.cells (idA I) 27)) _ _
              refine wp_appendN elemId _ _ rfl (w.heap.size + 1) (.slice Av k cv) k _ rfl (HOW.out _ HB1.out).1 (idA I) HSZ.out rfl HONE.out hk1 hk2 (HOW.out _ HB1.out).2.2 ?_
              intro v' w' ho hg hd
              clear hd
              obtain ⟨gg, cg, rfl, hcg⟩ := own_slI ho (Nat.succ_pos _)
              have HQ := Lib.hid (HPP.out _ HB1.out _ w' ho hg)
              clear ho hg
              have SD := KS.out _ HQ.out.2.1
              have SE := KS.out _ HQ.out.2.2.below
              have k3 : w'.cell? ⟨w.heap.size, 3, none⟩ = some (.slice Av k cv) := HQ.out.1.cell 3
              have f3 : w'.frozen? ⟨w.heap.size, 3, none⟩ = false := HQ.out.1.frozen 3
              refine hK.out _ _ (by first | exact SA | exact SB | exact SC | exact SD | exact SE) (fun hHeld => ?_)
              clear hK K
              (try simp only [List.getElem_toArray, List.getElem_cons_succ, List.getElem_cons_zero, Act.put, List.setIfInBounds_toArray, List.set_cons_zero, List.set_cons_succ])
              refine wpAnyH_take (i := 9) (oi := { dst := some 62, op := .fieldAddr 25 (.tmp 17) 3, type := 0, pos := "law.go:30", after := #[{ on := 0, ground := .phase }, { on := 1, ground := .phase }, { on := 2, ground := .phase }, { on := 3, ground := .phase }, { on := 4, ground := .phase }, { on := 5, ground := .phase }, { on := 6, ground := .phase }, { on := 7, ground := .phase }, { on := 8, ground := .phase }], guard := none }) (v := _) rfl (by as_aux_lemma => kernel_rfl) (by as_aux_lemma => kernel_rfl) (by as_aux_lemma => kernel_rfl) (fun _ _ _ h => h) (Or.inl ⟨by kernel_rfl, by (intro w hSw; (try dsimp only at hSw); go_simp; first | done | with_reducible rfl)⟩) (by assumption) ?_
              (try simp only [List.getElem_toArray, List.getElem_cons_succ, List.getElem_cons_zero, Act.put, List.setIfInBounds_toArray, List.set_cons_zero, List.set_cons_succ])
              refine wpAnyH_ready (rs := [10]) (by as_aux_lemma => kernel_rfl) (by simp) (AllReadyH.cons rfl (fun K hK => ?_) AllReadyH.nil)
              try simp only [List.getElem_toArray, List.getElem_cons_succ, List.getElem_cons_zero]
              go_simp
              refine hK.out _ _ (by first | exact SA | exact SB | exact SC | exact SD | exact SE) (fun hHeld => ?_)
              clear hK K
              (try simp only [List.getElem_toArray, List.getElem_cons_succ, List.getElem_cons_zero, Act.put, List.setIfInBounds_toArray, List.set_cons_zero, List.set_cons_succ])
              refine wpAnyH_done (by as_aux_lemma => kernel_rfl) ?_ _
              go_wp2
              go_roundw
              case rel => exact ⟨k + 1, .slice (some ⟨gg, 0, none⟩) (k + 1) cg, by omega, by go_num, Lib.hid HQ.out.2.2⟩
              case measure => simp [intOf]; omega
          · as_aux_lemma =>
              try simp only [List.getElem_toArray, List.getElem_cons_succ, List.getElem_cons_zero]
              go_simp
              refine hK.out _ _ (by first | exact SA | exact SB | exact SC | exact SD | exact SE) (fun hHeld => ?_)
              clear hK K
              (try simp only [List.getElem_toArray, List.getElem_cons_succ, List.getElem_cons_zero, Act.put, List.setIfInBounds_toArray, List.set_cons_zero, List.set_cons_succ])
              refine wpAnyH_ready (rs := [1]) (by as_aux_lemma => kernel_rfl) (by simp) (AllReadyH.cons rfl (fun K hK => ?_) AllReadyH.nil)
              try simp only [List.getElem_toArray, List.getElem_cons_succ, List.getElem_cons_zero]
              go_simp
              refine hK.out _ _ (by first | exact SA | exact SB | exact SC | exact SD | exact SE) (fun hHeld => ?_)
              clear hK K
              (try simp only [List.getElem_toArray, List.getElem_cons_succ, List.getElem_cons_zero, Act.put, List.setIfInBounds_toArray, List.set_cons_zero, List.set_cons_succ])
              refine wpAnyH_ready (rs := [8]) (by as_aux_lemma => kernel_rfl) (by simp) (AllReadyH.cons rfl (fun K hK => ?_) AllReadyH.nil)
              try simp only [List.getElem_toArray, List.getElem_cons_succ, List.getElem_cons_zero]
              rw [if_pos (by as_aux_lemma => kernel_rfl)]
              change Oper.wp _ _ _ (wn.alloc (.cells (idA I) 27)) _ _
              refine wp_appendN elemId _ _ rfl (w.heap.size + 1) (.slice Av k cv) k _ rfl (HOW.out _ HB1.out).1 (idA I) HSZ.out rfl HONE.out hk1 hk2 (HOW.out _ HB1.out).2.2 ?_
              intro v' w' ho hg hd
              clear hd
              obtain ⟨gg, cg, rfl, hcg⟩ := own_slI ho (Nat.succ_pos _)
              have HQ := Lib.hid (HPP.out _ HB1.out _ w' ho hg)
              clear ho hg
              have SD := KS.out _ HQ.out.2.1
              have SE := KS.out _ HQ.out.2.2.below
              have k3 : w'.cell? ⟨w.heap.size, 3, none⟩ = some (.slice Av k cv) := HQ.out.1.cell 3
              have f3 : w'.frozen? ⟨w.heap.size, 3, none⟩ = false := HQ.out.1.frozen 3
              refine hK.out _ _ (by first | exact SA | exact SB | exact SC | exact SD | exact SE) (fun hHeld => ?_)
              clear hK K
              (try simp only [List.getElem_toArray, List.getElem_cons_succ, List.getElem_cons_zero, Act.put, List.setIfInBounds_toArray, List.set_cons_zero, List.set_cons_succ])
              refine wpAnyH_take (i := 9) (oi := { dst := some 62, op := .fieldAddr 25 (.tmp 17) 3, type := 0, pos := "law.go:30", after := #[{ on := 0, ground := .phase }, { on := 1, ground := .phase }, { on := 2, ground := .phase }, { on := 3, ground := .phase }, { on := 4, ground := .phase }, { on := 5, ground := .phase }, { on := 6, ground := .phase }, { on := 7, ground := .phase }, { on := 8, ground := .phase }], guard := none }) (v := _) rfl (by as_aux_lemma => kernel_rfl) (by as_aux_lemma => kernel_rfl) (by as_aux_lemma => kernel_rfl) (fun _ _ _ h => h) (Or.inl ⟨by kernel_rfl, by (intro w hSw; (try dsimp only at hSw); go_simp; first | done | with_reducible rfl)⟩) (by assumption) ?_
              (try simp only [List.getElem_toArray, List.getElem_cons_succ, List.getElem_cons_zero, Act.put, List.setIfInBounds_toArray, List.set_cons_zero, List.set_cons_succ])
              refine wpAnyH_ready (rs := [10]) (by as_aux_lemma => kernel_rfl) (by simp) (AllReadyH.cons rfl (fun K hK => ?_) AllReadyH.nil)
              try simp only [List.getElem_toArray, List.getElem_cons_succ, List.getElem_cons_zero]
              go_simp
              refine hK.out _ _ (by first | exact SA | exact SB | exact SC | exact SD | exact SE) (fun hHeld => ?_)
              clear hK K
              (try simp only [List.getElem_toArray, List.getElem_cons_succ, List.getElem_cons_zero, Act.put, List.setIfInBounds_toArray, List.set_cons_zero, List.set_cons_succ])
              refine wpAnyH_done (by as_aux_lemma => kernel_rfl) ?_ _
              go_wp2
              go_roundw
              case rel => exact ⟨k + 1, .slice (some ⟨gg, 0, none⟩) (k + 1) cg, by omega, by go_num, Lib.hid HQ.out.2.2⟩
              case measure => simp [intOf]; omega
    · obtain rfl : k = n := by omega
      have hLn : (sumL (ss.take k)).length = k := by unfold sumL; rw [List.length_map, List.length_take, HL.out, Nat.min_self]
      generalize sumL (ss.take k) = LL at *
      obtain ⟨Av, cv, rfl, hRv⟩ := own_reads HK.out.own
      have HK2 : Hid (PtA w wr da pa sz LL (.slice Av k cv)) := Lib.hid (by have h := HK.out; rw [hLn] at h; exact h)
      have HLN := Lib.hid hLn
      rw [hLn] at hRv
      have HRV : Hid (Reads (wr.alloc (.cells #[] 27)) wr.heap.size 32 Av k (idsV LL)) := Lib.hid (hRv.alloc (Nat.le_refl _) _)
      have HOE := Lib.hid (own_empty wr 27 32)
      have HONE := Lib.hid (idsV_one LL)
      obtain ⟨t0, t1, t2, t3⟩ := tbl_cells HK2.out.tab
      have k3 : (wr.alloc (.cells #[] 27)).cell? ⟨w.heap.size, 3, none⟩ = some (.slice Av k cv) := (HK2.out.tab.alloc _).cell 3
      have HIDM := Lib.hid (fun W => idF_any mkB W (by decide))
      obtain ⟨MK, hMK⟩ : ∃ I : Idn, byteAt mkB = I := ⟨_, rfl⟩
      rw [hMK] at HIDM
      unfold mkB at HIDM
      have hk1 : 0 + k ≤ 4611686018427387904 := by omega
      have hk2 : (0 + k) * 32 ≤ 140737488355328 := by omega
      have HOE2 : Hid (wr.heap.size ≤ (wr.alloc (.cells #[] 27)).heap.size) := Lib.hid (by simp)
      have HBE : Hid (Below wr.heap.size wr (wr.alloc (.cells #[] 27))) := Lib.hid ((Below.refl _ _).alloc (Nat.le_refl _) _)
      clear hRv HK hLn hMK hk hlt
      go_wp2_with (at_builtin; refine appendN_src elemId rfl _ _ rfl wr.heap.size (.slice (some ⟨wr.heap.size, 0, none⟩) 0 0) 0 [] (by rfl) HOE.out wr.heap.size Av k cv (idsV LL) (by rfl) HRV.out HONE.out hk1 hk2 HOE2.out ?_; intro v1 w2 ho1 hg1; have HO1 := Lib.hid ho1; have HB2 := Lib.hid (below_own HBE.out HOE.out hg1); clear ho1 hg1)
      (with_reducible refine (HIDM.out _).mono ?_)
      rintro e w3 ⟨rfl, hb3⟩
      have HO3 : Hid (w3.ownsRow wr.heap.size 27 32 v1 k (idsV LL)) := Lib.hid (by
        have := own_below HO1.out hb3
        simpa using this)
      have HB3 : Hid (Below wr.heap.size wr w3) := Lib.hid (HB2.out.trans (hb3.mono HB2.out.size))
      have hle3 : Hid (wr.heap.size ≤ w3.heap.size) := Lib.hid HB3.out.size
      have f1 := idA_full MK
      have HSZM := Lib.hid (idA_size MK)
      have HONM := Lib.hid (idA_ones MK)
      have hk3 : k ≤ 4611686018427387904 := by omega
      have hk4 : (k + 1) * 32 ≤ 140737488355328 := by omega
      clear hb3 HO1 HB2 t0 t1 t2 t3 k3 HRV HONE HOE HOE2 HBE hk1 hk2
      go_upto_region 8 with (at_builtin; refine appendN_new elemId rfl _ _ rfl wr.heap.size v1 k _ (by rfl) HO3.out (idA MK) HSZM.out (by rfl) HONM.out hk3 hk4 hle3.out ?_; intro v2 w4 ho2 hg2 hd; clear hd; obtain ⟨g2, c2, rfl, hc2⟩ := own_slI ho2 (Nat.succ_pos _); have HO4 := Lib.hid ho2; have HB4 := Lib.hid (below_own HB3.out HO3.out hg2); clear ho2 hg2)
      have hck : (k : Int) ≤ (c2 : Int) := by omega
      have hk0 : (0 : Int) ≤ (k : Int) := by omega
      have HPB : Hid (PtB w (w4.alloc (.cells (tblA ⟨da, pa, sz, LL⟩ (.slice (some ⟨g2, 0, none⟩) k c2)) 29)) ⟨da, pa, sz, LL⟩ (.slice Av k cv) w4.heap.size g2 k c2 MK) := Lib.hid (by
        have hA := HK2.out.mono HB4.out
        have i1 : IdR w4 w4.heap.size (.slice Av k cv) LL := by
          have := hA.own
          rw [HLN.out] at this
          exact IdR.of_own (base := w.heap.size + 1) (by rw [HLN.out]; exact this)
        have i2 : IdR w4 w4.heap.size (.slice (some ⟨g2, 0, none⟩) (k + 1) c2) (LL ++ [MK]) := by
          have h : w4.ownsRow wr.heap.size 27 32 (.slice (some ⟨g2, 0, none⟩) (k + 1) c2) (LL ++ [MK]).length (idsV (LL ++ [MK])) := by
            rw [List.length_append, HLN.out, idsV_app, idsV_single]; exact HO4.out
          exact IdR.of_own h
        have b := (Below.refl w4.heap.size w4).alloc (Nat.le_refl _) (.cells (tblA ⟨da, pa, sz, LL⟩ (.slice (some ⟨g2, 0, none⟩) k c2)) 29)
        exact ⟨hA.tab.alloc _, (i1.below b).more b.size, Blk.new _ _ _, (i2.below b).more b.size, HLN.out, hA.below.alloc hA.below.size _⟩)
      clear HO4 HB4 HO3 HB3 hle3 HK2 f1 HSZM HONM hk3 hk4
      go_upto_region 9 with fail
      change Code.wp _ _ _ _ (w4.alloc (.cells (tblA ⟨da, pa, sz, LL⟩ (.slice (some ⟨g2, 0, none⟩) k c2)) 29))
      generalize w4.alloc (.cells (tblA ⟨da, pa, sz, LL⟩ (.slice (some ⟨g2, 0, none⟩) k c2)) 29) = w5 at HPB ⊢
      generalize w4.heap.size = pb at HPB ⊢
      -- Encode, by the document and by the program
      obtain ⟨t0, t1, t2, t3⟩ := tbl_cells HPB.out.t1
      have E1 := Lib.hid (rencode_any ⟨da, pa, sz, LL⟩ (.slice Av k cv) w5 w5.heap.size HPB.out.i1 (Nat.le_refl _))
      obtain ⟨⟨want, we⟩, hwant⟩ : ∃ x, encR ⟨da, pa, sz, LL⟩ = x := ⟨_, rfl⟩
      have HWZ : want.size ≤ 5000 := by
        have := congrArg Prod.fst hwant
        dsimp only at this
        rw [← this]
        exact encR_size _
      rw [hwant] at E1
      go_wp2_with fail
      change Calls _ _ #[.agg (tblA ⟨da, pa, sz, LL⟩ (.slice Av k cv))] _ _
      (with_reducible refine E1.out.mono ?_)
      rintro e w6 ⟨rfl, hb6⟩
      have HP6 := Lib.hid (HPB.out.mono hb6)
      clear hb6 HPB E1 t0 t1 t2 t3
      obtain ⟨t0, t1, t2, t3⟩ := tbl_cells HP6.out.t2
      have E2 := Lib.hid (tencode_any ⟨da, pa, sz, LL⟩ (.slice (some ⟨g2, 0, none⟩) k c2) w6 w6.heap.size HP6.out.in_ (Nat.le_refl _))
      rw [hwant] at E2
      clear hwant
      go_wp2_with fail
      change Calls _ _ #[.agg (tblA ⟨da, pa, sz, LL⟩ (.slice (some ⟨g2, 0, none⟩) k c2))] _ _
      (with_reducible refine E2.out.mono ?_)
      rintro e w7 ⟨rfl, hb7⟩
      have HP7 := Lib.hid (HP6.out.mono hb7)
      clear hb7 HP6 E2 t0 t1 t2 t3
      obtain ⟨t0, t1, t2, t3⟩ := tbl_cells HP7.out.t1
      have MY := Lib.hid (fun W => rmay_any ⟨da, pa, sz, LL⟩ Av cv W)
      dsimp only at MY
      rw [HLN.out] at MY
      go_wp2_with fail
      change Calls _ _ #[.agg (tblA ⟨da, pa, sz, LL⟩ (.slice Av k cv))] _ _
      (with_reducible refine (MY.out _).mono ?_)
      rintro e w8 ⟨rfl, hb8⟩
      have HP8 := Lib.hid (HP7.out.mono hb8)
      clear hb8 HP7 MY t0 t1 t2 t3
      have TC := Lib.hid (fun W => tchk_any ⟨da, pa, sz, LL⟩ (some ⟨g2, 0, none⟩) c2 W)
      dsimp only at TC
      rw [HLN.out] at TC
      have HCK : Hid (chkT ⟨da, pa, sz, LL⟩ = if mayB ⟨da, pa, sz, LL⟩ = true then 0 else 1) := Lib.hid rfl
      obtain ⟨ck, hck'⟩ : ∃ x, chkT ⟨da, pa, sz, LL⟩ = x := ⟨_, rfl⟩
      rw [hck'] at TC HCK
      clear hck'
      go_upto_if 92 with fail
      go_cut [26] (fun v26 wx => v26 = .int .i64 ck ∧ wx = w8)
      case first =>
        generalize mayB ⟨da, pa, sz, LL⟩ = mb at *
        cases mb with
        | true =>
          have HC : Hid (ck = 0) := HCK
          go_wp2
          go_meet
          exact ⟨by rw [HC.out], rfl⟩
        | false =>
          have HC : Hid (ck = 1) := HCK
          go_wp2
          go_meet
          exact ⟨by rw [HC.out], rfl⟩
      case rest =>
        obtain ⟨rfl, rfl⟩ := hcut
        have KS : Hid (∀ W, Below wc.heap.size wc W → PtS W w.heap.size pb g2 k c2 da pa sz (.slice Av k cv) MK) := Lib.hid (fun W hW => (HP8.out.mono hW).holds)
        have RIF : Hid (∀ W, Below wc.heap.size wc W → Calls Try.prog 10 #[.slice (some ⟨g2, 0, none⟩) k c2, .slice Av k cv] W fun e w' => e = .returned (.bool true) ∧ Below W.heap.size W w') := Lib.hid (fun W hW => by
          have h := HP8.out.mono hW
          exact rids_any _ _ LL W W.heap.size h.in_ h.i1 (by rw [HLN.out]; omega))
        have b1 : (want.toList == want.toList) = true := beq_self_eq_true _
        have b2 : (we != we) = false := bne_self_eq_false _
        have b3 : (ck != ck) = false := bne_self_eq_false _
        have b4 := eq_ids MK MK
        rw [eqB_same] at b4
        have hkk : (k : Int) < (k : Int) + 1 := by omega
        go_upto_region 14 with fail
        have HB0 : Hid (Below wc.heap.size wc wc.drew) := Lib.hid (Below.refl _ _).drew
        have SA := KS.out _ HB0.out
        unfold PtS at SA
        refine wp_region_held_drew (S := fun w' => w'.cell? ⟨pb, 0, none⟩ = some (.int .i64 da) ∧ w'.cell? ⟨pb, 1, none⟩ = some (.int .i64 pa) ∧ w'.cell? ⟨pb, 2, none⟩ = some (.int .i64 sz) ∧ w'.cell? ⟨pb, 3, none⟩ = some (.slice (some ⟨g2, 0, none⟩) k c2) ∧ w'.cell? ⟨w.heap.size, 3, none⟩ = some (.slice Av k cv) ∧ ok32 w' g2 (k * 32) = true ∧ row32 w' g2 (k * 32) = idA MK) (by kernel_rfl) (by first | exact SA | exact SB | exact SC | exact SD) (fun hHeld => ?_)
        refine wpAnyH_take (i := 0) (oi := { dst := some 93, op := .move (.tmp 24), type := 9, pos := "law.go:41", after := #[], guard := none }) (v := _) rfl (by as_aux_lemma => kernel_rfl) (by as_aux_lemma => kernel_rfl) (by as_aux_lemma => kernel_rfl) (fun _ _ _ h => h) (Or.inl ⟨by kernel_rfl, by (intro w hSw; (try dsimp only at hSw); go_simp; first | done | with_reducible rfl)⟩) (by assumption) ?_
        (try simp only [List.getElem_toArray, List.getElem_cons_succ, List.getElem_cons_zero, Act.put, List.setIfInBounds_toArray, List.set_cons_zero, List.set_cons_succ])
        refine wpAnyH_take (i := 1) (oi := { dst := some 94, op := .move (.tmp 22), type := 9, pos := "law.go:41", after := #[], guard := none }) (v := _) rfl (by as_aux_lemma => kernel_rfl) (by as_aux_lemma => kernel_rfl) (by as_aux_lemma => kernel_rfl) (fun _ _ _ h => h) (Or.inl ⟨by kernel_rfl, by (intro w hSw; (try dsimp only at hSw); go_simp; first | done | with_reducible rfl)⟩) (by assumption) ?_
        (try simp only [List.getElem_toArray, List.getElem_cons_succ, List.getElem_cons_zero, Act.put, List.setIfInBounds_toArray, List.set_cons_zero, List.set_cons_succ])
        refine wpAnyH_take (i := 2) (oi := { dst := some 95, op := .binOp BinOp.neq 9 (.tmp 93) (.tmp 94) 9, type := 4, pos := "law.go:41", after := #[{ on := 0, ground := .data }, { on := 1, ground := .data }], guard := none }) (v := _) rfl (by as_aux_lemma => kernel_rfl) (by as_aux_lemma => kernel_rfl) (by as_aux_lemma => kernel_rfl) (fun _ _ _ h => h) (Or.inl ⟨by kernel_rfl, by (intro w hSw; (try dsimp only at hSw); go_simp; first | done | with_reducible rfl)⟩) (by assumption) ?_
        (try simp only [List.getElem_toArray, List.getElem_cons_succ, List.getElem_cons_zero, Act.put, List.setIfInBounds_toArray, List.set_cons_zero, List.set_cons_succ])
        refine wpAnyH_take (i := 3) (oi := { dst := some 96, op := .move (.tmp 95), type := 4, pos := "law.go:41", after := #[{ on := 2, ground := .data }], guard := none }) (v := _) rfl (by as_aux_lemma => kernel_rfl) (by as_aux_lemma => kernel_rfl) (by as_aux_lemma => kernel_rfl) (fun _ _ _ h => h) (Or.inl ⟨by kernel_rfl, by (intro w hSw; (try dsimp only at hSw); go_simp; first | done | with_reducible rfl)⟩) (by assumption) ?_
        (try simp only [List.getElem_toArray, List.getElem_cons_succ, List.getElem_cons_zero, Act.put, List.setIfInBounds_toArray, List.set_cons_zero, List.set_cons_succ])
        refine wpAnyH_take (i := 4) (oi := { dst := some 97, op := .move (.tmp 25), type := 30, pos := "law.go:41", after := #[{ on := 3, ground := .guard }], guard := some (3, false) }) (v := _) rfl (by as_aux_lemma => kernel_rfl) (by as_aux_lemma => kernel_rfl) (by as_aux_lemma => kernel_rfl) (fun _ _ _ h => h) (Or.inl ⟨by kernel_rfl, by (intro w hSw; (try dsimp only at hSw); go_simp; first | done | with_reducible rfl)⟩) (by assumption) ?_
        (try simp only [List.getElem_toArray, List.getElem_cons_succ, List.getElem_cons_zero, Act.put, List.setIfInBounds_toArray, List.set_cons_zero, List.set_cons_succ])
        refine wpAnyH_take (i := 5) (oi := { dst := some 98, op := .move (.tmp 23), type := 30, pos := "law.go:41", after := #[{ on := 3, ground := .guard }], guard := some (3, false) }) (v := _) rfl (by as_aux_lemma => kernel_rfl) (by as_aux_lemma => kernel_rfl) (by as_aux_lemma => kernel_rfl) (fun _ _ _ h => h) (Or.inl ⟨by kernel_rfl, by (intro w hSw; (try dsimp only at hSw); go_simp; first | done | with_reducible rfl)⟩) (by assumption) ?_
        (try simp only [List.getElem_toArray, List.getElem_cons_succ, List.getElem_cons_zero, Act.put, List.setIfInBounds_toArray, List.set_cons_zero, List.set_cons_succ])
        refine wpAnyH_take (i := 6) (oi := { dst := some 99, op := .binOp BinOp.neq 30 (.tmp 97) (.tmp 98) 30, type := 4, pos := "law.go:41", after := #[{ on := 4, ground := .data }, { on := 5, ground := .data }, { on := 3, ground := .guard }], guard := some (3, false) }) (v := _) rfl (by as_aux_lemma => kernel_rfl) (by as_aux_lemma => kernel_rfl) (by as_aux_lemma => kernel_rfl) (fun _ _ _ h => h) (Or.inl ⟨by kernel_rfl, by (intro w hSw; (try dsimp only at hSw); go_simp; first | done | with_reducible rfl)⟩) (by assumption) ?_
        (try simp only [List.getElem_toArray, List.getElem_cons_succ, List.getElem_cons_zero, Act.put, List.setIfInBounds_toArray, List.set_cons_zero, List.set_cons_succ])
        refine wpAnyH_take (i := 7) (oi := { dst := some 100, op := .pick (.tmp 96) (.const (Value.bool true)) (.tmp 99), type := 4, pos := "law.go:41", after := #[{ on := 3, ground := .data }, { on := 6, ground := .data }], guard := none }) (v := _) rfl (by as_aux_lemma => kernel_rfl) (by as_aux_lemma => kernel_rfl) (by as_aux_lemma => kernel_rfl) (fun _ _ _ h => h) (Or.inl ⟨by kernel_rfl, by (intro w hSw; (try dsimp only at hSw); go_simp; first | done | with_reducible rfl)⟩) (by assumption) ?_
        (try simp only [List.getElem_toArray, List.getElem_cons_succ, List.getElem_cons_zero, Act.put, List.setIfInBounds_toArray, List.set_cons_zero, List.set_cons_succ])
        refine wpAnyH_take (i := 8) (oi := { dst := some 101, op := .move (.tmp 100), type := 4, pos := "law.go:41", after := #[{ on := 7, ground := .data }, { on := 3, ground := .chain }], guard := none }) (v := _) rfl (by as_aux_lemma => kernel_rfl) (by as_aux_lemma => kernel_rfl) (by as_aux_lemma => kernel_rfl) (fun _ _ _ h => h) (Or.inl ⟨by kernel_rfl, by (intro w hSw; (try dsimp only at hSw); go_simp; first | done | with_reducible rfl)⟩) (by assumption) ?_
        (try simp only [List.getElem_toArray, List.getElem_cons_succ, List.getElem_cons_zero, Act.put, List.setIfInBounds_toArray, List.set_cons_zero, List.set_cons_succ])
        refine wpAnyH_take (i := 9) (oi := { dst := some 102, op := .load 29 (.tmp 21), type := 29, pos := "law.go:41", after := #[{ on := 8, ground := .guard }], guard := some (8, false) }) (v := _) rfl (by as_aux_lemma => kernel_rfl) (by as_aux_lemma => kernel_rfl) (by as_aux_lemma => kernel_rfl) (fun _ _ _ h => h) (Or.inl ⟨by kernel_rfl, by (intro w hSw; (try dsimp only at hSw); go_simp; first | done | with_reducible rfl)⟩) (by assumption) ?_
        (try simp only [List.getElem_toArray, List.getElem_cons_succ, List.getElem_cons_zero, Act.put, List.setIfInBounds_toArray, List.set_cons_zero, List.set_cons_succ])
        refine wpAnyH_take (i := 11) (oi := { dst := some 104, op := .move (.tmp 26), type := 30, pos := "law.go:41", after := #[{ on := 8, ground := .guard }], guard := some (8, false) }) (v := _) rfl (by as_aux_lemma => kernel_rfl) (by as_aux_lemma => kernel_rfl) (by as_aux_lemma => kernel_rfl) (fun _ _ _ h => h) (Or.inl ⟨by kernel_rfl, by (intro w hSw; (try dsimp only at hSw); go_simp; first | done | with_reducible rfl)⟩) (by assumption) ?_
        (try simp only [List.getElem_toArray, List.getElem_cons_succ, List.getElem_cons_zero, Act.put, List.setIfInBounds_toArray, List.set_cons_zero, List.set_cons_succ])
        refine wpAnyH_ready (rs := [10]) (by as_aux_lemma => kernel_rfl) (by simp) (AllReadyH.cons rfl (fun K hK => ?_) AllReadyH.nil)
        try simp only [List.getElem_toArray, List.getElem_cons_succ, List.getElem_cons_zero]
        go_simp
        go_at_call 9
        refine (TC.out _).mono ?_
        rintro e wn ⟨rfl, hbn⟩
        have HB1 : Hid (Below wc.heap.size wc wn) := Lib.hid (HB0.out.trans (hbn.mono HB0.out.size))
        have SB := KS.out _ HB1.out
        unfold PtS at SB
        clear hbn
        go_simp
        refine hK.out _ _ (by first | exact SA | exact SB | exact SC | exact SD) (fun hHeld => ?_)
        clear hK K
        (try simp only [List.getElem_toArray, List.getElem_cons_succ, List.getElem_cons_zero, Act.put, List.setIfInBounds_toArray, List.set_cons_zero, List.set_cons_succ])
        refine wpAnyH_take (i := 12) (oi := { dst := some 105, op := .binOp BinOp.neq 30 (.tmp 103) (.tmp 104) 30, type := 4, pos := "law.go:41", after := #[{ on := 10, ground := .data }, { on := 11, ground := .data }, { on := 8, ground := .guard }], guard := some (8, false) }) (v := _) rfl (by as_aux_lemma => kernel_rfl) (by as_aux_lemma => kernel_rfl) (by as_aux_lemma => kernel_rfl) (fun _ _ _ h => h) (Or.inl ⟨by kernel_rfl, by (intro w hSw; (try dsimp only at hSw); go_simp; first | done | with_reducible rfl)⟩) (by assumption) ?_
        (try simp only [List.getElem_toArray, List.getElem_cons_succ, List.getElem_cons_zero, Act.put, List.setIfInBounds_toArray, List.set_cons_zero, List.set_cons_succ])
        refine wpAnyH_take (i := 13) (oi := { dst := some 106, op := .pick (.tmp 101) (.const (Value.bool true)) (.tmp 105), type := 4, pos := "law.go:41", after := #[{ on := 8, ground := .data }, { on := 12, ground := .data }], guard := none }) (v := _) rfl (by as_aux_lemma => kernel_rfl) (by as_aux_lemma => kernel_rfl) (by as_aux_lemma => kernel_rfl) (fun _ _ _ h => h) (Or.inl ⟨by kernel_rfl, by (intro w hSw; (try dsimp only at hSw); go_simp; first | done | with_reducible rfl)⟩) (by assumption) ?_
        (try simp only [List.getElem_toArray, List.getElem_cons_succ, List.getElem_cons_zero, Act.put, List.setIfInBounds_toArray, List.set_cons_zero, List.set_cons_succ])
        as_aux_lemma =>
          refine wpAnyH_take (i := 14) (oi := { dst := some 107, op := .move (.tmp 106), type := 4, pos := "law.go:41", after := #[{ on := 13, ground := .data }, { on := 10, ground := .chain }], guard := none }) (v := _) rfl (by as_aux_lemma => kernel_rfl) (by as_aux_lemma => kernel_rfl) (by as_aux_lemma => kernel_rfl) (fun _ _ _ h => h) (Or.inl ⟨by kernel_rfl, by (intro w hSw; (try dsimp only at hSw); go_simp; first | done | with_reducible rfl)⟩) (by assumption) ?_
          (try simp only [List.getElem_toArray, List.getElem_cons_succ, List.getElem_cons_zero, Act.put, List.setIfInBounds_toArray, List.set_cons_zero, List.set_cons_succ])
          refine wpAnyH_take (i := 15) (oi := { dst := some 108, op := .move (.tmp 20), type := 23, pos := "law.go:41", after := #[{ on := 14, ground := .guard }], guard := some (14, false) }) (v := _) rfl (by as_aux_lemma => kernel_rfl) (by as_aux_lemma => kernel_rfl) (by as_aux_lemma => kernel_rfl) (fun _ _ _ h => h) (Or.inl ⟨by kernel_rfl, by (intro w hSw; (try dsimp only at hSw); go_simp; first | done | with_reducible rfl)⟩) (by assumption) ?_
          (try simp only [List.getElem_toArray, List.getElem_cons_succ, List.getElem_cons_zero, Act.put, List.setIfInBounds_toArray, List.set_cons_zero, List.set_cons_succ])
          refine wpAnyH_take (i := 16) (oi := { dst := some 109, op := .move (.tmp 19), type := 3, pos := "law.go:41", after := #[{ on := 14, ground := .guard }], guard := some (14, false) }) (v := _) rfl (by as_aux_lemma => kernel_rfl) (by as_aux_lemma => kernel_rfl) (by as_aux_lemma => kernel_rfl) (fun _ _ _ h => h) (Or.inl ⟨by kernel_rfl, by (intro w hSw; (try dsimp only at hSw); go_simp; first | done | with_reducible rfl)⟩) (by assumption) ?_
          (try simp only [List.getElem_toArray, List.getElem_cons_succ, List.getElem_cons_zero, Act.put, List.setIfInBounds_toArray, List.set_cons_zero, List.set_cons_succ])
          refine wpAnyH_take (i := 17) (oi := { dst := some 110, op := .slice 23 (.tmp 108) none (some (.tmp 109)) none, type := 23, pos := "law.go:41", after := #[{ on := 15, ground := .data }, { on := 16, ground := .data }, { on := 14, ground := .guard }], guard := some (14, false) }) (v := _) rfl (by as_aux_lemma => kernel_rfl) (by as_aux_lemma => kernel_rfl) (by as_aux_lemma => kernel_rfl) (fun _ _ _ h => h) (Or.inl ⟨by kernel_rfl, by (intro w hSw; (try dsimp only at hSw); go_simp; first | done | with_reducible rfl)⟩) (by assumption) ?_
          (try simp only [List.getElem_toArray, List.getElem_cons_succ, List.getElem_cons_zero, Act.put, List.setIfInBounds_toArray, List.set_cons_zero, List.set_cons_succ])
          refine wpAnyH_take (i := 18) (oi := { dst := some 111, op := .fieldAddr 25 (.tmp 17) 3, type := 0, pos := "law.go:41", after := #[{ on := 14, ground := .guard }], guard := some (14, false) }) (v := _) rfl (by as_aux_lemma => kernel_rfl) (by as_aux_lemma => kernel_rfl) (by as_aux_lemma => kernel_rfl) (fun _ _ _ h => h) (Or.inl ⟨by kernel_rfl, by (intro w hSw; (try dsimp only at hSw); go_simp; first | done | with_reducible rfl)⟩) (by assumption) ?_
          (try simp only [List.getElem_toArray, List.getElem_cons_succ, List.getElem_cons_zero, Act.put, List.setIfInBounds_toArray, List.set_cons_zero, List.set_cons_succ])
          refine wpAnyH_take (i := 19) (oi := { dst := some 112, op := .load 23 (.tmp 111), type := 23, pos := "law.go:41", after := #[{ on := 18, ground := .data }, { on := 14, ground := .guard }], guard := some (14, false) }) (v := _) rfl (by as_aux_lemma => kernel_rfl) (by as_aux_lemma => kernel_rfl) (by as_aux_lemma => kernel_rfl) (fun _ _ _ h => h) (Or.inl ⟨by kernel_rfl, by (intro w hSw; (try dsimp only at hSw); go_simp; first | done | with_reducible rfl)⟩) (by assumption) ?_
          (try simp only [List.getElem_toArray, List.getElem_cons_succ, List.getElem_cons_zero, Act.put, List.setIfInBounds_toArray, List.set_cons_zero, List.set_cons_succ])
          refine wpAnyH_ready (rs := [20]) (by as_aux_lemma => kernel_rfl) (by simp) (AllReadyH.cons rfl (fun K hK => ?_) AllReadyH.nil)
          try simp only [List.getElem_toArray, List.getElem_cons_succ, List.getElem_cons_zero]
          go_simp
          go_at_call 10
          refine (RIF.out _ HB1.out).mono ?_
          rintro e wm ⟨rfl, hbm⟩
          have HB2 : Hid (Below wc.heap.size wc wm) := Lib.hid (HB1.out.trans (hbm.mono HB1.out.size))
          have SC := KS.out _ HB2.out
          unfold PtS at SC
          clear hbm
          go_simp
          refine hK.out _ _ (by first | exact SA | exact SB | exact SC | exact SD) (fun hHeld => ?_)
          clear hK K
          (try simp only [List.getElem_toArray, List.getElem_cons_succ, List.getElem_cons_zero, Act.put, List.setIfInBounds_toArray, List.set_cons_zero, List.set_cons_succ])
          refine wpAnyH_take (i := 21) (oi := { dst := some 114, op := .unOp UnOp.not 4 (.tmp 113), type := 4, pos := "law.go:41", after := #[{ on := 20, ground := .data }, { on := 14, ground := .guard }], guard := some (14, false) }) (v := _) rfl (by as_aux_lemma => kernel_rfl) (by as_aux_lemma => kernel_rfl) (by as_aux_lemma => kernel_rfl) (fun _ _ _ h => h) (Or.inl ⟨by kernel_rfl, by (intro w hSw; (try dsimp only at hSw); go_simp; first | done | with_reducible rfl)⟩) (by assumption) ?_
          (try simp only [List.getElem_toArray, List.getElem_cons_succ, List.getElem_cons_zero, Act.put, List.setIfInBounds_toArray, List.set_cons_zero, List.set_cons_succ])
          refine wpAnyH_take (i := 22) (oi := { dst := some 115, op := .pick (.tmp 107) (.const (Value.bool true)) (.tmp 114), type := 4, pos := "law.go:41", after := #[{ on := 14, ground := .data }, { on := 21, ground := .data }], guard := none }) (v := _) rfl (by as_aux_lemma => kernel_rfl) (by as_aux_lemma => kernel_rfl) (by as_aux_lemma => kernel_rfl) (fun _ _ _ h => h) (Or.inl ⟨by kernel_rfl, by (intro w hSw; (try dsimp only at hSw); go_simp; first | done | with_reducible rfl)⟩) (by assumption) ?_
          (try simp only [List.getElem_toArray, List.getElem_cons_succ, List.getElem_cons_zero, Act.put, List.setIfInBounds_toArray, List.set_cons_zero, List.set_cons_succ])
          refine wpAnyH_take (i := 23) (oi := { dst := some 116, op := .move (.tmp 115), type := 4, pos := "law.go:41", after := #[{ on := 22, ground := .data }, { on := 20, ground := .chain }], guard := none }) (v := _) rfl (by as_aux_lemma => kernel_rfl) (by as_aux_lemma => kernel_rfl) (by as_aux_lemma => kernel_rfl) (fun _ _ _ h => h) (Or.inl ⟨by kernel_rfl, by (intro w hSw; (try dsimp only at hSw); go_simp; first | done | with_reducible rfl)⟩) (by assumption) ?_
          (try simp only [List.getElem_toArray, List.getElem_cons_succ, List.getElem_cons_zero, Act.put, List.setIfInBounds_toArray, List.set_cons_zero, List.set_cons_succ])
          refine wpAnyH_take (i := 24) (oi := { dst := some 117, op := .move (.tmp 20), type := 23, pos := "law.go:41", after := #[{ on := 23, ground := .guard }], guard := some (23, false) }) (v := _) rfl (by as_aux_lemma => kernel_rfl) (by as_aux_lemma => kernel_rfl) (by as_aux_lemma => kernel_rfl) (fun _ _ _ h => h) (Or.inl ⟨by kernel_rfl, by (intro w hSw; (try dsimp only at hSw); go_simp; first | done | with_reducible rfl)⟩) (by assumption) ?_
          (try simp only [List.getElem_toArray, List.getElem_cons_succ, List.getElem_cons_zero, Act.put, List.setIfInBounds_toArray, List.set_cons_zero, List.set_cons_succ])
          refine wpAnyH_take (i := 25) (oi := { dst := some 118, op := .move (.tmp 19), type := 3, pos := "law.go:41", after := #[{ on := 23, ground := .guard }], guard := some (23, false) }) (v := _) rfl (by as_aux_lemma => kernel_rfl) (by as_aux_lemma => kernel_rfl) (by as_aux_lemma => kernel_rfl) (fun _ _ _ h => h) (Or.inl ⟨by kernel_rfl, by (intro w hSw; (try dsimp only at hSw); go_simp; first | done | with_reducible rfl)⟩) (by assumption) ?_
          (try simp only [List.getElem_toArray, List.getElem_cons_succ, List.getElem_cons_zero, Act.put, List.setIfInBounds_toArray, List.set_cons_zero, List.set_cons_succ])
          refine wpAnyH_take (i := 26) (oi := { dst := some 119, op := .indexAddr 23 (.tmp 117) (.tmp 118), type := 0, pos := "law.go:41", after := #[{ on := 24, ground := .data }, { on := 25, ground := .data }, { on := 23, ground := .guard }], guard := some (23, false) }) (v := _) rfl (by as_aux_lemma => kernel_rfl) (by as_aux_lemma => kernel_rfl) (by as_aux_lemma => kernel_rfl) (fun _ _ _ h => h) (Or.inl ⟨by kernel_rfl, by (intro w hSw; (try dsimp only at hSw); go_simp; first | done | with_reducible rfl)⟩) (by assumption) ?_
          (try simp only [List.getElem_toArray, List.getElem_cons_succ, List.getElem_cons_zero, Act.put, List.setIfInBounds_toArray, List.set_cons_zero, List.set_cons_succ])
          refine wpAnyH_take (i := 27) (oi := { dst := some 120, op := .load 27 (.tmp 119), type := 27, pos := "law.go:41", after := #[{ on := 26, ground := .data }, { on := 23, ground := .guard }], guard := some (23, false) }) (v := _) rfl (by as_aux_lemma => kernel_rfl) (by as_aux_lemma => kernel_rfl) (by as_aux_lemma => kernel_rfl) (fun _ _ _ h => h) (Or.inl ⟨by kernel_rfl, by (intro w hSw; (try dsimp only at hSw); go_simp; first | done | with_reducible rfl)⟩) (by assumption) ?_
          (try simp only [List.getElem_toArray, List.getElem_cons_succ, List.getElem_cons_zero, Act.put, List.setIfInBounds_toArray, List.set_cons_zero, List.set_cons_succ])
          refine wpAnyH_ready (rs := [28]) (by as_aux_lemma => kernel_rfl) (by simp) (AllReadyH.cons rfl (fun K hK => ?_) AllReadyH.nil)
          try simp only [List.getElem_toArray, List.getElem_cons_succ, List.getElem_cons_zero]
          go_simp
          go_at_call 5
          refine (HIDM.out _).mono ?_
          rintro e wl ⟨rfl, hbl⟩
          have HB3 : Hid (Below wc.heap.size wc wl) := Lib.hid (HB2.out.trans (hbl.mono HB2.out.size))
          have SD := KS.out _ HB3.out
          unfold PtS at SD
          clear hbl
          go_simp
          refine hK.out _ _ (by first | exact SA | exact SB | exact SC | exact SD) (fun hHeld => ?_)
          clear hK K
          (try simp only [List.getElem_toArray, List.getElem_cons_succ, List.getElem_cons_zero, Act.put, List.setIfInBounds_toArray, List.set_cons_zero, List.set_cons_succ])
          refine wpAnyH_take (i := 29) (oi := { dst := some 122, op := .binOp BinOp.neq 27 (.tmp 120) (.tmp 121) 27, type := 4, pos := "law.go:41", after := #[{ on := 27, ground := .data }, { on := 28, ground := .data }, { on := 23, ground := .guard }], guard := some (23, false) }) (v := _) rfl (by as_aux_lemma => kernel_rfl) (by as_aux_lemma => kernel_rfl) (by as_aux_lemma => kernel_rfl) (fun _ _ _ h => h) (Or.inl ⟨by kernel_rfl, by (intro w hSw; (try dsimp only at hSw); go_simp; first | done | with_reducible rfl)⟩) (by assumption) ?_
          (try simp only [List.getElem_toArray, List.getElem_cons_succ, List.getElem_cons_zero, Act.put, List.setIfInBounds_toArray, List.set_cons_zero, List.set_cons_succ])
          refine wpAnyH_take (i := 30) (oi := { dst := some 123, op := .pick (.tmp 116) (.const (Value.bool true)) (.tmp 122), type := 4, pos := "law.go:41", after := #[{ on := 23, ground := .data }, { on := 29, ground := .data }], guard := none }) (v := _) rfl (by as_aux_lemma => kernel_rfl) (by as_aux_lemma => kernel_rfl) (by as_aux_lemma => kernel_rfl) (fun _ _ _ h => h) (Or.inl ⟨by kernel_rfl, by (intro w hSw; (try dsimp only at hSw); go_simp; first | done | with_reducible rfl)⟩) (by assumption) ?_
          (try simp only [List.getElem_toArray, List.getElem_cons_succ, List.getElem_cons_zero, Act.put, List.setIfInBounds_toArray, List.set_cons_zero, List.set_cons_succ])
          refine wpAnyH_done (by as_aux_lemma => kernel_rfl) ?_ _
          have HBW : Hid (Below w.heap.size w wl) := Lib.hid (HP8.out.below.trans (HB3.out.mono HP8.out.below.size))
          clear SA SB SC SD hHeld HB0 HB1 HB2 HB3 KS RIF TC HCK HIDM HP8 HLN b2 b3 b4
          go_wp2_with fail
          go_loopw [4, 27] (fun sv i wr => ∃ (q : Nat) (x : ByteArray), q ≤ 2 ∧ i = .int .i64 q ∧ sv = .string x ∧ x.size ≤ 140737488355328 ∧ Hid (Below w.heap.size w wr)) (fun _ i _ => 2 - (intOf i).toNat)
          case atStart => exact ⟨0, s, by omega, rfl, rfl, by omega, HBW⟩
          case round =>
            obtain ⟨q, x, hq, rfl, rfl, hx, HK⟩ := hrel
            by_cases hlt : q < 2
            · as_aux_lemma =>
              have hqi : (q : Int) < 2 := by omega
              have D1 := Lib.hid (fun W => rdecode17_any x W hx)
              have D2 := Lib.hid (fun W => decode17_any x W hx)
              obtain ⟨⟨T, de⟩, hdec⟩ : ∃ y, decR x = y := ⟨_, rfl⟩
              have HTN : T.ids.length ≤ 64 := by
                have := decR_len x
                rw [hdec] at this
                exact this
              rw [hdec] at D1 D2
              dsimp only at D1 D2
              clear hdec
              go_wp2_with fail
              (with_reducible refine (D1.out _).mono ?_)
              rintro e w2 ⟨v1, rfl, ho1, hb1⟩
              obtain ⟨A1, c1, rfl, hR1⟩ := own_reads ho1
              have HU : Hid (Blk (w2.alloc (.cells (tblA T (.slice A1 T.ids.length c1)) 25)) w2.heap.size 25 (tblA T (.slice A1 T.ids.length c1)) ∧ IdR (w2.alloc (.cells (tblA T (.slice A1 T.ids.length c1)) 25)) (w2.heap.size + 1) (.slice A1 T.ids.length c1) T.ids ∧ Below w.heap.size w (w2.alloc (.cells (tblA T (.slice A1 T.ids.length c1)) 25)) ∧ (w2.alloc (.cells (tblA T (.slice A1 T.ids.length c1)) 25)).heap.size = w2.heap.size + 1) := Lib.hid (by
                have b := HK.out.trans (hb1.mono HK.out.size)
                have b2 := (Below.refl w2.heap.size w2).alloc (Nat.le_refl _) (.cells (tblA T (.slice A1 T.ids.length c1)) 25)
                exact ⟨Blk.new _ _ _, ((IdR.of_own ho1).below b2).more (Nat.le_succ _), b.alloc b.size _, by simp⟩)
              clear ho1 hb1 hR1 HK D1
              unfold tblA
              go_upto_region 20 with fail
              change Code.wp _ _ _ _ (w2.alloc (.cells (tblA T (.slice A1 T.ids.length c1)) 25))
              generalize w2.alloc (.cells (tblA T (.slice A1 T.ids.length c1)) 25) = w3 at HU ⊢
              generalize w2.heap.size = ub at HU ⊢
              go_wp2_with fail
              (with_reducible refine (D2.out _).mono ?_)
              rintro e w4 ⟨v2, rfl, ho2, hb2⟩
              obtain ⟨A2, c2', rfl, hR2⟩ := own_reads ho2
              have hlo2 : w3.heap.size = ub + 1 := HU.out.2.2.2
              rw [hlo2] at ho2 hb2
              have HV : Hid ((w4.alloc (.cells (tblA T (.slice A2 T.ids.length c2')) 29)).ownsRow (ub + 1) 27 32 (.slice A2 T.ids.length c2') T.ids.length (idsV T.ids) ∧ Blk (w4.alloc (.cells (tblA T (.slice A2 T.ids.length c2')) 29)) w4.heap.size 29 (tblA T (.slice A2 T.ids.length c2')) ∧ Below (ub + 1) w3 (w4.alloc (.cells (tblA T (.slice A2 T.ids.length c2')) 29)) ∧ (∀ g, (Value.slice A2 T.ids.length c2').ownBlock = some g → g < w4.heap.size)) := Lib.hid ⟨ho2.alloc _, Blk.new _ _ _, hb2.alloc (by have := hb2.size; omega) _, fun g e => (ho2.lt g e).2⟩
              clear ho2 hb2 hR2
              unfold tblA
              go_upto_region 21 with fail
              change Code.wp _ _ _ _ (w4.alloc (.cells (tblA T (.slice A2 T.ids.length c2')) 29))
              have hle5 : w4.heap.size < (w4.alloc (.cells (tblA T (.slice A2 T.ids.length c2')) 29)).heap.size := by simp
              generalize w4.alloc (.cells (tblA T (.slice A2 T.ids.length c2')) 29) = w5 at HV hle5 ⊢
              generalize w4.heap.size = vb at HV hle5 ⊢
              go_wp2_with fail
              (with_reducible refine (D2.out _).mono ?_)
              rintro e w6 ⟨v3, rfl, ho3, hb3⟩
              obtain ⟨A3, c3, rfl, hR3⟩ := own_reads ho3
              have HD0 : Hid (PtD w (w6.alloc (.cells (tblA T (.slice A3 T.ids.length c3)) 29)) T (.slice A1 T.ids.length c1) (.slice A3 T.ids.length c3) (.slice A2 T.ids.length c2') ub w6.heap.size T.ids.length (ub + 1) w5.heap.size ∧ (w6.alloc (.cells (tblA T (.slice A3 T.ids.length c3)) 29)).ownsRow (ub + 1) 27 32 (.slice A2 T.ids.length c2') T.ids.length (idsV T.ids) ∧ Blk (w6.alloc (.cells (tblA T (.slice A3 T.ids.length c3)) 29)) vb 29 (tblA T (.slice A2 T.ids.length c2'))) := Lib.hid (by
                obtain ⟨u1, u2, u3, u4⟩ := HU.out
                obtain ⟨x1, x2, x3, x4⟩ := HV.out
                have hs5 : ub + 1 ≤ w5.heap.size := by have := x3.size; omega
                have b6 : Below w5.heap.size w5 (w6.alloc (.cells (tblA T (.slice A3 T.ids.length c3)) 29)) := hb3.alloc hb3.size _
                have b36 : Below (ub + 1) w3 (w6.alloc (.cells (tblA T (.slice A3 T.ids.length c3)) 29)) := x3.trans (b6.mono hs5)
                have hw : w.heap.size ≤ ub + 1 := by have := u3.size; omega
                have r2 := own_below x1 b6
                refine ⟨⟨u1.below b36 (by omega), u2.below b36, Blk.new _ _ _, ho3.alloc _, ⟨_, r2⟩, fun g e e3 => ?_, u3.trans (b36.mono hw), hw, by have := b36.size; omega⟩, r2, x2.below b6 (by omega)⟩
                have h1 := x4 g e
                have h3 := (ho3.lt g e3).1
                omega)
              clear ho3 hb3 hR3 D2 HU HV hlo2
              unfold tblA
              go_upto_region 22 with fail
              change Code.wp _ _ _ _ (w6.alloc (.cells (tblA T (.slice A3 T.ids.length c3)) 29))
              generalize w6.alloc (.cells (tblA T (.slice A3 T.ids.length c3)) 29) = w7 at HD0 ⊢
              generalize w6.heap.size = wb at HD0 ⊢
              generalize w5.heap.size = hi at HD0 ⊢
              obtain ⟨ta, tb, tc, td⟩ := T
              dsimp only at *
              obtain ⟨m, hm⟩ : ∃ m, td.length = m := ⟨_, rfl⟩
              have HM := Lib.hid hm
              rw [hm] at HD0 HTN ⊢
              have ALK : Hid (∀ W v v', IdR W W.heap.size v td → IdR W W.heap.size v' td → Calls Try.prog 13 #[.agg (tblA ⟨ta, tb, tc, td⟩ v), .agg (tblA ⟨ta, tb, tc, td⟩ v')] W fun e w' => e = .returned (.bool true) ∧ Below W.heap.size W w') := Lib.hid (fun W v v' h h' => alike_any ⟨ta, tb, tc, td⟩ v v' W W.heap.size h h' (Nat.le_refl _) (by rw [hm]; omega))
              clear hm
              have b0 : (de != de) = false := bne_self_eq_false _
              have iv (W : World) (hW : Below w7.heap.size w7 W) : IdR W W.heap.size (.slice A2 m c2') td := IdR.of_own (base := ub + 1) (by rw [HM.out]; exact own_below HD0.out.2.1 hW)
              have iw (W : World) (h : PtD w W ⟨ta, tb, tc, td⟩ (.slice A1 m c1) (.slice A3 m c3) (.slice A2 m c2') ub wb m (ub + 1) hi) : IdR W W.heap.size (.slice A3 m c3) td ∧ IdR W W.heap.size (.slice A1 m c1) td := ⟨IdR.of_own (base := hi) h.ow, h.iu.more h.ord.2⟩
              obtain ⟨p0, p1, p2, p3⟩ := tbl_cells HD0.out.1.u
              obtain ⟨q0, q1, q2, q3⟩ := tbl_cells HD0.out.2.2
              have C1 := Lib.hid (ALK.out w7 _ _ (iv w7 (Below.refl _ _)) (iw w7 HD0.out.1).2)
              go_wp2_with fail
              change Calls _ _ #[.agg (tblA ⟨ta, tb, tc, td⟩ (.slice A2 m c2')), .agg (tblA ⟨ta, tb, tc, td⟩ (.slice A1 m c1))] _ _
              (with_reducible refine C1.out.mono ?_)
              rintro e w8 ⟨rfl, hb8⟩
              have HD8 := Lib.hid (HD0.out.1.mono hb8)
              have HV8 : Hid (Blk w8 vb 29 (tblA ⟨ta, tb, tc, td⟩ (.slice A2 m c2'))) := Lib.hid (HD0.out.2.2.below hb8 HD0.out.2.2.lt)
              clear hb8 HD0 C1 p0 p1 p2 p3 q0 q1 q2 q3 iv
              obtain ⟨p0, p1, p2, p3⟩ := tbl_cells HD8.out.u
              obtain ⟨q0, q1, q2, q3⟩ := tbl_cells HD8.out.t
              have C2 := Lib.hid (ALK.out w8 _ _ (iw w8 HD8.out).1 (iw w8 HD8.out).2)
              go_wp2_with fail
              change Calls _ _ #[.agg (tblA ⟨ta, tb, tc, td⟩ (.slice A3 m c3)), .agg (tblA ⟨ta, tb, tc, td⟩ (.slice A1 m c1))] _ _
              (with_reducible refine C2.out.mono ?_)
              rintro e w9 ⟨rfl, hb9⟩
              have HD9 := Lib.hid (HD8.out.mono hb9)
              have HV9 : Hid (Blk w9 vb 29 (tblA ⟨ta, tb, tc, td⟩ (.slice A2 m c2'))) := Lib.hid (HV8.out.below hb9 HV8.out.lt)
              clear hb9 HD8 HV8 C2 p0 p1 p2 p3 q0 q1 q2 q3
              obtain ⟨q0, q1, q2, q3⟩ := tbl_cells HV9.out
              go_wp2_with fail
              clear q0 q1 q2 q3 HV9 b0
              have IDS := Lib.hid (fun W => idF_any spB W (by decide))
              obtain ⟨SP, hSP⟩ : ∃ I : Idn, byteAt spB = I := ⟨_, rfl⟩
              rw [hSP] at IDS
              unfold spB at IDS
              clear hSP
              have IDB := Lib.hid (fun W => idF_any bhB W (by decide))
              obtain ⟨BH, hBH⟩ : ∃ I : Idn, byteAt bhB = I := ⟨_, rfl⟩
              rw [hBH] at IDB
              unfold bhB at IDB
              clear hBH
              have HWZ2 := Lib.hid HWZ
              go_loopw [35] (fun i wr => ∃ (j : Nat), j ≤ m ∧ i = .int .i64 j ∧ Hid (PtD w wr ⟨ta, tb, tc, td⟩ (.slice A1 m c1) (.slice A3 m c3) (.slice A2 m c2') ub wb m (ub + 1) hi)) (fun i _ => m - (intOf i).toNat)
              case atStart => exact ⟨0, by omega, rfl, HD9⟩
              case round =>
                obtain ⟨j, hj, rfl, HJ⟩ := hrel
                by_cases hjm : j < m
                · as_aux_lemma =>
                  have hji : (j : Int) < (m : Int) := by omega
                  have hj0 : (0 : Int) ≤ (j : Int) := by omega
                  go_wp2_with fail
                  (with_reducible refine (IDS.out _).mono ?_)
                  rintro e wn ⟨rfl, hbn⟩
                  have HJn := Lib.hid (HJ.out.mono hbn)
                  clear hbn HJ
                  obtain ⟨gl, e1⟩ : ∃ gl, A2 = some ⟨gl, 0, none⟩ := by
                    obtain ⟨xs, hol⟩ := HJn.out.ol
                    obtain ⟨gl, cl, e, _⟩ := own_slI hol (by omega)
                    injection e with e1 _ _
                    exact ⟨gl, e1⟩
                  subst e1
                  obtain ⟨o1, hput, hgr, _⟩ := OwnL.put HJn.out.ol hjm SP
                  have f1 := idA_full SP
                  have HQ := Lib.hid (HJn.out.write hput hgr HJn.out.ne)
                  clear hput hgr HJn
                  go_wp2
                  go_roundw
                  case rel => exact ⟨j + 1, by omega, by go_num, HQ⟩
                  case measure => simp [intOf]; omega
                · as_aux_lemma =>
                  obtain rfl : j = m := by omega
                  go_wp2_with fail
                  go_loopw [34, 36] (fun lv i wr => ∃ (y : Nat), y ≤ 20 ∧ i = .int .i64 y ∧ Hid (PtD w wr ⟨ta, tb, tc, td⟩ (.slice A1 j c1) (.slice A3 j c3) lv ub wb (j + y) (ub + 1) hi)) (fun _ i _ => 20 - (intOf i).toNat)
                  case atStart => exact ⟨0, by omega, rfl, HJ⟩
                  case round =>
                    obtain ⟨y, hy, rfl, HY⟩ := hrel
                    by_cases hy20 : y < 20
                    · as_aux_lemma =>
                      have hyi : (y : Int) < 20 := by omega
                      have hy0 : (0 : Int) ≤ (y : Int) := by omega
                      go_wp2_with fail
                      (with_reducible refine (IDB.out _).mono ?_)
                      rintro e wn ⟨rfl, hbn⟩
                      have HYn := Lib.hid (HY.out.mono hbn)
                      clear hbn HY
                      obtain ⟨xs, hol⟩ := HYn.out.ol
                      have HOL := Lib.hid hol
                      have f1 := idA_full BH
                      have HSZ := Lib.hid (idA_size BH)
                      have HONE := Lib.hid (idA_ones BH)
                      have hk1 : Hid (j + y ≤ 4611686018427387904) := Lib.hid (by omega)
                      have hk2 : Hid ((j + y + 1) * 32 ≤ 140737488355328) := Lib.hid (by omega)
                      have hle : Hid (ub + 1 ≤ wn.heap.size) := Lib.hid HYn.out.ord.2
                      clear hol
                      go_wp2_with (at_builtin; refine appendN_new elemId rfl _ _ rfl (ub + 1) u34 (j + y) xs (by rfl) HOL.out (idA BH) HSZ.out (by rfl) HONE.out hk1.out hk2.out hle.out ?_; intro v' w' ho hg hd; have HQ := Lib.hid (HYn.out.write ⟨_, ho⟩ hg (fun g e e3 => by
                        rcases hd with h | h
                        · rw [h] at e; exact HYn.out.ne g e e3
                        · rw [h] at e
                          injection e with e
                          have := (HYn.out.ow.lt g e3).2
                          omega)); clear ho hg hd)
                      go_roundw
                      case rel => exact ⟨y + 1, by omega, by go_num, HQ⟩
                      case measure => simp [intOf]; omega
                    · as_aux_lemma =>
                      obtain rfl : y = 20 := by omega
                      rw [show ((20 : Nat) : Int) = 20 from rfl]
                      obtain ⟨Al, cl, rfl⟩ := HY.out.ol.slice
                      obtain ⟨M2, hM2⟩ : ∃ M2, j + 20 = M2 := ⟨_, rfl⟩
                      have hMi : ¬ (M2 : Int) < 20 := by omega
                      rw [hM2] at HY ⊢
                      clear hM2
                      obtain ⟨p0, p1, p2, p3⟩ := tbl_cells HY.out.u
                      obtain ⟨q0, q1, q2, q3⟩ := tbl_cells HY.out.t
                      have C3 := Lib.hid (ALK.out wr _ _ (IdR.of_own (base := hi) HY.out.ow) (HY.out.iu.more HY.out.ord.2))
                      go_wp2_with fail
                      change Calls _ _ #[.agg (tblA ⟨ta, tb, tc, td⟩ (.slice A3 j c3)), .agg (tblA ⟨ta, tb, tc, td⟩ (.slice A1 j c1))] _ _
                      (with_reducible refine C3.out.mono ?_)
                      rintro e wz ⟨rfl, hbz⟩
                      have HBZ : Hid (Below w.heap.size w wz) := Lib.hid (HY.out.below.trans (hbz.mono HY.out.below.size))
                      clear hbz C3 HY p0 p1 p2 p3 q0 q1 q2 q3
                      go_wp2
                      go_roundw
                      case rel =>
                        have hws := HWZ2.out
                        first
                        | exact ⟨q + 1, by omega, by go_num, by omega, HBZ⟩
                        | exact ⟨q + 1, want, by omega, by go_num, rfl, by omega, HBZ⟩
                      case measure => simp [intOf]; omega
            · obtain rfl : q = 2 := by omega
              rw [show ((2 : Nat) : Int) = 2 from rfl]
              have N1 := Lib.hid (fun W => rnamed_any name W hm)
              have N2 := Lib.hid (fun W => pnamed_any name W hm)
              obtain ⟨NI, hNI⟩ : ∃ I, nmI name = I := ⟨_, rfl⟩
              obtain ⟨NJ, hNJ⟩ : ∃ I, nmJ name = I := ⟨_, rfl⟩
              obtain ⟨ne, hne⟩ : ∃ I, nmdE name = I := ⟨_, rfl⟩
              rw [hNI, hNJ, hne] at N1 N2
              clear hNI hNJ hne
              have I1 := Lib.hid (fun W => idF_any whole W (by omega))
              have I2 := Lib.hid (fun W => idF_any sum W (by omega))
              obtain ⟨WI, hWI⟩ : ∃ I : Idn, byteAt whole = I := ⟨_, rfl⟩
              obtain ⟨WJ, hWJ⟩ : ∃ I : Idn, byteAt sum = I := ⟨_, rfl⟩
              rw [hWI] at I1
              rw [hWJ] at I2
              clear hWI hWJ
              have K1 := Lib.hid (fun W => pname_any WI WJ W)
              have K2 := Lib.hid (fun W => rname_any WI WJ W)
              obtain ⟨nt, hnt⟩ : ∃ t, nameT WI WJ = t := ⟨_, rfl⟩
              rw [hnt] at K1 K2
              clear hnt
              have f1 := idA_full NI
              have f2 := idA_full NJ
              have b1 := eq_ids NI NI
              have b2 := eq_ids NJ NJ
              rw [eqB_same] at b1 b2
              have b3 : (ne == ne) = true := beq_self_eq_true _
              have b4 : (nt.toList == nt.toList) = true := beq_self_eq_true _
              go_wp2_with fail
              (with_reducible refine (N1.out _).mono ?_)
              rintro e w2 ⟨rfl, hb2⟩
              have HB2 := Lib.hid (HK.out.trans (hb2.mono HK.out.size))
              clear hb2 HK N1
              have S0 := BB.start w2
              obtain ⟨o1, _, o2, _⟩ := S0.box
              have S1 := S0.put1 NI
              obtain ⟨_, _, o2', _⟩ := S1.box
              have S2 := S1.put2 NJ
              have HS2 := Lib.hid S2
              unfold zeroId at o1 o2 o2'
              clear S0 S1 S2
              go_upto_region 37 with fail
              change Code.wp _ _ _ _ (put32 (put32 ((w2.alloc zeroId).alloc zeroId) w2.heap.size 0 (idA NI)) (w2.heap.size + 1) 0 (idA NJ))
              generalize put32 (put32 ((w2.alloc zeroId).alloc zeroId) w2.heap.size 0 (idA NI)) (w2.heap.size + 1) 0 (idA NJ) = w3 at HS2 ⊢
              clear o1 o2 o2'
              go_wp2_with fail
              (with_reducible refine (N2.out _).mono ?_)
              rintro e w4 ⟨rfl, hb4⟩
              have HS4 := Lib.hid (HS2.out.mono hb4)
              clear hb4 HS2 N2
              have S0 := BB.start w4
              obtain ⟨o1, _, o2, _⟩ := S0.box
              have S1 := S0.put1 NI
              obtain ⟨_, _, o2', _⟩ := S1.box
              have S2 := S1.put2 NJ
              have HS5 : Hid (BB w4 (put32 (put32 ((w4.alloc zeroId).alloc zeroId) w4.heap.size 0 (idA NI)) (w4.heap.size + 1) 0 (idA NJ)) NI NJ ∧ BB w2 (put32 (put32 ((w4.alloc zeroId).alloc zeroId) w4.heap.size 0 (idA NI)) (w4.heap.size + 1) 0 (idA NJ)) NI NJ) := Lib.hid ⟨S2, HS4.out.mono S2.below⟩
              unfold zeroId at o1 o2 o2'
              clear S0 S1 S2 HS4
              go_upto_region 38 with fail
              change Code.wp _ _ _ _ (put32 (put32 ((w4.alloc zeroId).alloc zeroId) w4.heap.size 0 (idA NI)) (w4.heap.size + 1) 0 (idA NJ))
              generalize put32 (put32 ((w4.alloc zeroId).alloc zeroId) w4.heap.size 0 (idA NI)) (w4.heap.size + 1) 0 (idA NJ) = w5 at HS5 ⊢
              clear o1 o2 o2'
              obtain ⟨p1, p2, p3, p4⟩ := HS5.out.1.box
              obtain ⟨q1, q2, q3, q4⟩ := HS5.out.2.box
              have HB5 : Hid (Below w.heap.size w w5) := Lib.hid (HB2.out.trans (HS5.out.2.below.mono HB2.out.size))
              clear HS5 HB2 f1 f2
              go_wp2_with fail
              (with_reducible refine (I1.out _).mono ?_)
              rintro e x1 ⟨rfl, hb⟩
              have HX1 := Lib.hid (HB5.out.trans (hb.mono HB5.out.size))
              clear hb
              go_wp2_with fail
              (with_reducible refine (I2.out _).mono ?_)
              rintro e x2 ⟨rfl, hb⟩
              have HX2 := Lib.hid (HX1.out.trans (hb.mono HX1.out.size))
              clear hb
              go_wp2_with fail
              (with_reducible refine (K1.out _).mono ?_)
              rintro e x3 ⟨rfl, hb⟩
              have HX3 := Lib.hid (HX2.out.trans (hb.mono HX2.out.size))
              clear hb
              go_wp2_with fail
              (with_reducible refine (I1.out _).mono ?_)
              rintro e x4 ⟨rfl, hb⟩
              have HX4 := Lib.hid (HX3.out.trans (hb.mono HX3.out.size))
              clear hb
              go_wp2_with fail
              (with_reducible refine (I2.out _).mono ?_)
              rintro e x5 ⟨rfl, hb⟩
              have HX5 := Lib.hid (HX4.out.trans (hb.mono HX4.out.size))
              clear hb
              go_wp2_with fail
              (with_reducible refine (K2.out _).mono ?_)
              rintro e x6 ⟨rfl, hb⟩
              have HX6 := Lib.hid (HX5.out.trans (hb.mono HX5.out.size))
              clear hb
              go_wp2
              go_ret
              exact ⟨rfl, HX6.out⟩
end Go.Proofs.Ytfoandpcoakcjaa
