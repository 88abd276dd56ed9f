/- Several texts of the claim joined into one (part 3): plain facts and walks. No conditions but those that each theorem tells. -/
import Derived.Test.YtfoandpcoakcjaaIndexB
import Derived.Test.YtfoandpcoakcjaaMgParityTablesUpto2
import Derived.Test.YtfoandpcoakcjaaHex2
import Derived.Stop.BytesEq
import Derived.Test.YtfoandpcoakcjaaGen
import Derived.Test.YtfoandpcoakcjaaMgParityTablesUpto1
import Derived.Test.YtfoandpcoakcjaaPut
namespace Go.Proofs.Ytfoandpcoakcjaa
open Go.RowKit
set_option linter.unusedVariables false
attribute [local go_sem ↓] execOp_ld32 execOp_st32
attribute [local go_sem] run_ld32 run_st32
theorem run_ld32_cells (w : World) (g : Nat) (I : Nat → UInt8) (h : ∀ j, j < 32 → w.cell? ⟨g, j, none⟩ = some (.int .u8 ((I j).toNat : Int))) :
    (ld32 (.pointer (some ⟨g, 0, none⟩))).run Try.prog w = .ok (.value (.agg (idA I))) w := by
  have hl : (idA I).toList.length = 32 := by rw [Array.length_toList, idA_size]
  have := run_loadCells_list (P := Try.prog) w ⟨g, 0, none⟩ (idA I).toList (fun j v hv => by
    have hj : j < 32 := by
      rcases Nat.lt_or_ge j 32 with h | h
      · exact h
      · rw [List.getElem?_eq_none (by rw [hl]; exact h)] at hv; cases hv
    rw [add0, h j hj]
    rw [Array.getElem?_toList, idA_get I j hj] at hv
    exact hv)
  rw [hl] at this
  unfold ld32
  simp only [Instr.loadAt, Instr.sureAddr, loadVar, Sem.run_bind, Sem.run_pure, Result.andThen, run_isAgg32, run_size32, if_true, this]
theorem run_arrayAt32 (g cap : Nat) (W : World) : (Instr.arrayAt 27 (.slice (some ⟨g, 0, none⟩) 32 cap)).run Try.prog W = .ok (.pointer (some ⟨g, 0, none⟩)) W := by
  have ht : Try.prog.underlying 27 = some (.array 32 5) := by kernel_rfl
  simp [Instr.arrayAt, run_underlying ht, go_sem]
def idOf (s : ByteArray) : Nat → UInt8 := fun k => (unL s 32).getD k 0
set_option maxRecDepth 100000 in
set_option maxHeartbeats 0 in
theorem parse64_any (s : ByteArray) (w : World) (hs : s.size = 64) (hok : ∀ j, j < 64 → 0 ≤ dvB (byteAt s j)) :
    Calls Try.prog 36 #[.string s] w fun e w' => e = .returned (.tuple #[.agg (idA (idOf s)), .int .i64 0]) ∧ Below w.heap.size w w' := by
  have Z := zero_one w
  have hz : (w.alloc zeroId).heap.size = w.heap.size + 1 := by simp
  have f1 := idA_full (idOf s)
  have HZ := Lib.hid (And.intro Z hz)
  have HOK := Lib.hid hok
  clear Z hz hok
  go_enter Try.func36, Try.ntmps36
  go_wp2_with fail
  refine (unhex64_any s (w.alloc zeroId) hs HOK.out).mono ?_; rintro e w1 ⟨rfl, hb⟩
  have R1 : Hid (w1.rowIs w.heap.size 27 32 (fun _ => .int .u8 0) ∧ Below w.heap.size w w1) := Lib.hid ⟨HZ.out.1.1.of_block (hb.block _ (by have := HZ.out.2; omega)), HZ.out.1.2.trans (hb.mono (by have := HZ.out.2; omega))⟩
  clear hb
  obtain ⟨r, hr⟩ : ∃ r, bs (unL s 32) = r := ⟨_, rfl⟩
  have hrs : r.size = 32 := by rw [← hr, bs_size, unL_len]
  have HR := Lib.hid hr
  rw [hr]
  clear hr
  have AR := fun g cap W => run_arrayAt32 g cap W
  have KX : Hid (∀ cap w2, bufIs w2 5 w1.heap.size r.size cap (fun j => .int .u8 ((r.data.toList.getD j 0).toNat : Int)) → w1.grownBy w2 none → (ld32 (.pointer (some ⟨w1.heap.size, 0, none⟩))).run Try.prog w2 = .ok (.value (.agg (idA (idOf s)))) w2 ∧ ok32 w2 w.heap.size 0 = true ∧ Hid ((put32 w2 w.heap.size 0 (idA (idOf s))).heap[w.heap.size]? = some (.cells (idA (idOf s)) 27 (0, 0)) ∧ Below w.heap.size w (put32 w2 w.heap.size 0 (idA (idOf s))))) := Lib.hid (fun cap w2 hc2 hg2 => by
    have LD := run_ld32_cells w2 w1.heap.size (idOf s) (fun j hj => by
      rw [hc2.cell (by omega)]
      show some (Value.int .u8 ((byteAt r j).toNat : Int)) = _
      rw [← HR.out, bytes_bs]; rfl)
    have RW : w2.rowIs w.heap.size 27 32 (fun _ => .int .u8 0) := R1.out.1.of_block (hg2.block _ R1.out.1.lt (by simp))
    have BB : Below w.heap.size w w2 := below_grown R1.out.2 hg2 (fun g hg => by cases hg)
    exact ⟨LD, ok32_of RW (by omega), Lib.hid (id_put (idOf s) RW BB (Nat.le_refl _))⟩)
  go_wp2_with (with_reducible refine conv_bytes_wp (e := 5) (by kernel_rfl) (by kernel_rfl) (by kernel_rfl) rfl _ rfl r rfl ?_; intro cap w2 hc2 hg2; have LD := (KX.out cap w2 hc2 hg2).1; have o2 := (KX.out cap w2 hc2 hg2).2.1; have HP := (KX.out cap w2 hc2 hg2).2.2; clear hc2 hg2)
  refine bodyPost_ret (results_row_tmp (p := 2) (u := 3) rfl _ _ w.heap.size 27 (idA (idOf s)) (0, 0) rfl HP.out.1 Try.underlying27 (by rw [idA_size]; kernel_rfl)) rfl ⟨?_, HP.out.2⟩
  rfl
/-- A name in digits is read as the name. -/
theorem text_back (I : Nat → UInt8) : (bs (textL I)).size = 64 ∧ (∀ j, j < 64 → 0 ≤ dvB (byteAt (bs (textL I)) j)) ∧ ∀ k, k < 32 → idOf (bs (textL I)) k = I k := by
  have hb : ∀ k, k < 32 → (textL I).getD (2 * k) 0 = digF ((I k).toNat / 16) ∧ (textL I).getD (2 * k + 1) 0 = digF ((I k).toNat % 16) := by
    have g : ∀ (l : List UInt8) (k : Nat), k < l.length → (hexL l).getD (2 * k) 0 = digF ((l.getD k 0).toNat / 16) ∧ (hexL l).getD (2 * k + 1) 0 = digF ((l.getD k 0).toNat % 16) := by
      intro l
      induction l with
      | nil => intro k hk; simp at hk
      | cons a l ih =>
        intro k hk
        cases k with
        | zero => exact ⟨rfl, rfl⟩
        | succ k =>
          have := ih k (by simpa using hk)
          exact this
    intro k hk
    have := g ((List.range 32).map I) k (by simpa using hk)
    unfold textL
    simpa [List.getD, hk] using this
  have hsz : (bs (textL I)).size = 64 := by rw [bs_size]; unfold textL; rw [hexL_len]; simp
  refine ⟨hsz, fun j hj => ?_, fun k hk => ?_⟩
  · rw [bytes_bs]
    obtain ⟨k, hk⟩ : ∃ k, j = 2 * k ∨ j = 2 * k + 1 := ⟨j / 2, by omega⟩
    have h2 := hb k (by omega)
    have hI := (I k).toNat_lt
    rcases hk with rfl | rfl
    · rw [h2.1, dv_dig _ (by omega)]; omega
    · rw [h2.2, dv_dig _ (by omega)]; omega
  · have h2 := hb k hk
    have hI := (I k).toNat_lt
    unfold idOf unL hv
    simp only [List.getD_eq_getElem?_getD, List.getElem?_map, List.getElem?_range hk, Option.map_some, Option.getD_some]
    rw [bytes_bs, bytes_bs, h2.1, h2.2, dv_dig _ (by omega), dv_dig _ (by omega)]
    have e : 16 * ((((I k).toNat / 16 : Nat) : Int)).toNat + ((((I k).toNat % 16 : Nat) : Int)).toNat = (I k).toNat := by omega
    rw [e]
    exact UInt8.ofNat_toNat
end Go.Proofs.Ytfoandpcoakcjaa
namespace Go.Proofs.Ytfoandpcoakcjaa
open Go.RowKit Dig
set_option linter.unusedVariables false
attribute [local go_sem ↓] execOp_ld32 execOp_st32
attribute [local go_sem] run_ld32 run_st32
def eqB (I J : Nat → UInt8) : Bool := (List.range 32).map I == (List.range 32).map J
theorem eq_ids (I J : Nat → UInt8) (w : World) : (Op.equalIn 10000 27 (.agg (idA I)) (.agg (idA J))).run Try.prog w = .ok (eqB I J) w := by
  have h := run_equalIn_bytes (P := Try.prog) w 9998 27 5 32 (by kernel_rfl) (by kernel_rfl) (fun w => by kernel_rfl) ((List.range 32).map I) ((List.range 32).map J) (by simp) (by simp)
  have e : ∀ I : Nat → UInt8, (((List.range 32).map I).map Extern.Stop.cell).toArray = idA I := fun I => by
    unfold idA; rw [List.map_map]; rfl
  rw [e I, e J] at h
  exact h
theorem eqB_same (I : Nat → UInt8) : eqB I I = true := by unfold eqB; exact beq_self_eq_true _
theorem new_id (w : World) (I : Nat → UInt8) : ok32 (w.alloc zeroId) w.heap.size 0 = true ∧ (put32 (w.alloc zeroId) w.heap.size 0 (idA I)).rowIs w.heap.size 27 32 (u8V I) ∧ Below w.heap.size w (put32 (w.alloc zeroId) w.heap.size 0 (idA I)) := by
  have z := zeros_row w (T := 27) (c := _) (n := 32) (z := .int .u8 0) (by rfl)
  have z' : (w.alloc zeroId).rowIs w.heap.size 27 32 (fun _ => .int .u8 0) := z
  obtain ⟨q1, q2⟩ := put32_row z' 0 (idA I) (by omega) (idA_full I)
  refine ⟨ok32_of z' (by omega), q1.congr (fun i hi => ?_), below_grown ((Below.refl _ _).alloc (Nat.le_refl _) _) q2 (fun g hg => by cases hg; exact Nat.le_refl _)⟩
  rw [if_pos (by omega), Nat.sub_zero, List.getD_eq_getElem?_getD, Array.getElem?_toList, idA_get I i hi]; rfl
theorem text_v {I : Nat → UInt8} {t : ByteArray} (hT : bs (textL I) = t) (w : World) :
    Calls Try.prog 37 #[.agg (idA I)] w fun e w' => e = .returned (.string t) ∧ Below w.heap.size w w' := by
  rw [← hT]; exact text_any I w
theorem parse_v {I : Nat → UInt8} {t : ByteArray} (hT : bs (textL I) = t) (w : World) :
    Calls Try.prog 36 #[.string t] w fun e w' => e = .returned (.tuple #[.agg (idA I), .int .i64 0]) ∧ Below w.heap.size w w' := by
  obtain ⟨h1, h2, h3⟩ := text_back I
  rw [hT] at h1 h2 h3
  rw [← idA_congr h3]
  exact parse64_any t w h1 h2
end Go.Proofs.Ytfoandpcoakcjaa
namespace Go.Proofs.Ytfoandpcoakcjaa
open Go.RowKit Wir
set_option linter.unusedVariables false
def bslI (a : Value) : Sem Next := do pure (.value (← Instr.buildSlice 23 1 #[(0, a)]))
theorem execOp_bslI (ρ : Operand → Value) (dst : Option Tmp) (a : Operand) (ty : TypeId) (pos : String) (after : Array Edge) (guard : Option (Nat × Bool)) :
    execOp ρ { dst, op := .buildSlice 23 1 #[(0, a)], type := ty, pos, after, guard } = bslI (ρ a) := by
  unfold execOp bslI; simp
theorem run_bslI (w : World) (vs : Array Value) (h : full32 vs = true) : (bslI (.agg vs)).run Try.prog w = .ok (.value (.slice (some ⟨w.heap.size, 0, none⟩) 1 1)) (w.alloc (.cells vs 27)) := by
  have h : vs.size = 32 := by
    unfold full32 at h
    rw [Bool.and_eq_true, decide_eq_true_eq] at h
    exact h.1
  obtain ⟨l⟩ := vs
  obtain ⟨a0, a1, a2, a3, a4, a5, a6, a7, a8, a9, a10, a11, a12, a13, a14, a15, a16, a17, a18, a19, a20, a21, a22, a23, a24, a25, a26, a27, a28, a29, a30, a31, e⟩ : ∃ a0 a1 a2 a3 a4 a5 a6 a7 a8 a9 a10 a11 a12 a13 a14 a15 a16 a17 a18 a19 a20 a21 a22 a23 a24 a25 a26 a27 a28 a29 a30 a31, l = [a0, a1, a2, a3, a4, a5, a6, a7, a8, a9, a10, a11, a12, a13, a14, a15, a16, a17, a18, a19, a20, a21, a22, a23, a24, a25, a26, a27, a28, a29, a30, a31] := by
    match l, h with
    | a0 :: a1 :: a2 :: a3 :: a4 :: a5 :: a6 :: a7 :: a8 :: a9 :: a10 :: a11 :: a12 :: a13 :: a14 :: a15 :: a16 :: a17 :: a18 :: a19 :: a20 :: a21 :: a22 :: a23 :: a24 :: a25 :: a26 :: a27 :: a28 :: a29 :: a30 :: a31 :: [], _ => exact ⟨a0, a1, a2, a3, a4, a5, a6, a7, a8, a9, a10, a11, a12, a13, a14, a15, a16, a17, a18, a19, a20, a21, a22, a23, a24, a25, a26, a27, a28, a29, a30, a31, rfl⟩
  subst e
  unfold bslI
  go_simp
theorem own_slI {w : World} {base n size : Nat} {e : TypeId} {v : Value} {xs : List Value} (h : w.ownsRow base e size v n xs) (hn : 1 ≤ n) : ∃ g c, v = .slice (some ⟨g, 0, none⟩) n c ∧ n ≤ c := by
  rcases h.2 with ⟨_, h2⟩ | ⟨g, cap, cur, rfl, _, _, h5, _⟩
  · omega
  · exact ⟨g, cap, rfl, h5⟩
theorem sumsF_succ (r : ByteArray) (n : Nat) : sumsF r (n + 1) = sumsF r n ++ [fun k => byteAt r (32 * n + k)] := by
  unfold sumsF; rw [List.range_succ, List.map_append]; rfl
/-- What holds while the sums are read. -/
structure PyT (T TT : TypeId) (w wr : World) (t : Tbl) (r : ByteArray) (rb R tb : Nat) (v : Value) : Prop where
  res : Blk wr rb TT (tblA zTbl (.slice none 0 0))
  rd : Blk wr R T #[.string r]
  tab : Blk wr tb TT (tblA t v)
  own : wr.ownsRow w.heap.size 27 32 v t.ids.length (idsV t.ids)
  below : Below w.heap.size w wr
  lo : w.heap.size ≤ rb ∧ rb < R ∧ R < tb
  ty : 27 ≠ T ∧ 27 ≠ TT
section
variable {T TT : TypeId} {w wr w' : World} {t : Tbl} {r : ByteArray} {rb R tb : Nat} {v : Value}
theorem PyT.mono (h : PyT T TT w wr t r rb R tb v) (hb : Below wr.heap.size wr w') : PyT T TT w w' t r rb R tb v :=
  ⟨h.res.below hb h.res.lt, h.rd.below hb h.rd.lt, h.tab.below hb h.tab.lt, own_below h.own hb, h.below.trans (hb.mono h.below.size), h.lo, h.ty⟩
theorem PyT.drew (h : PyT T TT w wr t r rb R tb v) : PyT T TT w wr.drew t r rb R tb v := ⟨h.res, h.rd, h.tab, own_drew h.own, h.below.drew, h.lo, h.ty⟩
/-- The reader goes on; all other blocks stay. -/
theorem PyT.read {r' : ByteArray} (h : PyT T TT w wr t r rb R tb v) (hr : Blk w' R T #[.string r']) (hg : wr.grownBy w' (some R)) : PyT T TT w w' t r' rb R tb v :=
  ⟨h.res.grown hg (by intro e; injection e with e; have := h.lo; omega), hr, h.tab.grown hg (by intro e; injection e with e; have := h.lo; omega),
    h.own.kept hg (.inr (own_blk_ne h.own h.rd h.ty.1)), h.below.grown hg h.below.size (fun k e => by injection e with e; have := h.lo; omega), h.lo, h.ty⟩
/-- A sum is appended; what is there before the list is stored, and behind it. -/
theorem PyT.push {v' : Value} {I : Idn} (h : PyT T TT w wr t r rb R tb v) (ho : w'.ownsRow w.heap.size 27 32 v' (t.ids.length + 1) (idsV t.ids ++ (idA I).toList)) (hg : wr.grownBy w' v.ownBlock) :
    Blk w' tb TT (tblA t v) ∧ PyT T TT w (w'.setCell ⟨tb, 3, none⟩ v') ⟨t.da, t.pa, t.sz, t.ids ++ [I]⟩ r rb R tb v' := by
  have n1 : ∀ g cs, Blk wr g TT cs → some g ≠ v.ownBlock := fun g cs hb e => own_blk_ne h.own hb h.ty.2 e.symm
  have n2 : some R ≠ v.ownBlock := fun e => own_blk_ne h.own h.rd h.ty.1 e.symm
  have a1 := h.tab.grown hg (n1 _ _ h.tab)
  have a2 := h.res.grown hg (n1 _ _ h.res)
  have a3 := h.rd.grown hg n2
  have a4 : Below w.heap.size w w' := h.below.grown hg h.below.size (fun b e => (h.own.lt b e).1)
  have ho2 : w'.ownsRow w.heap.size 27 32 v' (t.ids ++ [I]).length (idsV (t.ids ++ [I])) := by
    rw [List.length_append, idsV_app, idsV_single]; exact ho
  have hne := own_blk_ne ho2 a1 h.ty.2
  have a5 := a1.set_ 3 v'
  refine ⟨a1, a2.far (p := ⟨tb, 3, none⟩) (by have := h.lo; show rb ≠ tb; omega) _, a3.far (p := ⟨tb, 3, none⟩) (by have := h.lo; show R ≠ tb; omega) _, a5, ?_, a4.setCell (p := ⟨tb, 3, none⟩) (by have := h.lo; show w.heap.size ≤ tb; omega) _, h.lo, h.ty⟩
  exact ho2.kept (only_setCell (grown_refl w' (some tb)) (p := ⟨tb, 3, none⟩) (.inl rfl) _) (.inr hne)
/-- A cell of a name's box is written. -/
theorem PyT.setId {ib N : Nat} {f : Nat → Value} (h : PyT T TT w wr t r rb R tb v) (hi : wr.rowIs ib 27 N f) (j : Nat) (u : Value) (hib : w.heap.size ≤ ib) (hne : v.ownBlock ≠ some ib) : PyT T TT w (wr.setCell ⟨ib, j, none⟩ u) t r rb R tb v := by
  obtain ⟨c, hb, _, _⟩ := hi
  have e (g : Nat) (T' : TypeId) (cs : Array Value) (hg : Blk wr g T' cs) (hT : 27 ≠ T') : g ≠ ib := fun e => by
    subst e
    have h1 : wr.heap[g]? = some (.cells cs T' (0, 0)) := hg
    rw [h1] at hb
    injection hb with hb
    injection hb with _ hb _
    exact hT hb.symm
  exact ⟨h.res.far (p := ⟨ib, j, none⟩) (e _ _ _ h.res h.ty.2) u, h.rd.far (p := ⟨ib, j, none⟩) (e _ _ _ h.rd h.ty.1) u, h.tab.far (p := ⟨ib, j, none⟩) (e _ _ _ h.tab h.ty.2) u,
    h.own.kept (only_setCell (grown_refl wr (some ib)) (p := ⟨ib, j, none⟩) (.inl rfl) _) (.inr hne), h.below.setCell (p := ⟨ib, j, none⟩) hib u, h.lo, h.ty⟩
def idS' (r : ByteArray) (at_ k : Nat) : Nat → UInt8 := fun i => if i < k then byteAt r (at_ + i) else 0
end
end Go.Proofs.Ytfoandpcoakcjaa
namespace Go.Proofs.Ytfoandpcoakcjaa
open Go.RowKit
set_option linter.unusedVariables false
section
variable {P : Program} {w : World}
theorem run_append_one (t e ty : TypeId) (ht : P.underlying t = some (.slice e)) (i : TypeInfo) (hi : P.info? e = some i) (hz : i.zero = some (.int .u8 0)) (hs1 : i.size = 1) (hb : i.bytes = 1)
    {g n cap : Nat} {f : Nat → Value} (h : bufIs w e g n cap f) (N : Nat) (u : Value) (hN : w.cell? ⟨N, 0, none⟩ = some u) (h1 : u.oneCell' = true) (hroom : n + 1 ≤ 140737488355328) :
    ∃ g' cap' w', (Builtin.append_ #[t, t] ty #[.slice (some ⟨g, 0, none⟩) n cap, .slice (some ⟨N, 0, none⟩) 1 1]).run P w = .ok (.slice (some ⟨g', 0, none⟩) (n + 1) cap') w' ∧ bufIs w' e g' (n + 1) cap' (fun j => if j = n then u else f j) ∧ w.grownBy w' (some g) ∧ (g' = g ∨ g' = w.heap.size) := by
  obtain ⟨c, fr, hh, hc1, hc2, hc3, hc4⟩ := id h
  have hfu : ∀ W : World, W.cell? ⟨N, 0, none⟩ = some u → (Builtin.firstCells 1 1 (.slice (some ⟨N, 0, none⟩) 1 1)).run P W = .ok [u].toArray W := fun W hW => run_firstCells_some (P := P) W 1 1 ⟨N, 0, none⟩ 1 1 [u] (by simp) (fun j v hj => by
    match j, hj with
    | 0, hj => simp at hj; subst hj; simpa [Addr.add] using hW)
  have hf1 := hfu w hN
  have hf2 := hfu w.drew hN
  by_cases hr : n + 1 ≤ cap
  · have hst := run_storeCells_cells (P := P) g n [u] 0 w (fun j hj => by
        rw [cell_of_row w g _ c e fr hh, Array.getElem?_eq_getElem (by simp at hj; omega)]; rfl) (fun j hj => h.frozen (by simp at hj; omega)) (fun v hv => by rw [List.mem_singleton] at hv; subst hv; exact h1)
    simp only [Nat.add_zero] at hst
    obtain ⟨c', a1, a2, a3, a4⟩ := block_setCells [u] n w c hh (by simp; omega)
    refine ⟨g, cap, w.setCells g n [u], ?_, ⟨c', fr, a1, by omega, hr, fun j hj => ?_, hc4⟩, a4, .inl rfl⟩
    · simp only [Builtin.append_, Builtin.lenOf]
      simp [run_underlying ht, sizeOf, typeInfo, hi, hs1, hr, hf1, Addr.add_lit, hst]
    · rw [a3]
      show _ = some (if j = n then u else f j)
      by_cases e1 : j = n
      · subst e1; rw [if_pos ⟨by omega, by simp⟩, if_pos rfl, Nat.sub_self]; rfl
      · rw [if_neg (by simp; omega), if_neg e1]; exact hc3 j (by omega)
  · have h63' : ¬ (9223372036854775807 < ((n : Int) + 1)) := by omega
    have h48' : ¬ (281474976710656 < Builtin.nextslicecap (n + 1) cap) := by
      have := growslice_fits (need := n + 1) (old := cap) (bytes := 1) (by omega) (by omega)
      omega
    have hge := grownCap_ge w (n + 1) cap e
    have hfo := run_firstCells_some (P := P) w.drew 1 n ⟨g, 0, none⟩ n cap ((List.range n).map f) (by simp) (fun j u hj => by
      have hjn : j < n := by
        rcases Nat.lt_or_ge j n with h | h
        · exact h
        · simp [h] at hj
      simp [hjn] at hj
      subst hj
      rw [add0]
      exact h.drew.cell hjn)
    refine ⟨w.heap.size, grownCap w (n + 1) cap e, w.drew.alloc (.cells (((List.range n).map f).toArray ++ [u].toArray ++ Builtin.zeroCells #[.int .u8 0] (grownCap w (n + 1) cap e - (n + 1))) e), ?_, ⟨_, (0, 0), heap_alloc_new w.drew _, ?_, hge, fun j hj => ?_, fun i _ h => by simp at h⟩, ?_, .inr rfl⟩
    · have hzc : (Value.int IntKind.u8 0).cells = #[.int .u8 0] := rfl
      simp only [Builtin.append_, Builtin.lenOf]
      simp [run_underlying ht, sizeOf, typeInfo, zeroValue, hi, hz, hs1, hb, hr, h63', h48', Question.forced, hf2, hfo, newRow, grownCap, hzc]
    · simp [Builtin.zeroCells]; omega
    · have hsz : (((List.range n).map f).toArray ++ [u].toArray).size = n + 1 := by simp
      rw [Array.getElem?_append_left (by rw [hsz]; exact hj)]
      show _ = some (if j = n then u else f j)
      by_cases e1 : j = n
      · subst e1; rw [if_pos rfl, Array.getElem?_append_right (by simp)]; simp
      · rw [if_neg e1, Array.getElem?_append_left (by simp; omega)]; simp [show j < n by omega]
    · exact only_alloc (only_drew (World.grownBy.refl _ _)) _
theorem append_one_wp {ops : Array Oper} {rest : List Oper} {o : Oper} {a : Act} {Q : Exit → Act → World → Prop} (hgd : o.guard = none) (s x : Operand) (t : TypeId)
    (ho : o.op = .call { callee := .builtin .append, args := #[s, x], argTypes := #[t, t] }) (e : TypeId) (ht : P.underlying t = some (.slice e)) (i : TypeInfo) (hi : P.info? e = some i) (hz : i.zero = some (.int .u8 0)) (hs1 : i.size = 1) (hb : i.bytes = 1)
    (g n cap : Nat) (f : Nat → Value) (hs : a.eval s = .slice (some ⟨g, 0, none⟩) n cap) (h : bufIs w e g n cap f) (u : Value) (N : Nat) (hx : a.eval x = .slice (some ⟨N, 0, none⟩) 1 1) (hN : N = w.heap.size) (h1 : u.oneCell' = true) (hroom : n + 1 ≤ 140737488355328)
    (hK : ∀ g' cap' w', bufIs w' e g' (n + 1) cap' (fun j => if j = n then u else f j) → w.grownBy w' (some g) → (g' = g ∨ w.heap.size ≤ g') → wpList P ops Q rest (a.put o.dst (.slice (some ⟨g', 0, none⟩) (n + 1) cap')) w') :
    wpList P ops Q (o :: rest) a (w.alloc (.cells #[u] e)) := by
  subst hN
  refine wpList_plain hgd fun K hK' => ?_
  have hc : (w.alloc (.cells #[u] e)).cell? ⟨w.heap.size, 0, none⟩ = some u := (World.rowIs_alloc w #[u] e (fun _ => u) (fun i hi => by
      have : i = 0 := by simpa using hi
      subst this; rfl)).cell (i := 0) (by simp)
  obtain ⟨g', cap', w', hrun, h2, h3, h4⟩ := run_append_one (P := P) (w := w.alloc (.cells #[u] e)) t e o.type ht i hi hz hs1 hb (h.of_block (Below.heap_alloc w _ g h.lt)) w.heap.size u hc h1 hroom
  unfold Oper.wp execOp
  simp only [ho, resolve, invoke, builtin, Sem.run_bind, Sem.run_pure, Result.andThen_ok, List.map_toArray, List.map_cons, List.map_nil, hs, hx, hrun]
  refine hK' _ _ (hK g' cap' w' h2 (grown_both (only_alloc (World.grownBy.refl _ _) _) h3) ?_)
  rcases h4 with h4 | h4
  · exact .inl h4
  · exact .inr (by rw [h4]; simp)
theorem append_str_wp {ops : Array Oper} {rest : List Oper} {o : Oper} {a : Act} {Q : Exit → Act → World → Prop} (hgd : o.guard = none) (s x : Operand) (t sT : TypeId)
    (ho : o.op = .call { callee := .builtin .append, args := #[s, x], argTypes := #[t, sT] }) (e : TypeId) (ht : P.underlying t = some (.slice e)) (hsT : P.underlying sT = some .string) (i : TypeInfo) (hi : P.info? e = some i) (hz : i.zero = some (.int .u8 0)) (hs1 : i.size = 1) (hb : i.bytes = 1)
    (g n cap : Nat) (f : Nat → Value) (hs : a.eval s = .slice (some ⟨g, 0, none⟩) n cap) (h : bufIs w e g n cap f) (st : ByteArray) (hx : a.eval x = .string st) (hroom : n + st.size ≤ 140737488355328)
    (hK : ∀ g' cap' w', bufIs w' e g' (n + st.size) cap' (thenStr f n st) → w.grownBy w' (some g) → (g' = g ∨ g' = w.heap.size) → wpList P ops Q rest (a.put o.dst (.slice (some ⟨g', 0, none⟩) (n + st.size) cap')) w') :
    wpList P ops Q (o :: rest) a w := by
  refine wpList_plain hgd fun K hK' => ?_
  obtain ⟨g', cap', w', hrun, h2, h3, h4⟩ := run_append_str (P := P) (w := w) t sT e o.type ht hsT i hi hz hs1 hb h st hroom
  unfold Oper.wp execOp
  simp only [ho, resolve, invoke, builtin, Sem.run_bind, Sem.run_pure, Result.andThen_ok, List.map_toArray, List.map_cons, List.map_nil, hs, hx, hrun]
  exact hK' _ _ (hK g' cap' w' h2 h3 h4)
end
end Go.Proofs.Ytfoandpcoakcjaa
namespace Go.Proofs.Ytfoandpcoakcjaa
open Go.RowKit
set_option linter.unusedVariables false
theorem cut_four (W : World) (N : Nat) : (Instr.sliceAt 130 (.pointer (some ⟨N, 0, none⟩)) (some (.int .i64 4)) none none).run Try.prog W = .ok (.slice (some ⟨N, 4, none⟩) 4 4) W := by
  have hi : (Try.prog.info? 5).map (·.size) = some 1 := by kernel_rfl
  obtain ⟨i, hi, hs⟩ := Option.map_eq_some_iff.1 hi
  have ht : Try.prog.underlying 130 = some (.array 8 5) := by kernel_rfl
  simp [Instr.sliceAt, Instr.sureAddr, run_underlying ht, Instr.sliceBounds, Instr.sliceBound, asIntOf, sizeOf, typeInfo, hi, hs, Addr.add, go_sem]
set_option maxRecDepth 100000 in
set_option maxHeartbeats 0 in
theorem putFixed4_any (s : ByteArray) (n : Nat) (w : World) (hn : n < 4294967296) (hs : s.size ≤ 4611686018427387904) :
    Calls Try.prog 50 #[.string s, .int .u64 (n : Int), .int .i64 4] w fun e w' => e = .returned (.tuple #[.string (s ++ bs (beK 4 n)), .int .i64 0]) ∧ Below w.heap.size w w' := by
  have Z := Lib.hid (zeros_row w (T := 130) (n := 8) (z := .int .u8 0) (c := #[.int .u8 0, .int .u8 0, .int .u8 0, .int .u8 0, .int .u8 0, .int .u8 0, .int .u8 0, .int .u8 0]) rfl)
  have hsh : ¬ ((0 : Int) < (n : Int) / 2 ^ 32) := by
    have : (n : Int) / 2 ^ 32 = 0 := Int.ediv_eq_zero_of_lt (by omega) (by omega)
    omega
  go_enter Try.func50, Try.ntmps50
  go_wp2
  clear hsh
  all_goals
    have BA : Hid (Below w.heap.size w (w.alloc (.cells #[.int .u8 0, .int .u8 0, .int .u8 0, .int .u8 0, .int .u8 0, .int .u8 0, .int .u8 0, .int .u8 0] 130))) := Lib.hid ((Below.refl _ _).alloc (Nat.le_refl _) _)
    generalize w.alloc (.cells #[.int .u8 0, .int .u8 0, .int .u8 0, .int .u8 0, .int .u8 0, .int .u8 0, .int .u8 0, .int .u8 0] 130) = w1 at Z BA ⊢
    go_loopw [28] (fun i wr => ∃ k : Nat, k ≤ 8 ∧ i = .int .i64 (k : Int) ∧ Hid (wr.rowIs w.heap.size 130 8 (u8V (beF n k)) ∧ Below w.heap.size w wr)) (fun i _ => 8 - (intOf i).toNat)
    case atStart => exact ⟨0, by omega, rfl, Lib.hid ⟨Z.out.congr fun i hi => by unfold u8V beF; rw [if_neg (by omega)]; rfl, BA.out⟩⟩
    case round =>
      obtain ⟨k, hk, rfl, HR⟩ := hrel
      by_cases hlt : k < 8
      · obtain ⟨j, hj⟩ : ∃ j, 7 - k = j := ⟨_, rfl⟩
        obtain ⟨m, hm⟩ : ∃ m, 8 * k = m := ⟨_, rfl⟩
        have hji : (7 : Int) - (k : Int) = (j : Int) := by omega
        have hmi : (8 : Int) * (k : Int) = (m : Int) := by omega
        have hj8 : j < 8 := by omega
        have HJ : Hid (7 - k = j ∧ 8 * k = m ∧ k < 8) := Lib.hid ⟨hj, hm, hlt⟩
        have hm64 : m < 64 := by omega
        obtain ⟨v, cj⟩ : ∃ v, w.heap.size = w.heap.size ∧ wr.cell? ⟨w.heap.size, j, none⟩ = some v := ⟨_, rfl, HR.out.1.cell hj8⟩
        have cj := cj.2
        have fj := HR.out.1.frozen j
        clear hj hm
        go_wp2
        go_roundw
        case rel =>
          refine ⟨k + 1, by omega, by go_num, Lib.hid ⟨(HR.out.1.set j _).congr fun i hi => ?_, HR.out.2.setCell (Nat.le_refl _) _⟩⟩
          obtain ⟨q1, q2, q3⟩ := HJ.out
          unfold u8V beF
          by_cases e : i = j
          · rw [if_pos e, if_pos (by omega), byte_shift, ← q2, show 8 * k = 8 * (7 - i) by omega]
          · rw [if_neg e]
            by_cases h8 : 8 ≤ k + i
            · rw [if_pos h8, if_pos (by omega)]
            · rw [if_neg h8, if_neg (by omega)]
        case measure => simp [intOf]; omega
      · obtain rfl : k = 8 := by omega
        have RC : Hid (∀ j, j < 4 → wr.cell? (({ block := w.heap.size, off := 4 } : Addr).add j) = some (.int .u8 (((beK 4 n).getD j 0).toNat : Int))) := Lib.hid (fun j hj => by
          rw [show ({ block := w.heap.size, off := 4 } : Addr).add j = ⟨w.heap.size, 4 + j, none⟩ by unfold Addr.add; split <;> simp_all]
          rw [HR.out.1.cell (by omega)]; unfold u8V; rw [beF_end n (4 + j) (by omega)]
          unfold beK; rw [List.getD_eq_getElem?_getD, List.getD_eq_getElem?_getD, List.getElem?_drop])
        have CT := cut_four wr w.heap.size
        have hbz : (bs (beK 4 n)).size ≤ 10 := by rw [bs_size, beK_length _ _ (by omega)]; omega
        rw [show ((8 : Nat) : Int) = 8 from rfl]
        go_wp2_with (with_reducible refine conv_str_wp (e := 5) (by kernel_rfl) (by kernel_rfl) (by kernel_rfl) rfl _ rfl ⟨w.heap.size, 4, none⟩ 4 4 rfl (beK 4 n) (beK_length _ _ (by omega)) RC.out ?_)
        go_ret2
        exact ⟨rfl, HR.out.2⟩
theorem fits4_any (n : Nat) (w : World) (hn : n < 4294967296) : Calls Try.prog 124 #[.int .u64 (n : Int), .int .i64 4] w fun e w' => e = .returned (.bool true) ∧ w = w' := by
  go_enter Try.func124, Try.ntmps124
  go_wp2
  go_ret
  refine ⟨?_, rfl⟩
  simp
  omega
/-- The first j of the four bytes. -/
theorem beK_take (n j : Nat) (h : j < 4) : (beK 4 n).take (j + 1) = (beK 4 n).take j ++ [UInt8.ofNat (n / 2 ^ (8 * (3 - j)))] := by
  rw [List.take_add_one]
  congr 1
  have hl : j < (beK 4 n).length := by rw [beK_length _ _ (by omega)]; exact h
  have := beK_at 4 n j (by omega) h
  rw [List.getD_eq_getElem?_getD, List.getElem?_eq_getElem hl] at this
  rw [List.getElem?_eq_getElem hl]
  have e : (beK 4 n)[j] = UInt8.ofNat (n / 2 ^ (8 * (3 - j))) := this
  rw [e]; rfl
set_option maxRecDepth 100000 in
set_option maxHeartbeats 0 in
theorem rputFixed4_any (n : Nat) (w : World) (hn : n < 4294967296) :
    Calls Try.prog 110 #[.string { data := #[] }, .int .u64 (n : Int), .int .i64 4] w fun e w' => e = .returned (.tuple #[.string (bs (beK 4 n)), .int .i64 0]) ∧ Below w.heap.size w w' := by
  go_enter Try.func110, Try.ntmps110
  go_wp2_with fail
  refine (fits4_any n _ hn).mono ?_; rintro e w' ⟨rfl, rfl⟩
  go_wp2
  go_loopw [0, 8] (fun s i wr => ∃ k : Nat, k ≤ 4 ∧ i = .int .i64 (3 - (k : Int)) ∧ s = .string (bs ((beK 4 n).take k)) ∧ Hid (Below w.heap.size w wr)) (fun _ i _ => (intOf i + 1).toNat)
  case atStart => exact ⟨0, by omega, rfl, rfl, Lib.hid (Below.refl _ _)⟩
  case round =>
    obtain ⟨k, hk, rfl, rfl, HB⟩ := hrel
    by_cases hlt : k < 4
    · obtain ⟨j, hj⟩ : ∃ j, 3 - k = j := ⟨_, rfl⟩
      obtain ⟨m, hm⟩ : ∃ m, 8 * j = m := ⟨_, rfl⟩
      have hji : (3 : Int) - (k : Int) = (j : Int) := by omega
      have hmi : (8 : Int) * (j : Int) = (m : Int) := by omega
      have hm64 : m < 64 := by omega
      have hj8 : j < 8 := by omega
      have HS : Hid (bs ((beK 4 n).take (k + 1)) = bs ((beK 4 n).take k) ++ bs [UInt8.ofNat (n / 2 ^ m)]) := Lib.hid (by
        rw [beK_take n k hlt, hj, hm]
        exact ByteArray.ext (by simp [bs]))
      have hz : (bs ((beK 4 n).take k)).size ≤ 8 := by rw [bs_size, List.length_take]; omega
      have hz1 : (bs [UInt8.ofNat (n / 2 ^ m)]).size = 1 := rfl
      generalize (beK 4 n).take k = l at *
      have HJ := Lib.hid hj
      rw [hji]
      clear hj hm hji
      have BS := Lib.hid (byte_shift n m)
      go_wp2_with (with_reducible refine conv_str_wp (e := 5) (by kernel_rfl) (by kernel_rfl) (by kernel_rfl) rfl _ rfl ⟨wr.heap.size, 0, none⟩ 1 1 rfl [UInt8.ofNat (n / 2 ^ m)] rfl (fun j hj => ?_) ?_)
      · obtain rfl : j = 0 := by omega
        rw [add0]
        have := (World.rowIs_alloc wr #[.int .u8 ((n : Int) / 2 ^ m % 256)] 5 (fun _ => .int .u8 ((n : Int) / 2 ^ m % 256)) (fun i hi => by
          have : i = 0 := by simpa using hi
          subst this; rfl)).cell (i := 0) (by simp)
        rw [BS.out] at this
        rw [BS.out]
        exact this
      · go_roundw
        case rel =>
          refine ⟨k + 1, by omega, by have := HJ.out; first | (congr 1; omega) | congr 1, ?_, Lib.hid (HB.out.alloc HB.out.size _)⟩
          rw [HS.out]
        case measure => simp [intOf] <;> omega
    · obtain rfl : k = 4 := by omega
      have E : Hid ((beK 4 n).take 4 = beK 4 n) := Lib.hid (List.take_of_length_le (by rw [beK_length _ _ (by omega)]; exact Nat.le_refl _))
      rw [show (3 : Int) - ((4 : Nat) : Int) = -1 from rfl]
      go_wp2
      go_ret2
      exact ⟨by rw [E.out]; rfl, HB.out⟩
set_option maxRecDepth 100000 in
theorem rfixed4_any (n : Nat) (w : World) (hn : n < 4294967296) :
    Calls Try.prog 82 #[.int .u64 (n : Int), .int .i64 4] w fun e w' => e = .returned (.string (bs (beK 4 n))) ∧ Below w.heap.size w w' := by
  go_enter Try.func82, Try.ntmps82
  go_wp2_with fail
  refine (rputFixed4_any n _ hn).mono ?_; rintro e w' ⟨rfl, hb⟩
  go_wp2
  go_ret
  exact ⟨rfl, hb⟩
end Go.Proofs.Ytfoandpcoakcjaa
namespace Go.Proofs.Ytfoandpcoakcjaa
open Go.RowKit Wir
set_option linter.unusedVariables false
theorem crcF_two (p : ByteArray) : onC (onC 0 (hdB p)) p = crcF p := onC_on _ _ _
set_option maxRecDepth 100000 in
theorem frame_any (p : ByteArray) (w : World) (hp : p.size ≤ 67108864) :
    Calls Try.prog 25 #[.string p] w fun e w' => e = .returned (.tuple #[.string (frmB p), .int .i64 0]) ∧ Below w.heap.size w w' := by
  have F4 := Lib.hid (fun W => putFixed4_any ⟨#[]⟩ p.size W (by omega) (by decide))
  have HE : Hid ((⟨#[]⟩ : ByteArray) ++ bs (beK 4 p.size) = hdB p) := Lib.hid (show ByteArray.empty ++ hdB p = hdB p from ByteArray.empty_append)
  have HZ := Lib.hid (hdB_size p)
  have CF := Lib.hid (crcF_two p)
  have C4 := Lib.hid (fun W => crc_any (hdB p) W (by rw [hdB_size]; omega))
  have O4 := Lib.hid (fun W => on_any (onC 0 (hdB p)) p W (by omega))
  have G4 := Lib.hid (fun W => putFixed4_any (hdB p) (crcF p).toNat W (UInt32.toNat_lt _) (by rw [hdB_size]; omega))
  rw [HE.out] at F4
  go_enter Try.func25, Try.ntmps25
  go_wp2_with fail
  refine (F4.out _).mono ?_
  rintro e w1 ⟨rfl, hb1⟩
  have HB1 := Lib.hid hb1
  clear hb1 F4 HE
  have FR : Hid (hdB p ++ bs (beK 4 (crcF p).toNat) ++ p = frmB p) := Lib.hid rfl
  have hz8 : Hid ((hdB p ++ bs (beK 4 (crcF p).toNat)).size = 8) := Lib.hid (by rw [ByteArray.size_append, HZ.out, bs_size, beK_length _ _ (by omega)])
  generalize hdB p = h at *
  go_wp2_with fail
  refine (C4.out _).mono ?_
  rintro e w2 ⟨rfl, hb2⟩
  have HB2 : Hid (Below w.heap.size w w2) := Lib.hid (HB1.out.trans (hb2.mono HB1.out.size))
  clear hb2
  go_wp2_with fail
  refine (O4.out _).mono ?_
  rintro e w3 ⟨rfl, hb3⟩
  rw [CF.out]
  have HB3 : Hid (Below w.heap.size w w3) := Lib.hid (HB2.out.trans (hb3.mono HB2.out.size))
  have hc : (crcF p).toNat < 4294967296 := UInt32.toNat_lt _
  clear hb3
  go_wp2_with fail
  (with_reducible refine (G4.out _).mono ?_)
  rintro e w4 ⟨rfl, hb4⟩
  have HB4 : Hid (Below w.heap.size w w4) := Lib.hid (HB3.out.trans (hb4.mono HB3.out.size))
  clear hb4 G4 O4 C4
  generalize h ++ bs (beK 4 (crcF p).toNat) = q at *
  have hq := hz8.out
  go_wp2
  go_ret2
  exact ⟨by rw [← FR.out]; rfl, HB4.out⟩
set_option maxRecDepth 100000 in
theorem rlaid_any (p : ByteArray) (w : World) (hp : p.size ≤ 67108864) :
    Calls Try.prog 49 #[.string p] w fun e w' => e = .returned (.string (frmB p)) ∧ Below w.heap.size w w' := by
  have F4 := Lib.hid (fun W => rfixed4_any p.size W (by omega))
  rw [show bs (beK 4 p.size) = hdB p from rfl] at F4
  go_enter Try.func49, Try.ntmps49
  go_wp2_with fail
  refine (F4.out _).mono ?_
  rintro e w1 ⟨rfl, hb1⟩
  clear F4
  have HB1 := Lib.hid hb1
  have hz := hdB_size p
  have CF : Hid (onC 0 (hdB p ++ p) = crcF p) := Lib.hid rfl
  obtain ⟨h, hhd⟩ : ∃ h, hdB p = h := ⟨_, rfl⟩
  rw [hhd] at hz CF ⊢
  have HH := Lib.hid hhd
  clear hb1 hhd
  have hz2 : (h ++ p).size ≤ 9223372036854775807 := by rw [ByteArray.size_append]; omega
  go_wp2_with fail
  refine (rcrc_any (h ++ p) _ hz2).mono ?_
  rintro e w' ⟨rfl, rfl⟩
  rw [CF.out]
  have hc : (crcF p).toNat < 4294967296 := UInt32.toNat_lt _
  go_wp2_with fail
  refine (rfixed4_any (crcF p).toNat _ hc).mono ?_
  rintro e w2 ⟨rfl, hb2⟩
  have HB2 : Hid (Below w.heap.size w w2) := Lib.hid (HB1.out.trans (hb2.mono HB1.out.size))
  have FR : Hid (h ++ bs (beK 4 (crcF p).toNat) ++ p = frmB p) := Lib.hid (by unfold frmB; rw [HH.out])
  have hq : (bs (beK 4 (crcF p).toNat)).size = 4 := by rw [bs_size, beK_length _ _ (by omega)]
  generalize bs (beK 4 (crcF p).toNat) = q at *
  have hq8 : (h ++ q).size = 8 := by rw [ByteArray.size_append]; omega
  clear hb2 hz2
  go_wp2
  go_ret
  exact ⟨by rw [← FR.out]; rfl, HB2.out⟩
/-- A short number behind a text, a byte a round. -/
def rputF : Nat → ByteArray → Nat → ByteArray
  | 0, s, n => s ++ bs [UInt8.ofNat n]
  | f + 1, s, n => if n < 128 then s ++ bs [UInt8.ofNat n] else rputF f (s ++ bs [UInt8.ofNat (n % 128 + 128)]) (n / 128)
theorem rputF_is (f : Nat) (s : ByteArray) (n : Nat) : rputF f s n = s ++ bs (putN f n) := by
  induction f generalizing s n with
  | zero => rfl
  | succ f ih =>
    unfold rputF putN
    by_cases h : n < 128
    · rw [if_pos h, if_pos h]
    · rw [if_neg h, if_neg h, ih, ByteArray.append_assoc]
      congr 1
theorem byte128 (n : Nat) : IntKind.u8.wrap ((n : Int) % 128 + 128) = ((UInt8.ofNat (n % 128 + 128)).toNat : Int) := by
  rw [UInt8.toNat_ofNat', IntKind.wrap_u8]; omega
theorem byte_conv (wr : World) (u : UInt8) (x : Int) (hx : x = (u.toNat : Int)) (j : Nat) (hj : j < 1) : (wr.alloc (.cells #[.int .u8 x] 5)).cell? (({ block := wr.heap.size, off := 0 } : Addr).add j) = some (.int .u8 (([u].getD j 0).toNat : Int)) := by
  obtain rfl : j = 0 := by omega
  rw [add0, hx]
  exact (World.rowIs_alloc wr #[.int .u8 (u.toNat : Int)] 5 (fun _ => .int .u8 (u.toNat : Int)) (fun i hi => by
    have : i = 0 := by simpa using hi
    subst this; rfl)).cell (i := 0) (by simp)
set_option maxRecDepth 100000 in
theorem rput_any (s : ByteArray) (n : Nat) (w : World) (hn : n < 18446744073709551616) (hs : s.size ≤ 4611686018427387904) :
    Calls Try.prog 22 #[.string s, .int .u64 (n : Int)] w fun e w' => e = .returned (.string (s ++ bs (putL n))) ∧ Below w.heap.size w w' := by
  have E0 : Hid (s ++ bs (putL n) = rputF 9 s n) := Lib.hid (rputF_is 9 s n).symm
  go_enter Try.func22, Try.ntmps22
  go_wp2
  go_loopw [0, 1] (fun t x wr => ∃ (f : Nat) (u : ByteArray) (m : Nat), f ≤ 9 ∧ u.size + f ≤ s.size + 9 ∧ m < 18446744073709551616 ∧ m < 2 ^ (7 * f + 7) ∧ t = .string u ∧ x = .int .u64 (m : Int) ∧ Hid (rputF f u m = rputF 9 s n ∧ Below w.heap.size w wr)) (fun _ x _ => (intOf x).toNat)
  case atStart => exact ⟨9, s, n, by omega, by omega, hn, by omega, rfl, rfl, Lib.hid ⟨rfl, Below.refl _ _⟩⟩
  case round =>
    obtain ⟨f, u, m, hf, hu, hm, hmf, rfl, rfl, HR⟩ := hrel
    by_cases hlt : m < 128
    · have E1 : Hid (rputF f u m = u ++ bs [UInt8.ofNat m]) := Lib.hid (by
        cases f with
        | zero => rfl
        | succ f => rw [rputF, if_pos hlt])
      have hb : (m : Int) = ((UInt8.ofNat m).toNat : Int) := by rw [UInt8.toNat_ofNat']; omega
      have HBV := Lib.hid hb
      have hz1 : (bs [UInt8.ofNat m]).size = 1 := rfl
      clear hmf hb
      go_wp2_with (with_reducible refine conv_str_wp (e := 5) (by kernel_rfl) (by kernel_rfl) (by kernel_rfl) rfl _ rfl ⟨wr.heap.size, 0, none⟩ 1 1 rfl [UInt8.ofNat m] rfl (byte_conv wr (UInt8.ofNat m) _ HBV.out) ?_)
      go_ret
      exact ⟨by rw [E0.out, ← HR.out.1, E1.out]; rfl, HR.out.2.alloc HR.out.2.size _⟩
    · have hf0 : f ≠ 0 := by
        intro e
        subst e
        have : (2 : Nat) ^ (7 * 0 + 7) = 128 := by decide
        omega
      obtain ⟨g, rfl⟩ : ∃ g, f = g + 1 := ⟨f - 1, by omega⟩
      have E1 : Hid (rputF (g + 1) u m = rputF g (u ++ bs [UInt8.ofNat (m % 128 + 128)]) (m / 128)) := Lib.hid (by rw [rputF, if_neg hlt])
      have hmg : Hid (m / 128 < 2 ^ (7 * g + 7)) := Lib.hid (by
        rw [show 7 * (g + 1) + 7 = 7 * g + 7 + 7 by omega, Nat.pow_add] at hmf
        exact Nat.div_lt_of_lt_mul (by rw [Nat.mul_comm]; exact hmf))
      obtain ⟨c, hc⟩ : ∃ c, UInt8.ofNat (m % 128 + 128) = c := ⟨_, rfl⟩
      have HBV : Hid ((m : Int) % 128 + 128 = (c.toNat : Int)) := Lib.hid (by rw [← hc, UInt8.toNat_ofNat']; omega)
      rw [hc] at E1
      have hz1 : (bs [c]).size = 1 := rfl
      clear hc
      clear hmf
      go_wp2_with (with_reducible refine conv_str_wp (e := 5) (by kernel_rfl) (by kernel_rfl) (by kernel_rfl) rfl _ rfl ⟨wr.heap.size, 0, none⟩ 1 1 rfl [c] rfl (byte_conv wr c _ HBV.out) ?_)
      · go_roundw
        case rel => exact ⟨g, u ++ bs [c], m / 128, by omega, by rw [ByteArray.size_append]; omega, by omega, hmg.out, rfl, by first | rfl | go_num, Lib.hid ⟨by rw [← E1.out]; exact HR.out.1, HR.out.2.alloc HR.out.2.size _⟩⟩
        case measure => simp [intOf]; omega
end Go.Proofs.Ytfoandpcoakcjaa
namespace Go.Proofs.Ytfoandpcoakcjaa
open Go.RowKit Wir
set_option linter.unusedVariables false
set_option linter.unusedSimpArgs false
attribute [local go_sem ↓] execOp_ld32 execOp_st32
attribute [local go_sem] run_ld32 run_st32
theorem addN (g o j : Nat) : ({ block := g, off := o, spot := none } : Addr).add j = ⟨g, o + j, none⟩ := by unfold Addr.add; split <;> simp_all
theorem IdR.cell_ {w : World} {B g n c i j : Nat} {L : List Idn} (h : IdR w B (.slice (some ⟨g, 0, none⟩) n c) L) (hi : i < L.length) (hj : j < 32) : w.cell? ⟨g, i * 32 + j, none⟩ = some (.int .u8 ((L[i] j).toNat : Int)) := by
  rcases h with ⟨h, _⟩ | ⟨g', c', N, f, h1, h2, h3, h4, h5, h6⟩
  · cases h
  · injection h1 with e1 _ _
    injection e1 with e1
    injection e1 with e1 _ _
    subst e1
    rw [h3.cell (by omega), ← h6 _ (by omega), idsV_get L i j hi hj]
theorem IdR.at2 {w : World} {B i n c : Nat} {A : Option Addr} {L : List Idn} (h : IdR w B (.slice A n c) L) (hi : i < L.length) : ∃ g, A = some ⟨g, 0, none⟩ ∧ g < B ∧ ok32 w g (i * 32) = true ∧ row32 w g (i * 32) = idA L[i] := by
  obtain ⟨g, c2, e1, h1, h2, h3⟩ := h.at_ hi
  injection e1 with e1 _ _
  exact ⟨g, e1, h1, h2, h3⟩
theorem rframe_any (p : ByteArray) (w : World) (hp : p.size ≤ 67108864) :
    Calls Try.prog 23 #[.string p] w fun e w' => e = .returned (.tuple #[.string (frmB p), .int .i64 0]) ∧ Below w.heap.size w w' := by
  have F := Lib.hid (rlaid_any p w hp)
  have hpi : (p.size : Int) ≤ 67108864 := by omega
  go_enter Try.func23, Try.ntmps23
  go_wp2_with fail
  (with_reducible refine F.out.mono ?_)
  rintro e w1 ⟨rfl, hb1⟩
  have HB := Lib.hid hb1
  clear hb1
  go_wp2
  go_ret2
  exact ⟨rfl, HB.out⟩
theorem encR_ok {t : Tbl} (h : mayB t = true) : encR t = (frmB (tblS t), 0) := if_pos h
theorem encR_no {t : Tbl} (h : mayB t = false) : encR t = (ByteArray.empty, 1) := if_neg (by rw [h]; decide)
set_option maxRecDepth 100000 in
set_option maxHeartbeats 2000000 in
theorem rencode_any (t : Tbl) (v : Value) (w : World) (B : Nat) (h : IdR w B v t.ids) (hB : B ≤ w.heap.size) :
    Calls Try.prog 6 #[.agg (tblA t v)] w fun e w' => e = .returned (.tuple #[.string (encR t).1, .int .i64 (encR t).2]) ∧ Below w.heap.size w w' := by
  obtain ⟨A, c, rfl, _⟩ := h.slice
  have BX : Hid (Blk (w.alloc (.cells (tblA t (.slice A t.ids.length c)) 25)) w.heap.size 25 (tblA t (.slice A t.ids.length c)) ∧ Below w.heap.size w (w.alloc (.cells (tblA t (.slice A t.ids.length c)) 25)) ∧ w.heap.size < (w.alloc (.cells (tblA t (.slice A t.ids.length c)) 25)).heap.size) := Lib.hid ⟨Blk.new _ _ _, (Below.refl _ _).alloc (Nat.le_refl _) _, by simp⟩
  have H := Lib.hid h
  have MY := Lib.hid (fun W => rmay_any t A c W)
  clear h
  go_enter Try.func6, Try.ntmps6
  go_upto_region 1 with fail
  change Code.wp _ _ _ _ (w.alloc (.cells (tblA t (.slice A t.ids.length c)) 25))
  generalize w.alloc (.cells (tblA t (.slice A t.ids.length c)) 25) = w1 at BX ⊢
  obtain ⟨c0, c1, c2, c3⟩ := tbl_cells BX.out.1
  go_wp2_with fail
  change Calls _ _ #[.agg (tblA t (.slice A t.ids.length c))] _ _
  (with_reducible refine (MY.out _).mono ?_)
  rintro e w2 ⟨rfl, hb2⟩
  have BX2 : Hid (Blk w2 w.heap.size 25 (tblA t (.slice A t.ids.length c)) ∧ Below w.heap.size w w2) := Lib.hid ⟨BX.out.1.below hb2 BX.out.2.2, BX.out.2.1.trans (hb2.mono BX.out.2.1.size)⟩
  clear hb2 MY BX c0 c1 c2 c3
  cases hm : mayB t with
  | false =>
    have HE := Lib.hid (encR_no hm)
    clear hm
    go_wp2
    go_ret2
    exact ⟨by rw [HE.out]; rfl, BX2.out.2⟩
  | true =>
    have HE := Lib.hid (encR_ok hm)
    obtain ⟨⟨m1, m2, m3, m4⟩, m5, m6, m7⟩ := (mayB_iff t).1 hm
    have HZ := Lib.hid (tblS_size hm)
    clear hm
    obtain ⟨d, hd⟩ : ∃ d : Nat, t.da = d := ⟨t.da.toNat, by omega⟩
    obtain ⟨p, hp⟩ : ∃ p : Nat, t.pa = p := ⟨t.pa.toNat, by omega⟩
    obtain ⟨z, hz⟩ : ∃ z : Nat, t.sz = z := ⟨t.sz.toNat, by omega⟩
    obtain ⟨n, hn⟩ : ∃ n, t.ids.length = n := ⟨_, rfl⟩
    have HN := Lib.hid hn
    have HT : Hid (tblH t = bs (putL 1) ++ bs (putL d) ++ bs (putL p) ++ bs (putL z)) := Lib.hid (by rw [tblH, hd, hp, hz]; rfl)
    have hn64 : n ≤ 64 := by omega
    have hd64 : d ≤ 64 := by omega
    have hp64 : p ≤ 64 := by omega
    have hz26 : z ≤ 67108864 := by omega
    have b (n : Nat) : (bs (putL n)).size ≤ 10 := by have := putN_length 9 n; rw [bs_size]; show (putN 9 n).length ≤ _; omega
    have BXC : Hid (∀ W, Below w2.heap.size w2 W → W.cell? ⟨w.heap.size, 0, none⟩ = some (.int .i64 d) ∧ W.cell? ⟨w.heap.size, 1, none⟩ = some (.int .i64 p) ∧ W.cell? ⟨w.heap.size, 2, none⟩ = some (.int .i64 z) ∧ W.cell? ⟨w.heap.size, 3, none⟩ = some (.slice A n c)) := Lib.hid (fun W hW => by
      have := tbl_cells (BX2.out.1.below hW BX2.out.1.lt)
      rw [hd, hp, hz, hn] at this
      exact this)
    rw [hn] at H
    clear hd hp hz hn m1 m2 m3 m4 m5 m6 m7
    have P1 := Lib.hid (rput_any ⟨#[]⟩ 1 w2 (by omega) (by decide))
    rw [show (⟨#[]⟩ : ByteArray) ++ bs (putL 1) = bs (putL 1) from ByteArray.empty_append, show ((1 : Nat) : Int) = 1 from rfl] at P1
    have z1 := b 1
    obtain ⟨s1, hs1⟩ : ∃ s, bs (putL 1) = s := ⟨_, rfl⟩
    rw [hs1] at P1 HT z1
    clear hs1
    go_wp2_with fail
    (with_reducible refine P1.out.mono ?_)
    rintro e w3 ⟨rfl, hb3⟩
    have HB3 := Lib.hid hb3
    clear hb3 P1
    obtain ⟨c0, c1, c2, c3⟩ := BXC.out _ HB3.out
    have P2 := Lib.hid (rput_any s1 d w3 (by omega) (by omega))
    have z2 := b d
    have zz2 := ByteArray.size_append (a := s1) (b := bs (putL d))
    obtain ⟨s2, hs2⟩ : ∃ s, s1 ++ bs (putL d) = s := ⟨_, rfl⟩
    rw [hs2] at P2 HT zz2
    clear hs2
    go_wp2_with fail
    (with_reducible refine P2.out.mono ?_)
    rintro e w4 ⟨rfl, hb4⟩
    have HB4 := Lib.hid (HB3.out.trans (hb4.mono HB3.out.size))
    clear hb4 P2 HB3 c0 c1 c2 c3
    obtain ⟨c0, c1, c2, c3⟩ := BXC.out _ HB4.out
    have P3 := Lib.hid (rput_any s2 p w4 (by omega) (by omega))
    have z3 := b p
    have zz3 := ByteArray.size_append (a := s2) (b := bs (putL p))
    obtain ⟨s3, hs3⟩ : ∃ s, s2 ++ bs (putL p) = s := ⟨_, rfl⟩
    rw [hs3] at P3 HT zz3
    clear hs3
    go_wp2_with fail
    (with_reducible refine P3.out.mono ?_)
    rintro e w5 ⟨rfl, hb5⟩
    have HB5 := Lib.hid (HB4.out.trans (hb5.mono HB4.out.size))
    clear hb5 P3 HB4 c0 c1 c2 c3
    obtain ⟨c0, c1, c2, c3⟩ := BXC.out _ HB5.out
    have P4 := Lib.hid (rput_any s3 z w5 (by omega) (by omega))
    have z4 := b z
    have zz4 := ByteArray.size_append (a := s3) (b := bs (putL z))
    obtain ⟨s4, hs4⟩ : ∃ s, s3 ++ bs (putL z) = s := ⟨_, rfl⟩
    rw [hs4] at P4 HT zz4
    clear hs4
    go_wp2_with fail
    (with_reducible refine P4.out.mono ?_)
    rintro e w6 ⟨rfl, hb6⟩
    have HB6 := Lib.hid (HB5.out.trans (hb6.mono HB5.out.size))
    clear hb6 P4 HB5 c0 c1 c2 c3
    have hz4 : s4.size ≤ 40 := by omega
    clear z1 z2 z3 z4 zz2 zz3 zz4 b
    go_wp2_with fail
    go_loopw [4, 5] (fun sv i wr => ∃ (k : Nat), k ≤ n ∧ i = .int .i64 k ∧ sv = .string (s4 ++ idsB (t.ids.take k)) ∧ Hid (Below w2.heap.size w2 wr)) (fun _ i _ => n - (intOf i).toNat)
    case atStart => exact ⟨0, by omega, rfl, by rw [List.take_zero, idsB, ByteArray.append_empty], HB6⟩
    case round =>
      obtain ⟨k, hk, rfl, rfl, HK⟩ := hrel
      obtain ⟨c0, c1, c2, c3⟩ := BXC.out _ HK.out
      by_cases hlt : k < n
      · have HIR : IdR wr B (.slice A n c) t.ids := (H.out.below (BX2.out.2.mono hB)).below (HK.out.mono (Nat.le_trans hB BX2.out.2.size))
        obtain ⟨g, rfl, hb1, o1, r1⟩ := HIR.at2 (i := k) (by rw [HN.out]; exact hlt)
        have hkl : k < t.ids.length := by rw [HN.out]; exact hlt
        have RC : Hid (∀ j, j < 32 → wr.cell? (({ block := g, off := k * 32 } : Addr).add j) = some (.int .u8 ((((List.range 32).map t.ids[k]).getD j 0).toNat : Int))) := Lib.hid (fun j hj => by
          rw [addN, HIR.cell_ hkl hj]; simp [List.getD, hj])
        have L32 : Hid (((List.range 32).map t.ids[k]).length = 32) := Lib.hid (by simp)
        have hall : ∀ W, (Instr.sliceAt 27 (.pointer (some ⟨g, k * 32, none⟩)) none none none).run Try.prog W = .ok (.slice (some ⟨g, k * 32, none⟩) 32 32) W := fun W => by
          obtain ⟨i, hi⟩ := Option.isSome_iff_exists.1 (show (Try.prog.info? 5).isSome = true by kernel_rfl)
          exact run_all_array (P := Try.prog) W (t := 27) (n := 32) (by kernel_rfl) hi _
        have ES : Hid (s4 ++ idsB (t.ids.take (k + 1)) = s4 ++ idsB (t.ids.take k) ++ bs ((List.range 32).map t.ids[k])) := Lib.hid (by rw [idsB_take _ _ hkl, ByteArray.append_assoc]; rfl)
        generalize ((List.range 32).map t.ids[k]) = l at RC L32 ES
        have hlz : (bs l).size ≤ 32 := by rw [bs_size, L32.out]; exact Nat.le_refl _
        have hsz : (s4 ++ idsB (t.ids.take k)).size ≤ 5000 := by
          have := idsB_size (t.ids.take k)
          rw [ByteArray.size_append, this, List.length_take]
          omega
        generalize s4 ++ idsB (t.ids.take k) = sx at ES hsz ⊢
        clear HIR o1 r1 hb1 hkl
        have hki : (k : Int) < (n : Int) := by omega
        have hk0 : (0 : Int) ≤ (k : Int) := by omega
        go_wp2_with (with_reducible refine conv_str_wp (e := 5) (by kernel_rfl) (by kernel_rfl) (by kernel_rfl) rfl _ rfl ⟨g, k * 32, none⟩ 32 32 rfl l L32.out RC.out ?_)
        go_roundw
        case rel => exact ⟨k + 1, by omega, by go_num, by rw [ES.out], HK⟩
        case measure => simp [intOf]; omega
      · obtain rfl : k = n := by omega
        have ET : Hid (s4 ++ idsB (t.ids.take k) = tblS t) := Lib.hid (by rw [List.take_of_length_le (by rw [HN.out]; exact Nat.le_refl _), tblS, HT.out])
        have FR := Lib.hid (rframe_any (tblS t) wr (by have := HZ.out; omega))
        rw [← ET.out] at FR
        have HE2 : Hid (encR t = (frmB (s4 ++ idsB (t.ids.take k)), 0)) := Lib.hid (by rw [HE.out, ET.out])
        clear ET
        generalize s4 ++ idsB (t.ids.take k) = sx at FR HE2 ⊢
        go_wp2_with fail
        (with_reducible refine FR.out.mono ?_)
        rintro e w7 ⟨rfl, hb7⟩
        have HB7 : Hid (Below w.heap.size w w7) := Lib.hid (by
          have q := BX2.out.2.trans (HK.out.mono BX2.out.2.size)
          exact q.trans (hb7.mono q.size))
        clear hb7 FR
        go_wp2
        go_ret2
        exact ⟨by rw [HE2.out]; rfl, HB7.out⟩
end Go.Proofs.Ytfoandpcoakcjaa
