/- Byte rows that a conversion has laid (their block bears a mark behind its cells): read, written, grown by a text. Over any program. No conditions. -/
import Derived.Test.YtpfccicahfncbaaDoorMem3
import Derived.Lib.ConvBytes
namespace Go.Proofs.YtpfccicahfncbaaDoor
open Go.RowKit
set_option linter.unusedVariables false
/-- Block g is a row of cap cells of type T, none of them frozen; the first L hold f. -/
def bufIs (w : World) (T : TypeId) (g L cap : Nat) (f : Nat → Value) : Prop :=
  ∃ c fr, w.heap[g]? = some (.cells c T fr) ∧ c.size = cap ∧ L ≤ cap ∧ (∀ j, j < L → c[j]? = some (f j)) ∧ (∀ i, i < cap → ¬ (fr.1 ≤ i ∧ i < fr.2))
namespace bufIs
variable {w w' : World} {T : TypeId} {g L cap : Nat} {f f' : Nat → Value}
theorem lt (h : bufIs w T g L cap f) : g < w.heap.size := by
  obtain ⟨c, fr, hh, _⟩ := h
  exact (Array.getElem?_eq_some_iff.1 hh).1
theorem le (h : bufIs w T g L cap f) : L ≤ cap := by
  obtain ⟨c, fr, _, _, hl, _⟩ := h; exact hl
theorem cell (h : bufIs w T g L cap f) {j : Nat} (hj : j < L) : w.cell? ⟨g, j, none⟩ = some (f j) := by
  obtain ⟨c, fr, hh, _, _, hc, _⟩ := h
  rw [cell_of_row w g j c T fr hh, hc j hj]
theorem frozen (h : bufIs w T g L cap f) {j : Nat} (hj : j < cap) : w.frozen? ⟨g, j, none⟩ = false := by
  obtain ⟨c, ⟨lo, hi⟩, hh, _, _, _, hf⟩ := h
  have := hf j hj
  unfold World.frozen?
  rw [hh]
  simp only [Bool.and_eq_false_iff, decide_eq_false_iff_not]
  omega
theorem of_block (h : bufIs w T g L cap f) (e : w'.heap[g]? = w.heap[g]?) : bufIs w' T g L cap f := by
  obtain ⟨c, fr, hh, rest⟩ := h
  exact ⟨c, fr, e.trans hh, rest⟩
theorem congr (h : bufIs w T g L cap f) (e : ∀ j, j < L → f j = f' j) : bufIs w T g L cap f' := by
  obtain ⟨c, fr, hh, h1, h2, hc, hf⟩ := h
  exact ⟨c, fr, hh, h1, h2, fun j hj => by rw [hc j hj, e j hj], hf⟩
theorem drew (h : bufIs w T g L cap f) : bufIs w.drew T g L cap f := h
theorem drewN (h : bufIs w T g L cap f) (k : Nat) : bufIs (w.drewN k) T g L cap f := h
theorem set (h : bufIs w T g L cap f) (i : Nat) (v : Value) : bufIs (w.setCell ⟨g, i, none⟩ v) T g L cap (fun j => if j = i then v else f j) := by
  obtain ⟨c, fr, hh, h1, h2, hc, hf⟩ := h
  refine ⟨c.setIfInBounds i v, fr, by simp [World.setCell, Array.getElem?_modify, hh], by simpa using h1, h2, fun j hj => ?_, hf⟩
  rw [Array.getElem?_setIfInBounds]
  by_cases e : j = i
  · subst e; simp; omega
  · rw [if_neg (fun h => e h.symm)]
    show c[j]? = some (if j = i then v else f j)
    rw [if_neg e]; exact hc j hj
theorem below {B : Nat} (h : bufIs w T g L cap f) (hb : Below B w w') (hg : g < B) : bufIs w' T g L cap f := h.of_block (hb.block g hg)
theorem grown {row : Option Nat} (h : bufIs w T g L cap f) (hb : w.grownBy w' row) (hg : some g ≠ row) : bufIs w' T g L cap f := h.of_block (hb.block g h.lt hg)
theorem of_row (h : w.rowIs g T L f) : bufIs w T g L L f := by
  obtain ⟨c, hh, h1, hc⟩ := h
  exact ⟨c, (0, 0), hh, h1, Nat.le_refl _, hc, fun i _ h => by simp at h⟩
theorem own {base n c : Nat} {v : Value} {xs : List Value} (h : w.ownsRow base T 1 (.slice (some ⟨g, 0, none⟩) n c) n xs) : bufIs w T g n c (fun j => xs.getD j undef) := by
  rcases h.2 with ⟨h', _⟩ | ⟨g', cap', cur, h', _, hg, hnc, _, hcs, htake⟩
  · cases h'
  · simp only [Value.slice.injEq, Option.some.injEq, Addr.mk.injEq, and_true, true_and] at h'
    obtain ⟨rfl, rfl⟩ := h'
    refine ⟨cur, (0, 0), hg, by simpa using hcs, hnc, fun j hj => ?_, fun i _ h => by simp at h⟩
    have hl : j < cur.toList.length := by rw [Array.length_toList, hcs]; omega
    show cur[j]? = some (xs.getD j undef)
    rw [← htake, List.getD_eq_getElem?_getD, List.getElem?_take, if_pos (by omega), Array.getElem?_toList, Array.getElem?_eq_getElem (by simpa using hl)]
    rfl
end bufIs

section
variable {P : Program} {w : World}
theorem conv_bytes_wp {src e dst : TypeId} (hs : P.underlying src = some .string) (hd : P.underlying dst = some (.slice e)) (he : P.underlying e = some (.int .u8))
    {ops : Array Oper} {rest : List Oper} {o : Oper} {a : Act} {Q : Exit → Act → World → Prop} (hgd : o.guard = none) (x : Operand) (ho : o.op = .convert src dst x) (s : ByteArray) (hx : a.eval x = .string s)
    (h : ∀ cap w', bufIs w' e w.heap.size s.size cap (fun j => .int .u8 ((s.data.toList.getD j 0).toNat : Int)) → w.grownBy w' none → wpList P ops Q rest (a.put o.dst (.slice (some ⟨w.heap.size, 0, none⟩) s.size cap)) w') : wpList P ops Q (o :: rest) a w := by
  refine wpList_plain hgd fun K hK => ?_
  have hrun := Lib.run_convert_string_bytes (P := P) w src dst e s hs hd he
  unfold Oper.wp
  simp [execOp, ho, hx, hrun, Result.andThen]
  have hge := grownCap_ge w s.size 0 e
  have hsz : (Lib.bytesCells w e s).size = grownCap w s.size 0 e := by
    simp only [Lib.bytesCells, Array.size_append, Array.size_map, Array.size_replicate]
    have : s.data.size = s.size := rfl
    omega
  refine hK _ _ (h _ _ ⟨_, _, Lib.bytesWorld_at_new w e s, hsz, hge, fun j hj => ?_, fun i hi => ?_⟩ ⟨?_, ?_, ?_, ?_, fun k hk _ => Lib.bytesWorld_at_old w e s k hk⟩)
  · have := Lib.bytesWorld_cell w e s j hj
    rw [cell_of_row _ _ j _ e _ (Lib.bytesWorld_at_new w e s)] at this
    exact this
  · simp only; omega
  · simp [Lib.bytesWorld, World.freeze, World.alloc, World.drew, -World.alloc_eq, -World.drew_eq]
  · simp [Lib.bytesWorld, World.freeze, World.alloc, World.drew, -World.alloc_eq, -World.drew_eq]
  · simp [Lib.bytesWorld, World.freeze, World.alloc, World.drew, -World.alloc_eq, -World.drew_eq]
  · rw [Lib.bytesWorld_size]; omega

/-- What a row holds when a text has been put behind its first n. -/
def thenStr (f : Nat → Value) (n : Nat) (s : ByteArray) : Nat → Value := fun j => if j < n then f j else .int .u8 ((s.data.toList.getD (j - n) 0).toNat : Int)
theorem firstCells_string (s : ByteArray) (w : World) : (Builtin.firstCells 1 s.size (.string s)).run P w = .ok (u8s s.data.toList).toArray w := by
  have e : (s.data.map fun b => Value.int .u8 b.toNat) = (u8s s.data.toList).toArray := by
    apply Array.ext'
    rw [List.toList_toArray, Array.toList_map]
    rfl
  simp [Builtin.firstCells, Sem.run_pure]
  exact e
theorem block_setCells {g : Nat} {T : TypeId} {fr : Nat × Nat} : ∀ (vs : List Value) (o : Nat) (w : World) (c : Array Value), w.heap[g]? = some (.cells c T fr) → o + vs.length ≤ c.size →
    ∃ c', (w.setCells g o vs).heap[g]? = some (.cells c' T fr) ∧ c'.size = c.size ∧ (∀ j, c'[j]? = if o ≤ j ∧ j < o + vs.length then vs[j - o]? else c[j]?) ∧ w.grownBy (w.setCells g o vs) (some g)
  | [], o, w, c, hh, _ => ⟨c, hh, rfl, fun j => by rw [if_neg (by simp)], World.grownBy.refl _ _⟩
  | v :: r, o, w, c, hh, hl => by
    have h1 : (w.setCell ⟨g, o, none⟩ v).heap[g]? = some (.cells (c.setIfInBounds o v) T fr) := by simp [World.setCell, Array.getElem?_modify, hh]
    obtain ⟨c', a1, a2, a3, a4⟩ := block_setCells r (o + 1) (w.setCell ⟨g, o, none⟩ v) _ h1 (by simp at hl ⊢; omega)
    refine ⟨c', a1, by rw [a2]; simp, fun j => ?_, grown_both (only_setCell (World.grownBy.refl _ _) (.inl rfl) v) a4⟩
    rw [a3, Array.getElem?_setIfInBounds]
    have hlen : (v :: r).length = r.length + 1 := rfl
    rw [hlen] at hl ⊢
    by_cases e1 : o + 1 ≤ j ∧ j < o + 1 + r.length
    · rw [if_pos e1, if_pos (by omega), show j - o = (j - (o + 1)) + 1 from by omega]; rfl
    · rw [if_neg e1]
      by_cases e2 : o = j
      · subst e2
        rw [if_pos rfl, if_pos (by omega), if_pos ⟨Nat.le_refl _, by omega⟩, Nat.sub_self]; rfl
      · rw [if_neg e2, if_neg (by omega)]
theorem run_append_str (t sT e ty : TypeId) (ht : P.underlying t = some (.slice e)) (hsT : P.underlying sT = some .string) (i : TypeInfo) (hi : P.info? e = some i) (hz : i.zero = some (.int .u8 0)) (hs1 : i.size = 1) (hb : i.bytes = 1)
    {g n cap : Nat} {f : Nat → Value} (h : bufIs w e g n cap f) (s : ByteArray) (hroom : n + s.size ≤ 140737488355328) :
    ∃ g' cap' w', (Builtin.append_ #[t, sT] ty #[.slice (some ⟨g, 0, none⟩) n cap, .string s]).run P w = .ok (.slice (some ⟨g', 0, none⟩) (n + s.size) cap') w' ∧ bufIs w' e g' (n + s.size) cap' (thenStr f n s) ∧ w.grownBy w' (some g) ∧ (g' = g ∨ g' = w.heap.size) := by
  have hlen : (u8s s.data.toList).length = s.size := by rw [u8s_length, Array.length_toList]; rfl
  have hu8 : ∀ j, j < s.size → (u8s s.data.toList)[j]? = some (.int .u8 ((s.data.toList.getD j 0).toNat : Int)) := fun j hj => by
    have hj' : j < s.data.toList.length := by rw [Array.length_toList]; exact hj
    simp only [u8s, List.getElem?_map, List.getD_eq_getElem?_getD, List.getElem?_eq_getElem hj']; rfl
  obtain ⟨c, fr, hh, hc1, hc2, hc3, hc4⟩ := id h
  by_cases hr : n + s.size ≤ cap
  · have hst := run_storeCells_cells (P := P) g n (u8s s.data.toList) 0 w (fun j hj => by
        rw [cell_of_row w g _ c e fr hh, Array.getElem?_eq_getElem (by omega)]; rfl) (fun j hj => h.frozen (by omega)) (u8s_one _)
    simp only [Nat.add_zero] at hst
    obtain ⟨c', a1, a2, a3, a4⟩ := block_setCells (u8s s.data.toList) n w c hh (by omega)
    refine ⟨g, cap, w.setCells g n (u8s s.data.toList), ?_, ⟨c', fr, a1, by omega, hr, fun j hj => ?_, hc4⟩, a4, .inl rfl⟩
    · simp only [Builtin.append_, Builtin.lenOf]
      simp [run_underlying ht, run_underlying hsT, sizeOf, typeInfo, hi, hs1, hr, firstCells_string, Addr.add_lit, hst]
    · rw [a3, hlen]
      unfold thenStr
      by_cases e1 : j < n
      · rw [if_neg (by omega), if_pos e1]; exact hc3 j e1
      · rw [if_pos (by omega), if_neg e1]; exact hu8 _ (by omega)
  · have h63' : ¬ (9223372036854775807 < ((n : Int) + (s.size : Int))) := by omega
    have h48' : ¬ (281474976710656 < Builtin.nextslicecap (n + s.size) cap) := by
      have := growslice_fits (need := n + s.size) (old := cap) (bytes := 1) (by omega) (by omega)
      omega
    have hge := grownCap_ge w (n + s.size) cap e
    have hfo := run_firstCells_some (P := P) w.drew 1 n ⟨g, 0, none⟩ n cap ((List.range n).map f) (by simp) (fun j u hj => by
      have hjn : j < n := by
        rcases Nat.lt_or_ge j n with h | h
        · exact h
        · simp [h] at hj
      simp [hjn] at hj
      subst hj
      have ea : ({ block := g, off := 0, spot := none } : Addr).add j = ⟨g, j, none⟩ := by unfold Addr.add; split <;> simp_all
      rw [ea]
      exact h.drew.cell hjn)
    refine ⟨w.heap.size, grownCap w (n + s.size) cap e, w.drew.alloc (.cells (((List.range n).map f).toArray ++ (u8s s.data.toList).toArray ++ Builtin.zeroCells #[.int .u8 0] (grownCap w (n + s.size) cap e - (n + s.size))) e), ?_, ⟨_, (0, 0), heap_alloc_new w.drew _, ?_, hge, fun j hj => ?_, fun i _ h => by simp at h⟩, ?_, .inr rfl⟩
    · have hzc : (Value.int IntKind.u8 0).cells = #[.int .u8 0] := rfl
      simp only [Builtin.append_, Builtin.lenOf]
      simp [run_underlying ht, run_underlying hsT, sizeOf, typeInfo, zeroValue, hi, hz, hs1, hb, hr, h63', h48', Question.forced, firstCells_string, hfo, newRow, grownCap, hzc]
      congr 2
      apply Array.ext'
      simp [List.append_assoc]
    · simp [Builtin.zeroCells, hlen]; omega
    · unfold thenStr
      have hsz : (((List.range n).map f).toArray ++ (u8s s.data.toList).toArray).size = n + s.size := by simp [hlen]
      rw [Array.getElem?_append_left (by rw [hsz]; exact hj)]
      by_cases e1 : j < n
      · rw [if_pos e1, Array.getElem?_append_left (by simpa using e1)]; simp [e1]
      · rw [if_neg e1, Array.getElem?_append_right (by simp; omega)]
        simp only [List.size_toArray, List.length_map, List.length_range, List.getElem?_toArray]
        exact hu8 _ (by omega)
    · exact only_alloc (only_drew (World.grownBy.refl _ _)) _
end
end Go.Proofs.YtpfccicahfncbaaDoor
