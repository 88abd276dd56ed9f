/- An array of 8 numbers of 32 bits, loaded out of the middle of a block or stored into it, as the walk's simp may use it. No conditions. -/
import Derived.Test.YtfoandpcoakcjaaDigP
namespace Go.Proofs.Ytfoandpcoakcjaa
open Go.RowKit Dig
def row8 (w : World) (g off : Nat) : Array Value := ((List.range 8).map fun j => (w.cell? ⟨g, off + j, none⟩).getD undef).toArray
/-- The block is there, plain, and long enough. -/
def ok8 (w : World) (g off : Nat) : Bool := match w.heap[g]? with
  | some (.cells cur _ (0, 0)) => decide (off + 8 ≤ cur.size)
  | _ => false
def put8 (w : World) (g off : Nat) (vs : Array Value) : World := match w.heap[g]? with
  | some (.cells cur _ _) => w.setRow g (cur.toList.take off ++ vs.toList ++ cur.toList.drop (off + vs.toList.length)).toArray
  | _ => w
def full8 (vs : Array Value) : Bool := decide (vs.size = 8) && vs.all (·.oneCell')
theorem ok8_of {w : World} {g N off : Nat} {T : TypeId} {f : Nat → Value} (h : w.rowIs g T N f) (hfit : off + 8 ≤ N) : ok8 w g off = true := by
  obtain ⟨c, hb, hn, _⟩ := h
  unfold ok8; rw [hb]
  simp only [decide_eq_true_eq]; omega
theorem ok8_block {w : World} {g off : Nat} (h : ok8 w g off = true) : ∃ cur T, w.heap[g]? = some (.cells cur T (0, 0)) ∧ off + 8 ≤ cur.size := by
  unfold ok8 at h
  split at h
  · rename_i cur T hh; exact ⟨cur, T, hh, of_decide_eq_true h⟩
  · cases h
theorem row8_size (w : World) (g off : Nat) : (row8 w g off).size = 8 := by simp [row8]
theorem info8 : (Try.prog.info? 89).map (·.size) = some 8 := by kernel_rfl
theorem run_isAgg8 (w : World) : (isAgg 89).run Try.prog w = .ok true w := by kernel_rfl
theorem run_size8 (w : World) : (sizeOf 89).run Try.prog w = .ok 8 w := by kernel_rfl
theorem loadAt_row8 (w : World) (g off : Nat) (h : ok8 w g off = true) :
    (Instr.loadAt 89 (.pointer (some ⟨g, off, none⟩))).run Try.prog w = .ok (.agg (row8 w g off)) w := by
  obtain ⟨cur, T, hh, hs⟩ := ok8_block h
  have := run_loadCells_list (P := Try.prog) w ⟨g, off, none⟩ (row8 w g off).toList (fun j v hv => by
    have hj : j < 8 := by
      rcases Nat.lt_or_ge j 8 with h | h
      · exact h
      · rw [List.getElem?_eq_none (by rw [Array.length_toList, row8_size]; exact h)] at hv; cases hv
    have ea : ({ block := g, off := off, spot := none } : Addr).add j = ⟨g, off + j, none⟩ := by unfold Addr.add; split <;> simp_all
    rw [ea]
    simp [row8, hj] at hv
    rw [cell_of_row w g (off + j) cur T (0, 0) hh] at hv ⊢
    rw [Array.getElem?_eq_getElem (by omega)] at hv ⊢
    simpa using hv)
  rw [Array.length_toList, row8_size] at this
  simp only [Instr.loadAt, Instr.sureAddr, loadVar, Sem.run_bind, Sem.run_pure, Result.andThen, run_isAgg8, run_size8, if_true, this]
theorem storeAt_row8 (w : World) (g off : Nat) (vs : Array Value) (h : ok8 w g off = true) (hv : full8 vs = true) :
    (Instr.storeAt 89 (.pointer (some ⟨g, off, none⟩)) (.agg vs)).run Try.prog w = .ok () (put8 w g off vs) := by
  obtain ⟨cur, T, hh, hs⟩ := ok8_block h
  unfold full8 at hv
  rw [Bool.and_eq_true, decide_eq_true_eq] at hv
  have := run_storeCells_at Try.prog g off T vs.toList 0 cur w hh (by rw [Array.length_toList]; omega) (fun v hm => (Array.all_eq_true_iff_forall_mem.1 hv.2) v (by simpa using hm))
  have hc : (Value.agg vs).cells = vs := rfl
  simp only [Instr.storeAt, Instr.sureAddr, storeVar, Sem.run_bind, Sem.run_pure, Result.andThen, run_size8, hc, hv.1, ne_eq, not_true_eq_false, if_false, this]
  unfold put8
  rw [hh]
  simp
def ld8 (x : Value) : Sem Next := do pure (.value (← Instr.loadAt 89 x))
def st8 (x v : Value) : Sem Next := do Instr.storeAt 89 x v; pure .skip
theorem execOp_ld8 (ρ : Operand → Value) (dst : Option Tmp) (x : Operand) (ty : TypeId) (pos : String) (after : Array Edge) (guard : Option (Nat × Bool)) :
    execOp ρ { dst, op := .load 89 x, type := ty, pos, after, guard } = ld8 (ρ x) := rfl
theorem execOp_st8 (ρ : Operand → Value) (dst : Option Tmp) (x v : Operand) (ty : TypeId) (pos : String) (after : Array Edge) (guard : Option (Nat × Bool)) :
    execOp ρ { dst, op := .store 89 x v, type := ty, pos, after, guard } = st8 (ρ x) (ρ v) := rfl
theorem run_ld8 (w : World) (g off : Nat) (h : ok8 w g off = true) : (ld8 (.pointer (some ⟨g, off, none⟩))).run Try.prog w = .ok (.value (.agg (row8 w g off))) w := by
  unfold ld8
  simp only [Sem.run_bind, loadAt_row8 w g off h, Result.andThen, Sem.run_pure]
theorem run_st8 (w : World) (g off : Nat) (vs : Array Value) (h : ok8 w g off = true) (hv : full8 vs = true) : (st8 (.pointer (some ⟨g, off, none⟩)) (.agg vs)).run Try.prog w = .ok .skip (put8 w g off vs) := by
  unfold st8
  simp only [Sem.run_bind, storeAt_row8 w g off vs h hv, Result.andThen, Sem.run_pure]
theorem put8_row {w : World} {g N : Nat} {T : TypeId} {f : Nat → Value} (h : w.rowIs g T N f) (off : Nat) (vs : Array Value) (hfit : off + 8 ≤ N) (hv : full8 vs = true) :
    (put8 w g off vs).rowIs g T N (fun x => if off ≤ x ∧ x < off + 8 then vs.toList.getD (x - off) undef else f x) ∧ w.grownBy (put8 w g off vs) (some g) := by
  unfold full8 at hv
  rw [Bool.and_eq_true, decide_eq_true_eq] at hv
  obtain ⟨w', h1, h2, h3⟩ := storeCells_row (P := Try.prog) h off vs.toList (by rw [Array.length_toList, hv.1]; exact hfit) (fun v hm => (Array.all_eq_true_iff_forall_mem.1 hv.2) v (by simpa using hm))
  have hs := storeAt_row8 w g off vs (ok8_of h hfit) (by unfold full8; rw [Bool.and_eq_true, decide_eq_true_eq]; exact hv)
  have hc : (Value.agg vs).cells = vs := rfl
  simp only [Instr.storeAt, Instr.sureAddr, storeVar, Sem.run_bind, Sem.run_pure, Result.andThen, run_size8, hc, hv.1, ne_eq, not_true_eq_false, if_false] at hs
  rw [h1] at hs
  injection hs with _ hs
  subst hs
  refine ⟨h2.congr fun x _ => ?_, h3⟩
  unfold over
  rw [Array.length_toList, hv.1]
theorem row8_get {w : World} {g N off : Nat} {T : TypeId} {f : Nat → Value} (h : w.rowIs g T N f) (hfit : off + 8 ≤ N) (j : Nat) (hj : j < 8) : (row8 w g off).toList.getD j undef = f (off + j) := by
  have := h.cell (i := off + j) (by omega)
  simp [row8, List.getD, hj, this]
theorem row8_full {w : World} {g N off : Nat} {T : TypeId} {f : Nat → Value} (h : w.rowIs g T N f) (hfit : off + 8 ≤ N) (h1 : ∀ x, (f x).oneCell' = true) : full8 (row8 w g off) = true := by
  unfold full8
  rw [Bool.and_eq_true, decide_eq_true_eq]
  refine ⟨row8_size _ _ _, ?_⟩
  rw [Array.all_eq_true_iff_forall_mem]
  intro v hv
  simp only [row8, List.mem_toArray, List.mem_map, List.mem_range] at hv
  obtain ⟨j, hj, rfl⟩ := hv
  rw [h.cell (i := off + j) (by omega)]
  exact h1 _
theorem row8_u {w : World} {g : Nat} {T : TypeId} {f : Nat → UInt32} (h : w.rowIs g T 8 (uV f)) : row8 w g 0 = uA 8 f := by
  apply Array.ext'
  unfold row8 uA
  simp only [List.map_inj_left]
  intro j hj
  have hj : j < 8 := by simpa using hj
  rw [Nat.zero_add, h.cell hj]; rfl
theorem u8_full (f : Nat → UInt32) : full8 (uA 8 f) = true := by
  unfold full8
  rw [Bool.and_eq_true, decide_eq_true_eq]
  refine ⟨uA_size _ _, ?_⟩
  rw [Array.all_eq_true_iff_forall_mem]
  intro v hv
  simp only [uA, List.mem_toArray, List.mem_map, List.mem_range] at hv
  obtain ⟨j, hj, rfl⟩ := hv
  rfl
theorem u8_row (w : World) (f : Nat → UInt32) (T : TypeId) : (w.alloc (.cells (uA 8 f) T)).rowIs w.heap.size T 8 (uV f) := by
  have := World.rowIs_alloc w (uA 8 f) T (uV f) (fun i hi => by
    rw [uA_size] at hi
    exact uA_get 8 f i hi)
  rw [uA_size] at this
  exact this
end Go.Proofs.Ytfoandpcoakcjaa
