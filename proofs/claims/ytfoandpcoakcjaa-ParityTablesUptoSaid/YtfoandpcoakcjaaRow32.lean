/- A name (32 cells), loaded out of the middle of a block or stored into it, as the walk's simp may use it. No conditions. -/
import Derived.Test.YtfoandpcoakcjaaGen
namespace Go.Proofs.Ytfoandpcoakcjaa
open Go.RowKit
def row32 (w : World) (g off : Nat) : Array Value := ((List.range 32).map fun j => (w.cell? ⟨g, off + j, none⟩).getD undef).toArray
/-- The block is there, plain, and long enough. -/
def ok32 (w : World) (g off : Nat) : Bool := match w.heap[g]? with
  | some (.cells cur _ (0, 0)) => decide (off + 32 ≤ cur.size)
  | _ => false
def put32 (w : World) (g off : Nat) (vs : Array Value) : World := match w.heap[g]? with
  | some (.cells cur _ _) => w.setRow g (cur.toList.take off ++ vs.toList ++ cur.toList.drop (off + vs.toList.length)).toArray
  | _ => w
def full32 (vs : Array Value) : Bool := decide (vs.size = 32) && vs.all (·.oneCell')
theorem ok32_of {w : World} {g N off : Nat} {T : TypeId} {f : Nat → Value} (h : w.rowIs g T N f) (hfit : off + 32 ≤ N) : ok32 w g off = true := by
  obtain ⟨c, hb, hn, _⟩ := h
  unfold ok32; rw [hb]
  simp only [decide_eq_true_eq]; omega
theorem ok32_block {w : World} {g off : Nat} (h : ok32 w g off = true) : ∃ cur T, w.heap[g]? = some (.cells cur T (0, 0)) ∧ off + 32 ≤ cur.size := by
  unfold ok32 at h
  split at h
  · rename_i cur T hh; exact ⟨cur, T, hh, of_decide_eq_true h⟩
  · cases h
theorem row32_size (w : World) (g off : Nat) : (row32 w g off).size = 32 := by simp [row32]
theorem info32 : (Try.prog.info? 27).map (·.size) = some 32 := by kernel_rfl
theorem run_isAgg32 (w : World) : (isAgg 27).run Try.prog w = .ok true w := by kernel_rfl
theorem run_size32 (w : World) : (sizeOf 27).run Try.prog w = .ok 32 w := by kernel_rfl
theorem loadAt_row32 (w : World) (g off : Nat) (h : ok32 w g off = true) :
    (Instr.loadAt 27 (.pointer (some ⟨g, off, none⟩))).run Try.prog w = .ok (.agg (row32 w g off)) w := by
  obtain ⟨cur, T, hh, hs⟩ := ok32_block h
  have := run_loadCells_list (P := Try.prog) w ⟨g, off, none⟩ (row32 w g off).toList (fun j v hv => by
    have hj : j < 32 := by
      rcases Nat.lt_or_ge j 32 with h | h
      · exact h
      · rw [List.getElem?_eq_none (by rw [Array.length_toList, row32_size]; exact h)] at hv; cases hv
    have ea : ({ block := g, off := off, spot := none } : Addr).add j = ⟨g, off + j, none⟩ := by unfold Addr.add; split <;> simp_all
    rw [ea]
    simp [row32, hj] at hv
    rw [cell_of_row w g (off + j) cur T (0, 0) hh] at hv ⊢
    rw [Array.getElem?_eq_getElem (by omega)] at hv ⊢
    simpa using hv)
  rw [Array.length_toList, row32_size] at this
  simp only [Instr.loadAt, Instr.sureAddr, loadVar, Sem.run_bind, Sem.run_pure, Result.andThen, run_isAgg32, run_size32, if_true, this]
theorem storeAt_row32 (w : World) (g off : Nat) (vs : Array Value) (h : ok32 w g off = true) (hv : full32 vs = true) :
    (Instr.storeAt 27 (.pointer (some ⟨g, off, none⟩)) (.agg vs)).run Try.prog w = .ok () (put32 w g off vs) := by
  obtain ⟨cur, T, hh, hs⟩ := ok32_block h
  unfold full32 at hv
  rw [Bool.and_eq_true, decide_eq_true_eq] at hv
  have := run_storeCells_at Try.prog g off T vs.toList 0 cur w hh (by rw [Array.length_toList]; omega) (fun v hm => (Array.all_eq_true_iff_forall_mem.1 hv.2) v (by simpa using hm))
  have hc : (Value.agg vs).cells = vs := rfl
  simp only [Instr.storeAt, Instr.sureAddr, storeVar, Sem.run_bind, Sem.run_pure, Result.andThen, run_size32, hc, hv.1, ne_eq, not_true_eq_false, if_false, this]
  unfold put32
  rw [hh]
  simp
def ld32 (x : Value) : Sem Next := do pure (.value (← Instr.loadAt 27 x))
def st32 (x v : Value) : Sem Next := do Instr.storeAt 27 x v; pure .skip
theorem execOp_ld32 (ρ : Operand → Value) (dst : Option Tmp) (x : Operand) (ty : TypeId) (pos : String) (after : Array Edge) (guard : Option (Nat × Bool)) :
    execOp ρ { dst, op := .load 27 x, type := ty, pos, after, guard } = ld32 (ρ x) := rfl
theorem execOp_st32 (ρ : Operand → Value) (dst : Option Tmp) (x v : Operand) (ty : TypeId) (pos : String) (after : Array Edge) (guard : Option (Nat × Bool)) :
    execOp ρ { dst, op := .store 27 x v, type := ty, pos, after, guard } = st32 (ρ x) (ρ v) := rfl
theorem run_ld32 (w : World) (g off : Nat) (h : ok32 w g off = true) : (ld32 (.pointer (some ⟨g, off, none⟩))).run Try.prog w = .ok (.value (.agg (row32 w g off))) w := by
  unfold ld32
  simp only [Sem.run_bind, loadAt_row32 w g off h, Result.andThen, Sem.run_pure]
theorem run_st32 (w : World) (g off : Nat) (vs : Array Value) (h : ok32 w g off = true) (hv : full32 vs = true) : (st32 (.pointer (some ⟨g, off, none⟩)) (.agg vs)).run Try.prog w = .ok .skip (put32 w g off vs) := by
  unfold st32
  simp only [Sem.run_bind, storeAt_row32 w g off vs h hv, Result.andThen, Sem.run_pure]
theorem put32_row {w : World} {g N : Nat} {T : TypeId} {f : Nat → Value} (h : w.rowIs g T N f) (off : Nat) (vs : Array Value) (hfit : off + 32 ≤ N) (hv : full32 vs = true) :
    (put32 w g off vs).rowIs g T N (fun x => if off ≤ x ∧ x < off + 32 then vs.toList.getD (x - off) undef else f x) ∧ w.grownBy (put32 w g off vs) (some g) := by
  unfold full32 at hv
  rw [Bool.and_eq_true, decide_eq_true_eq] at hv
  obtain ⟨w', h1, h2, h3⟩ := storeCells_row (P := Try.prog) h off vs.toList (by rw [Array.length_toList, hv.1]; exact hfit) (fun v hm => (Array.all_eq_true_iff_forall_mem.1 hv.2) v (by simpa using hm))
  have hs := storeAt_row32 w g off vs (ok32_of h hfit) (by unfold full32; rw [Bool.and_eq_true, decide_eq_true_eq]; exact hv)
  have hc : (Value.agg vs).cells = vs := rfl
  simp only [Instr.storeAt, Instr.sureAddr, storeVar, Sem.run_bind, Sem.run_pure, Result.andThen, run_size32, hc, hv.1, ne_eq, not_true_eq_false, if_false] at hs
  rw [h1] at hs
  injection hs with _ hs
  subst hs
  refine ⟨h2.congr fun x _ => ?_, h3⟩
  unfold over
  rw [Array.length_toList, hv.1]
theorem row32_get {w : World} {g N off : Nat} {T : TypeId} {f : Nat → Value} (h : w.rowIs g T N f) (hfit : off + 32 ≤ N) (j : Nat) (hj : j < 32) : (row32 w g off).toList.getD j undef = f (off + j) := by
  have := h.cell (i := off + j) (by omega)
  simp [row32, List.getD, hj, this]
theorem row32_full {w : World} {g N off : Nat} {T : TypeId} {f : Nat → Value} (h : w.rowIs g T N f) (hfit : off + 32 ≤ N) (h1 : ∀ x, (f x).oneCell' = true) : full32 (row32 w g off) = true := by
  unfold full32
  rw [Bool.and_eq_true, decide_eq_true_eq]
  refine ⟨row32_size _ _ _, ?_⟩
  rw [Array.all_eq_true_iff_forall_mem]
  intro v hv
  simp only [row32, List.mem_toArray, List.mem_map, List.mem_range] at hv
  obtain ⟨j, hj, rfl⟩ := hv
  rw [h.cell (i := off + j) (by omega)]
  exact h1 _
/-- A name as a value. -/
def idA (I : Nat → UInt8) : Array Value := ((List.range 32).map fun k => Value.int .u8 ((I k).toNat : Int)).toArray
theorem idA_size (I : Nat → UInt8) : (idA I).size = 32 := by simp [idA]
theorem idA_get (I : Nat → UInt8) (k : Nat) (h : k < 32) : (idA I)[k]? = some (.int .u8 ((I k).toNat : Int)) := by simp [idA, h]
theorem idA_full (I : Nat → UInt8) : full32 (idA I) = true := by
  unfold full32
  rw [Bool.and_eq_true, decide_eq_true_eq]
  refine ⟨idA_size I, ?_⟩
  rw [Array.all_eq_true_iff_forall_mem]
  intro v hv
  simp only [idA, List.mem_toArray, List.mem_map, List.mem_range] at hv
  obtain ⟨j, hj, rfl⟩ := hv
  rfl
theorem idA_congr {I J : Nat → UInt8} (h : ∀ k, k < 32 → I k = J k) : idA I = idA J := by
  unfold idA
  congr 1
  exact List.map_congr_left fun k hk => by rw [h k (by simpa using hk)]
theorem idA_cells (I : Nat → UInt8) : (Value.agg (idA I)).cells = idA I := rfl
theorem row32_id {w : World} {g : Nat} {T : TypeId} {I : Nat → UInt8} (h : w.rowIs g T 32 (u8V I)) : row32 w g 0 = idA I := by
  apply Array.ext'
  unfold row32 idA
  simp only [List.map_inj_left]
  intro j hj
  have hj : j < 32 := by simpa using hj
  rw [Nat.zero_add, h.cell hj]; rfl
theorem id_row (w : World) (I : Nat → UInt8) (T : TypeId) : (w.alloc (.cells (idA I) T)).rowIs w.heap.size T 32 (u8V I) := by
  have := World.rowIs_alloc w (idA I) T (u8V I) (fun i hi => by
    rw [idA_size] at hi
    exact idA_get I i hi)
  rw [idA_size] at this
  exact this
end Go.Proofs.Ytfoandpcoakcjaa
