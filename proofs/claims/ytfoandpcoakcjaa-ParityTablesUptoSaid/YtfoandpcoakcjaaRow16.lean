/- An array of 16 bytes, loaded out of the middle of a block or stored into it, as the walk's simp may use it. No conditions. -/
import Derived.Test.YtfoandpcoakcjaaGen
namespace Go.Proofs.Ytfoandpcoakcjaa
open Go.RowKit
def row16 (w : World) (g off : Nat) : Array Value := ((List.range 16).map fun j => (w.cell? ⟨g, off + j, none⟩).getD undef).toArray
/-- The block is there, plain, and long enough. -/
def ok16 (w : World) (g off : Nat) : Bool := match w.heap[g]? with
  | some (.cells cur _ (0, 0)) => decide (off + 16 ≤ cur.size)
  | _ => false
def put16 (w : World) (g off : Nat) (vs : Array Value) : World := match w.heap[g]? with
  | some (.cells cur _ _) => w.setRow g (cur.toList.take off ++ vs.toList ++ cur.toList.drop (off + vs.toList.length)).toArray
  | _ => w
def full16 (vs : Array Value) : Bool := decide (vs.size = 16) && vs.all (·.oneCell')
theorem ok16_of {w : World} {g N off : Nat} {T : TypeId} {f : Nat → Value} (h : w.rowIs g T N f) (hfit : off + 16 ≤ N) : ok16 w g off = true := by
  obtain ⟨c, hb, hn, _⟩ := h
  unfold ok16; rw [hb]
  simp only [decide_eq_true_eq]; omega
theorem ok16_block {w : World} {g off : Nat} (h : ok16 w g off = true) : ∃ cur T, w.heap[g]? = some (.cells cur T (0, 0)) ∧ off + 16 ≤ cur.size := by
  unfold ok16 at h
  split at h
  · rename_i cur T hh; exact ⟨cur, T, hh, of_decide_eq_true h⟩
  · cases h
theorem row16_size (w : World) (g off : Nat) : (row16 w g off).size = 16 := by simp [row16]
theorem info16 : (Try.prog.info? 141).map (·.size) = some 16 := by kernel_rfl
theorem run_isAgg16 (w : World) : (isAgg 141).run Try.prog w = .ok true w := by kernel_rfl
theorem run_size16 (w : World) : (sizeOf 141).run Try.prog w = .ok 16 w := by kernel_rfl
theorem loadAt_row16 (w : World) (g off : Nat) (h : ok16 w g off = true) :
    (Instr.loadAt 141 (.pointer (some ⟨g, off, none⟩))).run Try.prog w = .ok (.agg (row16 w g off)) w := by
  obtain ⟨cur, T, hh, hs⟩ := ok16_block h
  have := run_loadCells_list (P := Try.prog) w ⟨g, off, none⟩ (row16 w g off).toList (fun j v hv => by
    have hj : j < 16 := by
      rcases Nat.lt_or_ge j 16 with h | h
      · exact h
      · rw [List.getElem?_eq_none (by rw [Array.length_toList, row16_size]; exact h)] at hv; cases hv
    have ea : ({ block := g, off := off, spot := none } : Addr).add j = ⟨g, off + j, none⟩ := by unfold Addr.add; split <;> simp_all
    rw [ea]
    simp [row16, hj] at hv
    rw [cell_of_row w g (off + j) cur T (0, 0) hh] at hv ⊢
    rw [Array.getElem?_eq_getElem (by omega)] at hv ⊢
    simpa using hv)
  rw [Array.length_toList, row16_size] at this
  simp only [Instr.loadAt, Instr.sureAddr, loadVar, Sem.run_bind, Sem.run_pure, Result.andThen, run_isAgg16, run_size16, if_true, this]
theorem storeAt_row16 (w : World) (g off : Nat) (vs : Array Value) (h : ok16 w g off = true) (hv : full16 vs = true) :
    (Instr.storeAt 141 (.pointer (some ⟨g, off, none⟩)) (.agg vs)).run Try.prog w = .ok () (put16 w g off vs) := by
  obtain ⟨cur, T, hh, hs⟩ := ok16_block h
  unfold full16 at hv
  rw [Bool.and_eq_true, decide_eq_true_eq] at hv
  have := run_storeCells_at Try.prog g off T vs.toList 0 cur w hh (by rw [Array.length_toList]; omega) (fun v hm => (Array.all_eq_true_iff_forall_mem.1 hv.2) v (by simpa using hm))
  have hc : (Value.agg vs).cells = vs := rfl
  simp only [Instr.storeAt, Instr.sureAddr, storeVar, Sem.run_bind, Sem.run_pure, Result.andThen, run_size16, hc, hv.1, ne_eq, not_true_eq_false, if_false, this]
  unfold put16
  rw [hh]
  simp
def ld16 (x : Value) : Sem Next := do pure (.value (← Instr.loadAt 141 x))
def st16 (x v : Value) : Sem Next := do Instr.storeAt 141 x v; pure .skip
theorem execOp_ld16 (ρ : Operand → Value) (dst : Option Tmp) (x : Operand) (ty : TypeId) (pos : String) (after : Array Edge) (guard : Option (Nat × Bool)) :
    execOp ρ { dst, op := .load 141 x, type := ty, pos, after, guard } = ld16 (ρ x) := rfl
theorem execOp_st16 (ρ : Operand → Value) (dst : Option Tmp) (x v : Operand) (ty : TypeId) (pos : String) (after : Array Edge) (guard : Option (Nat × Bool)) :
    execOp ρ { dst, op := .store 141 x v, type := ty, pos, after, guard } = st16 (ρ x) (ρ v) := rfl
theorem run_ld16 (w : World) (g off : Nat) (h : ok16 w g off = true) : (ld16 (.pointer (some ⟨g, off, none⟩))).run Try.prog w = .ok (.value (.agg (row16 w g off))) w := by
  unfold ld16
  simp only [Sem.run_bind, loadAt_row16 w g off h, Result.andThen, Sem.run_pure]
theorem run_st16 (w : World) (g off : Nat) (vs : Array Value) (h : ok16 w g off = true) (hv : full16 vs = true) : (st16 (.pointer (some ⟨g, off, none⟩)) (.agg vs)).run Try.prog w = .ok .skip (put16 w g off vs) := by
  unfold st16
  simp only [Sem.run_bind, storeAt_row16 w g off vs h hv, Result.andThen, Sem.run_pure]
theorem put16_row {w : World} {g N : Nat} {T : TypeId} {f : Nat → Value} (h : w.rowIs g T N f) (off : Nat) (vs : Array Value) (hfit : off + 16 ≤ N) (hv : full16 vs = true) :
    (put16 w g off vs).rowIs g T N (fun x => if off ≤ x ∧ x < off + 16 then vs.toList.getD (x - off) undef else f x) ∧ w.grownBy (put16 w g off vs) (some g) := by
  unfold full16 at hv
  rw [Bool.and_eq_true, decide_eq_true_eq] at hv
  obtain ⟨w', h1, h2, h3⟩ := storeCells_row (P := Try.prog) h off vs.toList (by rw [Array.length_toList, hv.1]; exact hfit) (fun v hm => (Array.all_eq_true_iff_forall_mem.1 hv.2) v (by simpa using hm))
  have hs := storeAt_row16 w g off vs (ok16_of h hfit) (by unfold full16; rw [Bool.and_eq_true, decide_eq_true_eq]; exact hv)
  have hc : (Value.agg vs).cells = vs := rfl
  simp only [Instr.storeAt, Instr.sureAddr, storeVar, Sem.run_bind, Sem.run_pure, Result.andThen, run_size16, hc, hv.1, ne_eq, not_true_eq_false, if_false] at hs
  rw [h1] at hs
  injection hs with _ hs
  subst hs
  refine ⟨h2.congr fun x _ => ?_, h3⟩
  unfold over
  rw [Array.length_toList, hv.1]
theorem row16_get {w : World} {g N off : Nat} {T : TypeId} {f : Nat → Value} (h : w.rowIs g T N f) (hfit : off + 16 ≤ N) (j : Nat) (hj : j < 16) : (row16 w g off).toList.getD j undef = f (off + j) := by
  have := h.cell (i := off + j) (by omega)
  simp [row16, List.getD, hj, this]
theorem row16_full {w : World} {g N off : Nat} {T : TypeId} {f : Nat → Value} (h : w.rowIs g T N f) (hfit : off + 16 ≤ N) (h1 : ∀ x, (f x).oneCell' = true) : full16 (row16 w g off) = true := by
  unfold full16
  rw [Bool.and_eq_true, decide_eq_true_eq]
  refine ⟨row16_size _ _ _, ?_⟩
  rw [Array.all_eq_true_iff_forall_mem]
  intro v hv
  simp only [row16, List.mem_toArray, List.mem_map, List.mem_range] at hv
  obtain ⟨j, hj, rfl⟩ := hv
  rw [h.cell (i := off + j) (by omega)]
  exact h1 _
/-- Sixteen bytes as a value. -/
def dgA (I : Nat → UInt8) : Array Value := ((List.range 16).map fun k => Value.int .u8 ((I k).toNat : Int)).toArray
theorem dgA_size (I : Nat → UInt8) : (dgA I).size = 16 := by simp [dgA]
theorem dgA_get (I : Nat → UInt8) (k : Nat) (h : k < 16) : (dgA I)[k]? = some (.int .u8 ((I k).toNat : Int)) := by simp [dgA, h]
theorem dgA_full (I : Nat → UInt8) : full16 (dgA I) = true := by
  unfold full16
  rw [Bool.and_eq_true, decide_eq_true_eq]
  refine ⟨dgA_size I, ?_⟩
  rw [Array.all_eq_true_iff_forall_mem]
  intro v hv
  simp only [dgA, List.mem_toArray, List.mem_map, List.mem_range] at hv
  obtain ⟨j, hj, rfl⟩ := hv
  rfl
theorem dgA_congr {I J : Nat → UInt8} (h : ∀ k, k < 16 → I k = J k) : dgA I = dgA J := by
  unfold dgA
  congr 1
  exact List.map_congr_left fun k hk => by rw [h k (by simpa using hk)]
theorem dgA_cells (I : Nat → UInt8) : (Value.agg (dgA I)).cells = dgA I := rfl
theorem row16_dg {w : World} {g : Nat} {T : TypeId} {I : Nat → UInt8} (h : w.rowIs g T 16 (u8V I)) : row16 w g 0 = dgA I := by
  apply Array.ext'
  unfold row16 dgA
  simp only [List.map_inj_left]
  intro j hj
  have hj : j < 16 := by simpa using hj
  rw [Nat.zero_add, h.cell hj]; rfl
theorem dg_row (w : World) (I : Nat → UInt8) (T : TypeId) : (w.alloc (.cells (dgA I) T)).rowIs w.heap.size T 16 (u8V I) := by
  have := World.rowIs_alloc w (dgA I) T (u8V I) (fun i hi => by
    rw [dgA_size] at hi
    exact dgA_get I i hi)
  rw [dgA_size] at this
  exact this
end Go.Proofs.Ytfoandpcoakcjaa
