/- A whole row of 128 cells, loaded out of the middle of a block or stored into it, as the walk's simp may use it. No conditions. -/
import Derived.Test.YthlnnclpfgokjaaTexts
namespace Go.Proofs.Ythlnnclpfgokjaa
open Go.RowKit
def row128 (w : World) (g off : Nat) : Array Value := ((List.range 128).map fun j => (w.cell? ⟨g, off + j, none⟩).getD undef).toArray
/-- The block is there, plain, and long enough. -/
def ok128 (w : World) (g off : Nat) : Bool := match w.heap[g]? with
  | some (.cells cur _ (0, 0)) => decide (off + 128 ≤ cur.size)
  | _ => false
def put128 (w : World) (g off : Nat) (vs : Array Value) : World := match w.heap[g]? with
  | some (.cells cur _ _) => w.setRow g (cur.toList.take off ++ vs.toList ++ cur.toList.drop (off + vs.toList.length)).toArray
  | _ => w
def full128 (vs : Array Value) : Bool := decide (vs.size = 128) && vs.all (·.oneCell')
theorem ok128_of {w : World} {g N off : Nat} {T : TypeId} {f : Nat → Value} (h : w.rowIs g T N f) (hfit : off + 128 ≤ N) : ok128 w g off = true := by
  obtain ⟨c, hb, hn, _⟩ := h
  unfold ok128; rw [hb]
  simp only [decide_eq_true_eq]; omega
theorem ok128_block {w : World} {g off : Nat} (h : ok128 w g off = true) : ∃ cur T, w.heap[g]? = some (.cells cur T (0, 0)) ∧ off + 128 ≤ cur.size := by
  unfold ok128 at h
  split at h
  · rename_i cur T hh; exact ⟨cur, T, hh, of_decide_eq_true h⟩
  · cases h
theorem row128_size (w : World) (g off : Nat) : (row128 w g off).size = 128 := by simp [row128]
theorem info128 : (Try.prog.info? 72).map (·.size) = some 128 := by kernel_rfl
theorem run_isAgg128 (w : World) : (isAgg 72).run Try.prog w = .ok true w := by kernel_rfl
theorem run_size128 (w : World) : (sizeOf 72).run Try.prog w = .ok 128 w := by kernel_rfl
theorem loadAt_row128 (w : World) (g off : Nat) (h : ok128 w g off = true) :
    (Instr.loadAt 72 (.pointer (some ⟨g, off, none⟩))).run Try.prog w = .ok (.agg (row128 w g off)) w := by
  obtain ⟨cur, T, hh, hs⟩ := ok128_block h
  have := run_loadCells_list (P := Try.prog) w ⟨g, off, none⟩ (row128 w g off).toList (fun j v hv => by
    have hj : j < 128 := by
      rcases Nat.lt_or_ge j 128 with h | h
      · exact h
      · rw [List.getElem?_eq_none (by rw [Array.length_toList, row128_size]; exact h)] at hv; cases hv
    have ea : ({ block := g, off := off, spot := none } : Addr).add j = ⟨g, off + j, none⟩ := by unfold Addr.add; split <;> simp_all
    rw [ea]
    simp [row128, hj] at hv
    rw [cell_of_row w g (off + j) cur T (0, 0) hh] at hv ⊢
    rw [Array.getElem?_eq_getElem (by omega)] at hv ⊢
    simpa using hv)
  rw [Array.length_toList, row128_size] at this
  simp only [Instr.loadAt, Instr.sureAddr, loadVar, Sem.run_bind, Sem.run_pure, Result.andThen, run_isAgg128, run_size128, if_true, this]
theorem storeAt_row128 (w : World) (g off : Nat) (vs : Array Value) (h : ok128 w g off = true) (hv : full128 vs = true) :
    (Instr.storeAt 72 (.pointer (some ⟨g, off, none⟩)) (.agg vs)).run Try.prog w = .ok () (put128 w g off vs) := by
  obtain ⟨cur, T, hh, hs⟩ := ok128_block h
  unfold full128 at hv
  rw [Bool.and_eq_true, decide_eq_true_eq] at hv
  have := run_storeCells_at Try.prog g off T vs.toList 0 cur w hh (by rw [Array.length_toList]; omega) (fun v hm => (Array.all_eq_true_iff_forall_mem.1 hv.2) v (by simpa using hm))
  have hc : (Value.agg vs).cells = vs := rfl
  simp only [Instr.storeAt, Instr.sureAddr, storeVar, Sem.run_bind, Sem.run_pure, Result.andThen, run_size128, hc, hv.1, ne_eq, not_true_eq_false, if_false, this]
  unfold put128
  rw [hh]
  simp
def ld128 (x : Value) : Sem Next := do pure (.value (← Instr.loadAt 72 x))
def st128 (x v : Value) : Sem Next := do Instr.storeAt 72 x v; pure .skip
theorem execOp_ld128 (ρ : Operand → Value) (dst : Option Tmp) (x : Operand) (ty : TypeId) (pos : String) (after : Array Edge) (guard : Option (Nat × Bool)) :
    execOp ρ { dst, op := .load 72 x, type := ty, pos, after, guard } = ld128 (ρ x) := rfl
theorem execOp_st128 (ρ : Operand → Value) (dst : Option Tmp) (x v : Operand) (ty : TypeId) (pos : String) (after : Array Edge) (guard : Option (Nat × Bool)) :
    execOp ρ { dst, op := .store 72 x v, type := ty, pos, after, guard } = st128 (ρ x) (ρ v) := rfl
theorem run_ld128 (w : World) (g off : Nat) (h : ok128 w g off = true) : (ld128 (.pointer (some ⟨g, off, none⟩))).run Try.prog w = .ok (.value (.agg (row128 w g off))) w := by
  unfold ld128
  simp only [Sem.run_bind, loadAt_row128 w g off h, Result.andThen, Sem.run_pure]
theorem run_st128 (w : World) (g off : Nat) (vs : Array Value) (h : ok128 w g off = true) (hv : full128 vs = true) : (st128 (.pointer (some ⟨g, off, none⟩)) (.agg vs)).run Try.prog w = .ok .skip (put128 w g off vs) := by
  unfold st128
  simp only [Sem.run_bind, storeAt_row128 w g off vs h hv, Result.andThen, Sem.run_pure]
theorem put128_row {w : World} {g N : Nat} {T : TypeId} {f : Nat → Value} (h : w.rowIs g T N f) (off : Nat) (vs : Array Value) (hfit : off + 128 ≤ N) (hv : full128 vs = true) :
    (put128 w g off vs).rowIs g T N (fun x => if off ≤ x ∧ x < off + 128 then vs.toList.getD (x - off) undef else f x) ∧ w.grownBy (put128 w g off vs) (some g) := by
  unfold full128 at hv
  rw [Bool.and_eq_true, decide_eq_true_eq] at hv
  obtain ⟨w', h1, h2, h3⟩ := storeCells_row (P := Try.prog) h off vs.toList (by rw [Array.length_toList, hv.1]; exact hfit) (fun v hm => (Array.all_eq_true_iff_forall_mem.1 hv.2) v (by simpa using hm))
  have hs := storeAt_row128 w g off vs (ok128_of h hfit) (by unfold full128; rw [Bool.and_eq_true, decide_eq_true_eq]; exact hv)
  have hc : (Value.agg vs).cells = vs := rfl
  simp only [Instr.storeAt, Instr.sureAddr, storeVar, Sem.run_bind, Sem.run_pure, Result.andThen, run_size128, hc, hv.1, ne_eq, not_true_eq_false, if_false] at hs
  rw [h1] at hs
  injection hs with _ hs
  subst hs
  refine ⟨h2.congr fun x _ => ?_, h3⟩
  unfold over
  rw [Array.length_toList, hv.1]
theorem row128_get {w : World} {g N off : Nat} {T : TypeId} {f : Nat → Value} (h : w.rowIs g T N f) (hfit : off + 128 ≤ N) (j : Nat) (hj : j < 128) : (row128 w g off).toList.getD j undef = f (off + j) := by
  have := h.cell (i := off + j) (by omega)
  simp [row128, List.getD, hj, this]
theorem row128_full {w : World} {g N off : Nat} {T : TypeId} {f : Nat → Value} (h : w.rowIs g T N f) (hfit : off + 128 ≤ N) (h1 : ∀ x, (f x).oneCell' = true) : full128 (row128 w g off) = true := by
  unfold full128
  rw [Bool.and_eq_true, decide_eq_true_eq]
  refine ⟨row128_size _ _ _, ?_⟩
  rw [Array.all_eq_true_iff_forall_mem]
  intro v hv
  simp only [row128, List.mem_toArray, List.mem_map, List.mem_range] at hv
  obtain ⟨j, hj, rfl⟩ := hv
  rw [h.cell (i := off + j) (by omega)]
  exact h1 _
end Go.Proofs.Ythlnnclpfgokjaa
