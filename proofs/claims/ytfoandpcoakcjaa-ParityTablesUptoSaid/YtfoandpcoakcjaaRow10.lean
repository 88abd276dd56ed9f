/- A state of a sum (10 cells), loaded out of the middle of a block or stored into it, as the walk's simp may use it. No conditions. -/
import Derived.Test.YtfoandpcoakcjaaGen
namespace Go.Proofs.Ytfoandpcoakcjaa
open Go.RowKit
def row10 (w : World) (g off : Nat) : Array Value := ((List.range 10).map fun j => (w.cell? ⟨g, off + j, none⟩).getD undef).toArray
/-- The block is there, plain, and long enough. -/
def ok10 (w : World) (g off : Nat) : Bool := match w.heap[g]? with
  | some (.cells cur _ (0, 0)) => decide (off + 10 ≤ cur.size)
  | _ => false
def put10 (w : World) (g off : Nat) (vs : Array Value) : World := match w.heap[g]? with
  | some (.cells cur _ _) => w.setRow g (cur.toList.take off ++ vs.toList ++ cur.toList.drop (off + vs.toList.length)).toArray
  | _ => w
def full10 (vs : Array Value) : Bool := decide (vs.size = 10) && vs.all (·.oneCell')
theorem ok10_of {w : World} {g N off : Nat} {T : TypeId} {f : Nat → Value} (h : w.rowIs g T N f) (hfit : off + 10 ≤ N) : ok10 w g off = true := by
  obtain ⟨c, hb, hn, _⟩ := h
  unfold ok10; rw [hb]
  simp only [decide_eq_true_eq]; omega
theorem ok10_block {w : World} {g off : Nat} (h : ok10 w g off = true) : ∃ cur T, w.heap[g]? = some (.cells cur T (0, 0)) ∧ off + 10 ≤ cur.size := by
  unfold ok10 at h
  split at h
  · rename_i cur T hh; exact ⟨cur, T, hh, of_decide_eq_true h⟩
  · cases h
theorem row10_size (w : World) (g off : Nat) : (row10 w g off).size = 10 := by simp [row10]
theorem info10 : (Try.prog.info? 152).map (·.size) = some 10 := by kernel_rfl
theorem run_isAgg10 (w : World) : (isAgg 152).run Try.prog w = .ok true w := by kernel_rfl
theorem run_size10 (w : World) : (sizeOf 152).run Try.prog w = .ok 10 w := by kernel_rfl
theorem loadAt_row10 (w : World) (g off : Nat) (h : ok10 w g off = true) :
    (Instr.loadAt 152 (.pointer (some ⟨g, off, none⟩))).run Try.prog w = .ok (.agg (row10 w g off)) w := by
  obtain ⟨cur, T, hh, hs⟩ := ok10_block h
  have := run_loadCells_list (P := Try.prog) w ⟨g, off, none⟩ (row10 w g off).toList (fun j v hv => by
    have hj : j < 10 := by
      rcases Nat.lt_or_ge j 10 with h | h
      · exact h
      · rw [List.getElem?_eq_none (by rw [Array.length_toList, row10_size]; exact h)] at hv; cases hv
    have ea : ({ block := g, off := off, spot := none } : Addr).add j = ⟨g, off + j, none⟩ := by unfold Addr.add; split <;> simp_all
    rw [ea]
    simp [row10, hj] at hv
    rw [cell_of_row w g (off + j) cur T (0, 0) hh] at hv ⊢
    rw [Array.getElem?_eq_getElem (by omega)] at hv ⊢
    simpa using hv)
  rw [Array.length_toList, row10_size] at this
  simp only [Instr.loadAt, Instr.sureAddr, loadVar, Sem.run_bind, Sem.run_pure, Result.andThen, run_isAgg10, run_size10, if_true, this]
theorem storeAt_row10 (w : World) (g off : Nat) (vs : Array Value) (h : ok10 w g off = true) (hv : full10 vs = true) :
    (Instr.storeAt 152 (.pointer (some ⟨g, off, none⟩)) (.agg vs)).run Try.prog w = .ok () (put10 w g off vs) := by
  obtain ⟨cur, T, hh, hs⟩ := ok10_block h
  unfold full10 at hv
  rw [Bool.and_eq_true, decide_eq_true_eq] at hv
  have := run_storeCells_at Try.prog g off T vs.toList 0 cur w hh (by rw [Array.length_toList]; omega) (fun v hm => (Array.all_eq_true_iff_forall_mem.1 hv.2) v (by simpa using hm))
  have hc : (Value.agg vs).cells = vs := rfl
  simp only [Instr.storeAt, Instr.sureAddr, storeVar, Sem.run_bind, Sem.run_pure, Result.andThen, run_size10, hc, hv.1, ne_eq, not_true_eq_false, if_false, this]
  unfold put10
  rw [hh]
  simp
def ld10 (x : Value) : Sem Next := do pure (.value (← Instr.loadAt 152 x))
def st10 (x v : Value) : Sem Next := do Instr.storeAt 152 x v; pure .skip
theorem execOp_ld10 (ρ : Operand → Value) (dst : Option Tmp) (x : Operand) (ty : TypeId) (pos : String) (after : Array Edge) (guard : Option (Nat × Bool)) :
    execOp ρ { dst, op := .load 152 x, type := ty, pos, after, guard } = ld10 (ρ x) := rfl
theorem execOp_st10 (ρ : Operand → Value) (dst : Option Tmp) (x v : Operand) (ty : TypeId) (pos : String) (after : Array Edge) (guard : Option (Nat × Bool)) :
    execOp ρ { dst, op := .store 152 x v, type := ty, pos, after, guard } = st10 (ρ x) (ρ v) := rfl
theorem run_ld10 (w : World) (g off : Nat) (h : ok10 w g off = true) : (ld10 (.pointer (some ⟨g, off, none⟩))).run Try.prog w = .ok (.value (.agg (row10 w g off))) w := by
  unfold ld10
  simp only [Sem.run_bind, loadAt_row10 w g off h, Result.andThen, Sem.run_pure]
theorem run_st10 (w : World) (g off : Nat) (vs : Array Value) (h : ok10 w g off = true) (hv : full10 vs = true) : (st10 (.pointer (some ⟨g, off, none⟩)) (.agg vs)).run Try.prog w = .ok .skip (put10 w g off vs) := by
  unfold st10
  simp only [Sem.run_bind, storeAt_row10 w g off vs h hv, Result.andThen, Sem.run_pure]
theorem put10_row {w : World} {g N : Nat} {T : TypeId} {f : Nat → Value} (h : w.rowIs g T N f) (off : Nat) (vs : Array Value) (hfit : off + 10 ≤ N) (hv : full10 vs = true) :
    (put10 w g off vs).rowIs g T N (fun x => if off ≤ x ∧ x < off + 10 then vs.toList.getD (x - off) undef else f x) ∧ w.grownBy (put10 w g off vs) (some g) := by
  unfold full10 at hv
  rw [Bool.and_eq_true, decide_eq_true_eq] at hv
  obtain ⟨w', h1, h2, h3⟩ := storeCells_row (P := Try.prog) h off vs.toList (by rw [Array.length_toList, hv.1]; exact hfit) (fun v hm => (Array.all_eq_true_iff_forall_mem.1 hv.2) v (by simpa using hm))
  have hs := storeAt_row10 w g off vs (ok10_of h hfit) (by unfold full10; rw [Bool.and_eq_true, decide_eq_true_eq]; exact hv)
  have hc : (Value.agg vs).cells = vs := rfl
  simp only [Instr.storeAt, Instr.sureAddr, storeVar, Sem.run_bind, Sem.run_pure, Result.andThen, run_size10, hc, hv.1, ne_eq, not_true_eq_false, if_false] at hs
  rw [h1] at hs
  injection hs with _ hs
  subst hs
  refine ⟨h2.congr fun x _ => ?_, h3⟩
  unfold over
  rw [Array.length_toList, hv.1]
theorem row10_get {w : World} {g N off : Nat} {T : TypeId} {f : Nat → Value} (h : w.rowIs g T N f) (hfit : off + 10 ≤ N) (j : Nat) (hj : j < 10) : (row10 w g off).toList.getD j undef = f (off + j) := by
  have := h.cell (i := off + j) (by omega)
  simp [row10, List.getD, hj, this]
theorem row10_full {w : World} {g N off : Nat} {T : TypeId} {f : Nat → Value} (h : w.rowIs g T N f) (hfit : off + 10 ≤ N) (h1 : ∀ x, (f x).oneCell' = true) : full10 (row10 w g off) = true := by
  unfold full10
  rw [Bool.and_eq_true, decide_eq_true_eq]
  refine ⟨row10_size _ _ _, ?_⟩
  rw [Array.all_eq_true_iff_forall_mem]
  intro v hv
  simp only [row10, List.mem_toArray, List.mem_map, List.mem_range] at hv
  obtain ⟨j, hj, rfl⟩ := hv
  rw [h.cell (i := off + j) (by omega)]
  exact h1 _
theorem row10_eq {w : World} {g : Nat} {T : TypeId} {f : Nat → Value} (h : w.rowIs g T 10 f) (i : Nat) (hi : i < 10) : (row10 w g 0).toList.getD i undef = f i := by
  rw [row10_get h (by omega) i hi, Nat.zero_add]
theorem results_row_tmp {fn : Func} {p u : Tmp} {ty e : TypeId} {n : Nat} (h : fn.results = #[.cell p ty, .tmp u]) (tmps : Array Value) {P : Program} (w : World) (g : Nat) (t : TypeId) (cs : Array Value) (fr : Nat × Nat)
    (hp : tmps.getD p undef = .pointer (some ⟨g, 0, none⟩)) (hg : w.heap[g]? = some (.cells cs t fr))
    (hu : P.underlying ty = some (.array n e)) (hi : (P.info? ty).map (·.size) = some cs.size) :
    (results fn tmps).run P w = .ok (.tuple #[.agg cs, tmps.getD u undef]) w := by
  have hp' : tmps[p]?.getD undef = .pointer (some ⟨g, 0, none⟩) := by simpa using hp
  simp [results, h, hp', asAddr, run_loadVar_row w g t ty cs fr (.array n e) hg hu rfl hi]
end Go.Proofs.Ytfoandpcoakcjaa
