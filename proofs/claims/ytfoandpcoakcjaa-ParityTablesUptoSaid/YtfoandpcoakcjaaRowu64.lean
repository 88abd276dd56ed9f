/- An array of 64 numbers of 32 bits, loaded out of the middle of a block or stored into it, as the walk's simp may use it. No conditions. -/
import Derived.Test.YtfoandpcoakcjaaDigP
namespace Go.Proofs.Ytfoandpcoakcjaa
open Go.RowKit Dig
def row64 (w : World) (g off : Nat) : Array Value := ((List.range 64).map fun j => (w.cell? ⟨g, off + j, none⟩).getD undef).toArray
/-- The block is there, plain, and long enough. -/
def ok64 (w : World) (g off : Nat) : Bool := match w.heap[g]? with
  | some (.cells cur _ (0, 0)) => decide (off + 64 ≤ cur.size)
  | _ => false
def put64 (w : World) (g off : Nat) (vs : Array Value) : World := match w.heap[g]? with
  | some (.cells cur _ _) => w.setRow g (cur.toList.take off ++ vs.toList ++ cur.toList.drop (off + vs.toList.length)).toArray
  | _ => w
def full64 (vs : Array Value) : Bool := decide (vs.size = 64) && vs.all (·.oneCell')
theorem ok64_of {w : World} {g N off : Nat} {T : TypeId} {f : Nat → Value} (h : w.rowIs g T N f) (hfit : off + 64 ≤ N) : ok64 w g off = true := by
  obtain ⟨c, hb, hn, _⟩ := h
  unfold ok64; rw [hb]
  simp only [decide_eq_true_eq]; omega
theorem ok64_block {w : World} {g off : Nat} (h : ok64 w g off = true) : ∃ cur T, w.heap[g]? = some (.cells cur T (0, 0)) ∧ off + 64 ≤ cur.size := by
  unfold ok64 at h
  split at h
  · rename_i cur T hh; exact ⟨cur, T, hh, of_decide_eq_true h⟩
  · cases h
theorem row64_size (w : World) (g off : Nat) : (row64 w g off).size = 64 := by simp [row64]
theorem info64 : (Try.prog.info? 91).map (·.size) = some 64 := by kernel_rfl
theorem run_isAgg64 (w : World) : (isAgg 91).run Try.prog w = .ok true w := by kernel_rfl
theorem run_size64 (w : World) : (sizeOf 91).run Try.prog w = .ok 64 w := by kernel_rfl
theorem loadAt_row64 (w : World) (g off : Nat) (h : ok64 w g off = true) :
    (Instr.loadAt 91 (.pointer (some ⟨g, off, none⟩))).run Try.prog w = .ok (.agg (row64 w g off)) w := by
  obtain ⟨cur, T, hh, hs⟩ := ok64_block h
  have := run_loadCells_list (P := Try.prog) w ⟨g, off, none⟩ (row64 w g off).toList (fun j v hv => by
    have hj : j < 64 := by
      rcases Nat.lt_or_ge j 64 with h | h
      · exact h
      · rw [List.getElem?_eq_none (by rw [Array.length_toList, row64_size]; exact h)] at hv; cases hv
    have ea : ({ block := g, off := off, spot := none } : Addr).add j = ⟨g, off + j, none⟩ := by unfold Addr.add; split <;> simp_all
    rw [ea]
    simp [row64, hj] at hv
    rw [cell_of_row w g (off + j) cur T (0, 0) hh] at hv ⊢
    rw [Array.getElem?_eq_getElem (by omega)] at hv ⊢
    simpa using hv)
  rw [Array.length_toList, row64_size] at this
  simp only [Instr.loadAt, Instr.sureAddr, loadVar, Sem.run_bind, Sem.run_pure, Result.andThen, run_isAgg64, run_size64, if_true, this]
theorem storeAt_row64 (w : World) (g off : Nat) (vs : Array Value) (h : ok64 w g off = true) (hv : full64 vs = true) :
    (Instr.storeAt 91 (.pointer (some ⟨g, off, none⟩)) (.agg vs)).run Try.prog w = .ok () (put64 w g off vs) := by
  obtain ⟨cur, T, hh, hs⟩ := ok64_block h
  unfold full64 at hv
  rw [Bool.and_eq_true, decide_eq_true_eq] at hv
  have := run_storeCells_at Try.prog g off T vs.toList 0 cur w hh (by rw [Array.length_toList]; omega) (fun v hm => (Array.all_eq_true_iff_forall_mem.1 hv.2) v (by simpa using hm))
  have hc : (Value.agg vs).cells = vs := rfl
  simp only [Instr.storeAt, Instr.sureAddr, storeVar, Sem.run_bind, Sem.run_pure, Result.andThen, run_size64, hc, hv.1, ne_eq, not_true_eq_false, if_false, this]
  unfold put64
  rw [hh]
  simp
def ld64 (x : Value) : Sem Next := do pure (.value (← Instr.loadAt 91 x))
def st64 (x v : Value) : Sem Next := do Instr.storeAt 91 x v; pure .skip
theorem execOp_ld64 (ρ : Operand → Value) (dst : Option Tmp) (x : Operand) (ty : TypeId) (pos : String) (after : Array Edge) (guard : Option (Nat × Bool)) :
    execOp ρ { dst, op := .load 91 x, type := ty, pos, after, guard } = ld64 (ρ x) := rfl
theorem execOp_st64 (ρ : Operand → Value) (dst : Option Tmp) (x v : Operand) (ty : TypeId) (pos : String) (after : Array Edge) (guard : Option (Nat × Bool)) :
    execOp ρ { dst, op := .store 91 x v, type := ty, pos, after, guard } = st64 (ρ x) (ρ v) := rfl
theorem run_ld64 (w : World) (g off : Nat) (h : ok64 w g off = true) : (ld64 (.pointer (some ⟨g, off, none⟩))).run Try.prog w = .ok (.value (.agg (row64 w g off))) w := by
  unfold ld64
  simp only [Sem.run_bind, loadAt_row64 w g off h, Result.andThen, Sem.run_pure]
theorem run_st64 (w : World) (g off : Nat) (vs : Array Value) (h : ok64 w g off = true) (hv : full64 vs = true) : (st64 (.pointer (some ⟨g, off, none⟩)) (.agg vs)).run Try.prog w = .ok .skip (put64 w g off vs) := by
  unfold st64
  simp only [Sem.run_bind, storeAt_row64 w g off vs h hv, Result.andThen, Sem.run_pure]
theorem put64_row {w : World} {g N : Nat} {T : TypeId} {f : Nat → Value} (h : w.rowIs g T N f) (off : Nat) (vs : Array Value) (hfit : off + 64 ≤ N) (hv : full64 vs = true) :
    (put64 w g off vs).rowIs g T N (fun x => if off ≤ x ∧ x < off + 64 then vs.toList.getD (x - off) undef else f x) ∧ w.grownBy (put64 w g off vs) (some g) := by
  unfold full64 at hv
  rw [Bool.and_eq_true, decide_eq_true_eq] at hv
  obtain ⟨w', h1, h2, h3⟩ := storeCells_row (P := Try.prog) h off vs.toList (by rw [Array.length_toList, hv.1]; exact hfit) (fun v hm => (Array.all_eq_true_iff_forall_mem.1 hv.2) v (by simpa using hm))
  have hs := storeAt_row64 w g off vs (ok64_of h hfit) (by unfold full64; rw [Bool.and_eq_true, decide_eq_true_eq]; exact hv)
  have hc : (Value.agg vs).cells = vs := rfl
  simp only [Instr.storeAt, Instr.sureAddr, storeVar, Sem.run_bind, Sem.run_pure, Result.andThen, run_size64, hc, hv.1, ne_eq, not_true_eq_false, if_false] at hs
  rw [h1] at hs
  injection hs with _ hs
  subst hs
  refine ⟨h2.congr fun x _ => ?_, h3⟩
  unfold over
  rw [Array.length_toList, hv.1]
theorem row64_get {w : World} {g N off : Nat} {T : TypeId} {f : Nat → Value} (h : w.rowIs g T N f) (hfit : off + 64 ≤ N) (j : Nat) (hj : j < 64) : (row64 w g off).toList.getD j undef = f (off + j) := by
  have := h.cell (i := off + j) (by omega)
  simp [row64, List.getD, hj, this]
theorem row64_full {w : World} {g N off : Nat} {T : TypeId} {f : Nat → Value} (h : w.rowIs g T N f) (hfit : off + 64 ≤ N) (h1 : ∀ x, (f x).oneCell' = true) : full64 (row64 w g off) = true := by
  unfold full64
  rw [Bool.and_eq_true, decide_eq_true_eq]
  refine ⟨row64_size _ _ _, ?_⟩
  rw [Array.all_eq_true_iff_forall_mem]
  intro v hv
  simp only [row64, List.mem_toArray, List.mem_map, List.mem_range] at hv
  obtain ⟨j, hj, rfl⟩ := hv
  rw [h.cell (i := off + j) (by omega)]
  exact h1 _
theorem row64_u {w : World} {g : Nat} {T : TypeId} {f : Nat → UInt32} (h : w.rowIs g T 64 (uV f)) : row64 w g 0 = uA 64 f := by
  apply Array.ext'
  unfold row64 uA
  simp only [List.map_inj_left]
  intro j hj
  have hj : j < 64 := by simpa using hj
  rw [Nat.zero_add, h.cell hj]; rfl
theorem u64_full (f : Nat → UInt32) : full64 (uA 64 f) = true := by
  unfold full64
  rw [Bool.and_eq_true, decide_eq_true_eq]
  refine ⟨uA_size _ _, ?_⟩
  rw [Array.all_eq_true_iff_forall_mem]
  intro v hv
  simp only [uA, List.mem_toArray, List.mem_map, List.mem_range] at hv
  obtain ⟨j, hj, rfl⟩ := hv
  rfl
theorem u64_row (w : World) (f : Nat → UInt32) (T : TypeId) : (w.alloc (.cells (uA 64 f) T)).rowIs w.heap.size T 64 (uV f) := by
  have := World.rowIs_alloc w (uA 64 f) T (uV f) (fun i hi => by
    rw [uA_size] at hi
    exact uA_get 64 f i hi)
  rw [uA_size] at this
  exact this
end Go.Proofs.Ytfoandpcoakcjaa
