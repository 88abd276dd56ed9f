/- Own rule: a list of one set of attributes, written as a literal. No conditions. -/
import Derived.Test.YtpfccicahfncbaaDoorAtts
namespace Go.Proofs.YtpfccicahfncbaaDoor
open Go.RowKit Wir
def bslA (a : Value) : Sem Next := do pure (.value (← Instr.buildSlice 23 1 #[(0, a)]))
theorem execOp_bslA (ρ : Operand → Value) (dst : Option Tmp) (a : Operand) (ty : TypeId) (pos : String) (after : Array Edge) (guard : Option (Nat × Bool)) :
    execOp ρ { dst, op := .buildSlice 23 1 #[(0, a)], type := ty, pos, after, guard } = bslA (ρ a) := by
  unfold execOp bslA; simp
theorem run_bslA (w : World) (a0 a1 a2 a3 a4 a5 a6 : Value) : (bslA (.agg #[a0, a1, a2, a3, a4, a5, a6])).run Tryd.prog w = .ok (.value (.slice (some ⟨w.heap.size, 0, none⟩) 1 1)) (w.alloc (.cells #[a0, a1, a2, a3, a4, a5, a6] 27)) := by
  unfold bslA
  go_simp
end Go.Proofs.YtpfccicahfncbaaDoor
