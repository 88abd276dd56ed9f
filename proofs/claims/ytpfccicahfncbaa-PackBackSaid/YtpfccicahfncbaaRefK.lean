/- Walk: the reference's constants of a sum. No conditions. -/
import Derived.Test.YtpfccicahfncbaaDig1
namespace Go.Proofs.Ytpfccicahfncbaa
open Go.RowKit Dig
set_option linter.unusedVariables false
attribute [local go_sem ↓] execOp_ld8 execOp_st8 execOp_ld64 execOp_st64
attribute [local go_sem] run_ld8 run_st8 run_ld64 run_st64
set_option maxRecDepth 100000 in
set_option maxHeartbeats 0 in
theorem rconstants_any (w : World) : Calls Try.prog 96 #[] w fun e w' => e = .returned (.agg (uA 64 kF)) ∧ Below w.heap.size w w' := by
  obtain ⟨h1, h2, h3, h4⟩ := constants_new w (c := (#[.int .u32 0, .int .u32 0, .int .u32 0, .int .u32 0, .int .u32 0, .int .u32 0, .int .u32 0, .int .u32 0, .int .u32 0, .int .u32 0, .int .u32 0, .int .u32 0, .int .u32 0, .int .u32 0, .int .u32 0, .int .u32 0, .int .u32 0, .int .u32 0, .int .u32 0, .int .u32 0, .int .u32 0, .int .u32 0, .int .u32 0, .int .u32 0, .int .u32 0, .int .u32 0, .int .u32 0, .int .u32 0, .int .u32 0, .int .u32 0, .int .u32 0, .int .u32 0, .int .u32 0, .int .u32 0, .int .u32 0, .int .u32 0, .int .u32 0, .int .u32 0, .int .u32 0, .int .u32 0, .int .u32 0, .int .u32 0, .int .u32 0, .int .u32 0, .int .u32 0, .int .u32 0, .int .u32 0, .int .u32 0, .int .u32 0, .int .u32 0, .int .u32 0, .int .u32 0, .int .u32 0, .int .u32 0, .int .u32 0, .int .u32 0, .int .u32 0, .int .u32 0, .int .u32 0, .int .u32 0, .int .u32 0, .int .u32 0, .int .u32 0, .int .u32 0] : Array Value)) (by kernel_rfl) constants_lit
  have H := Lib.hid (And.intro h2 h3)
  clear h2 h3
  go_enter Try.func96, Try.ntmps96
  go_wp2
  exact bodyPost_ret (v := .agg (uA 64 kF)) (results_cell_row rfl _ _ w.heap.size 143 _ (0, 0) _ rfl H.out.1 Try.underlying143 rfl (by rw [uA_size]; kernel_rfl)) rfl ⟨rfl, H.out.2⟩
end Go.Proofs.Ytpfccicahfncbaa
