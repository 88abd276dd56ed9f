/- Walk: the reference's Whole. No conditions. -/
import Derived.Test.YtbfmdingbgdflaaRefFix
import Derived.Test.YtbfmdingbgdflaaOf
import Derived.Deep.DeepCutAuto
namespace Go.Proofs.Ytbfmdingbgdflaa
open Go.RowKit
set_option linter.unusedVariables false
set_option maxRecDepth 100000 in
set_option maxHeartbeats 0 in
theorem whole_any (k : UInt8) (s : ByteArray) (w : World) (hs : s.size ≤ 16777216) :
    Calls Try.prog 46 #[.int .u8 (k.toNat : Int), .string s] w fun e w' => e = .returned (.string (headB k s.size ++ s)) ∧ Below w.heap.size w w' := by
  have CB : ∀ (N : Nat) (W : World), W.cell? ⟨N, 0, none⟩ = some (.int .u8 (k.toNat : Int)) → (convert 48 9 (.slice (some ⟨N, 0, none⟩) 1 1)).run Try.prog W = .ok (.string (bs [k])) W := fun N W h =>
    run_str 48 5 9 (by kernel_rfl) (by kernel_rfl) (by kernel_rfl) ⟨N, 0, none⟩ 1 1 [k] rfl (fun j hj => by
      obtain rfl : j = 0 := by omega
      rw [add0]; exact h)
  have CELL : ∀ W : World, (W.alloc (.cells #[.int .u8 (k.toNat : Int)] 5)).cell? ⟨W.heap.size, 0, none⟩ = some (.int .u8 (k.toNat : Int)) := fun W => (World.rowIs_alloc W #[.int .u8 (k.toNat : Int)] 5 (fun _ => .int .u8 (k.toNat : Int)) (fun i hi => by
      have : i = 0 := by simpa using hi
      subst this; rfl)).cell (i := 0) (by simp)
  have c0 : ∀ W : World, (convert 48 9 (.slice (some ⟨W.heap.size, 0, none⟩) 1 1)).run Try.prog (W.alloc (.cells #[.int .u8 (k.toNat : Int)] 5)) = .ok (.string (bs [k])) (W.alloc (.cells #[.int .u8 (k.toNat : Int)] 5)) := fun W => CB _ _ (CELL W)
  have c1 : (convert 48 9 (.slice (some ⟨w.heap.size, 0, none⟩) 1 1)).run Try.prog (w.drew.alloc (.cells #[.int .u8 (k.toNat : Int)] 5)) = .ok (.string (bs [k])) (w.drew.alloc (.cells #[.int .u8 (k.toNat : Int)] 5)) := c0 w.drew
  have c2 : (convert 48 9 (.slice (some ⟨w.heap.size, 0, none⟩) 1 1)).run Try.prog (w.alloc (.cells #[.int .u8 (k.toNat : Int)] 5)).drew = .ok (.string (bs [k])) (w.alloc (.cells #[.int .u8 (k.toNat : Int)] 5)).drew := CB _ _ (CELL w)
  have CV : Hid (∀ W, Below (w.heap.size + 1) (w.alloc (.cells #[.int .u8 (k.toNat : Int)] 5)).drew W → (convert 48 9 (.slice (some ⟨w.heap.size, 0, none⟩) 1 1)).run Try.prog W = .ok (.string (bs [k])) W) := Lib.hid (fun W hb => CB _ _ ((hb.cell (p := ⟨w.heap.size, 0, none⟩) (by show w.heap.size < w.heap.size + 1; omega)).trans (CELL w)))
  have hnw : IntKind.u64.wrap (s.size : Int) = (s.size : Int) := by rw [IntKind.wrap_u64]; omega
  have hn64 : s.size < 18446744073709551616 := by omega
  have z8 : (bs (be8 s.size)).size = 8 := by rw [bs_size, be8_length]
  have z1 : (bs [k]).size = 1 := rfl
  have hcat1 : ¬ 9223372036854775807 < (1 : Nat) + 8 := by omega
  have hcat2 : ¬ 9223372036854775807 < (1 : Nat) + 8 + s.size := by omega
  have HE : Hid (headB k s.size ++ s = bs [k] ++ bs (be8 s.size) ++ s) := Lib.hid rfl
  clear CB CELL
  go_enter Try.func46, Try.ntmps46
  go_upto_region 1 with fail
  go_region_with (go_at_call 82; refine (rfixed8_any s.size _ hn64).mono ?_; rintro e w3 ⟨rfl, hb3⟩; have HB3 := Lib.hid hb3; try (have c3 := CV.out w3 (hb3.mono (by simp))))
  all_goals
    go_wp2
    go_ret
    refine ⟨by rw [HE.out]; rfl, ?_⟩
    first
      | exact (((Below.refl w.heap.size w).alloc (Nat.le_refl _) _).drew).trans (HB3.out.mono (by simp))
      | exact (((Below.refl w.heap.size w).drew).trans HB3.out).alloc HB3.out.size _
end Go.Proofs.Ytbfmdingbgdflaa
