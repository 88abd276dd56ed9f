/- Walks: the calls on no filter; Fit; a name that is no filter's. No conditions. -/
import Derived.Test.YtbfmdingbgdflaaBloC
import Derived.Test.YtbfmdingbgdflaaBloD
import Derived.Test.YtbfmdingbgdflaaDigNil
import Derived.OwnWalk
namespace Go.Proofs.Ytbfmdingbgdflaa
open Go.RowKit Blo
set_option linter.unusedVariables false
attribute [local go_sem ↓] execOp_ld32 execOp_st32
attribute [local go_sem] run_ld32 run_st32
def boxedN (w : World) (I : Nat → UInt8) : World := (w.alloc (.cells #[.pointer none] 24)).alloc (.cells (idA I) 28)
theorem boxedN_below (w : World) (I : Nat → UInt8) : Below w.heap.size w (boxedN w I) := ((Below.refl _ _).alloc (Nat.le_refl _) _).alloc (by simp) _
theorem boxedN_f (w : World) (I : Nat → UInt8) : (boxedN w I).cell? ⟨w.heap.size, 0, none⟩ = some (.pointer none) := by
  have h := ((Blk.new w 24 #[.pointer none]).alloc (.cells (idA I) 28)).cell 0
  exact h
set_option maxRecDepth 100000 in
theorem hasNil_any (I : Nat → UInt8) (w : World) :
    Calls Try.prog 15 #[.pointer none, .agg (idA I)] w fun e w' => e = .returned (.bool false) ∧ Below w.heap.size w w' := by
  have hc1 := boxedN_f w I
  have HB := Lib.hid (boxedN_below w I)
  unfold boxedN at hc1 HB
  go_enter Try.func15, Try.ntmps15
  go_wp2
  go_ret
  exact ⟨rfl, HB.out⟩
set_option maxRecDepth 100000 in
theorem addNil_any (I : Nat → UInt8) (w : World) :
    Calls Try.prog 28 #[.pointer none, .agg (idA I)] w fun e w' => e = .returned (.int .i64 2) ∧ Below w.heap.size w w' := by
  have hc1 := boxedN_f w I
  have HB := Lib.hid (boxedN_below w I)
  unfold boxedN at hc1 HB
  go_enter Try.func28, Try.ntmps28
  go_wp2
  go_ret
  exact ⟨rfl, HB.out⟩
theorem joinNil1_any (x : Option Addr) (w : World) :
    Calls Try.prog 25 #[.pointer none, .pointer x] w fun e w' => e = .returned (.int .i64 2) ∧ w = w' := by
  go_enter Try.func25, Try.ntmps25
  go_wp2
  go_ret
  exact ⟨rfl, rfl⟩
theorem joinNil2_any (P : Nat) (w : World) :
    Calls Try.prog 25 #[.pointer (some ⟨P, 0, none⟩), .pointer none] w fun e w' => e = .returned (.int .i64 2) ∧ w = w' := by
  go_enter Try.func25, Try.ntmps25
  go_wp2
  go_ret
  exact ⟨rfl, rfl⟩
theorem onesNil_any (w : World) :
    Calls Try.prog 24 #[.pointer none] w fun e w' => e = .returned (.int .i64 0) ∧ w = w' := by
  go_enter Try.func24, Try.ntmps24
  go_wp2
  go_ret
  exact ⟨rfl, rfl⟩
theorem sizeNil_any (w : World) :
    Calls Try.prog 34 #[.pointer none] w fun e w' => e = .returned (.tuple #[.int .i64 0, .int .i64 0]) ∧ w = w' := by
  go_enter Try.func34, Try.ntmps34
  go_wp2
  go_ret2
  exact ⟨rfl, rfl⟩
theorem encNil_any (w : World) :
    Calls Try.prog 26 #[.pointer none] w fun e w' => e = .returned (.tuple #[.string { data := #[] }, .int .i64 2]) ∧ w = w' := by
  go_enter Try.func26, Try.ntmps26
  go_wp2
  go_ret2
  exact ⟨rfl, rfl⟩
/-- How large a filter is: doubled until it is large enough. -/
def fitF : Nat → Nat → Nat → Nat
  | 0, b, _ => b
  | f + 1, b, n => if b < 10 * n then fitF f (2 * b) n else b
def fitN (n : Nat) : Nat := fitF 18 64 n
theorem fit_no (n : Int) (w : World) (h : n < 0 ∨ 1048576 < n) :
    Calls Try.prog 49 #[.int .i64 n] w fun e w' => e = .returned (.tuple #[.int .i64 0, .int .i64 0, .int .i64 1]) ∧ w = w' := by
  by_cases h0 : n < 0
  · clear h
    go_enter Try.func49, Try.ntmps49
    go_wp2
    go_ret3
    exact ⟨rfl, rfl⟩
  · have h1 : 1048576 < n := by omega
    have h2 : 0 ≤ n := by omega
    clear h
    go_enter Try.func49, Try.ntmps49
    go_wp2
    go_ret3
    exact ⟨rfl, rfl⟩
set_option maxRecDepth 100000 in
theorem fit_any (n : Nat) (w : World) (h : n ≤ 1048576) :
    Calls Try.prog 49 #[.int .i64 (n : Int)] w fun e w' => e = .returned (.tuple #[.int .i64 ((fitN n : Nat) : Int), .int .i64 7, .int .i64 0]) ∧ w = w' := by
  have h1 : (n : Int) ≤ 1048576 := by omega
  have h2 : 0 ≤ (n : Int) := by omega
  go_enter Try.func49, Try.ntmps49
  go_wp2
  go_loopw [2] (fun b wr => ∃ k f : Nat, 64 ≤ k ∧ k ≤ 20971520 ∧ 10 * n ≤ k * 2 ^ f ∧ b = .int .i64 (k : Int) ∧ Hid (fitN n = fitF f k n) ∧ w = wr) (fun b _ => 20971520 - (intOf b).toNat)
  case atStart => exact ⟨64, 18, by omega, by omega, by omega, rfl, Lib.hid rfl, rfl⟩
  case round =>
    obtain ⟨k, f, hk1, hk2, hf, rfl, HF, rfl⟩ := hrel
    by_cases hlt : k < 10 * n
    · have hlt2 : (k : Int) < 10 * (n : Int) := by omega
      cases f with
      | zero => omega
      | succ f =>
        have HN : Hid (fitN n = fitF f (2 * k) n) := Lib.hid (by rw [HF.out, fitF, if_pos hlt])
        have hpow : 10 * n ≤ (2 * k) * 2 ^ f := by rw [Nat.pow_succ] at hf; rw [Nat.mul_comm 2 k, Nat.mul_assoc, Nat.mul_comm 2]; exact hf
        clear hf
        go_wp2
        go_roundw
        case rel => exact ⟨2 * k, f, by omega, by omega, hpow, by go_num, HN, by first | rfl | trivial⟩
        case measure => simp [intOf]; omega
    · have hlt2 : ¬ (k : Int) < 10 * (n : Int) := by omega
      have HN : Hid (fitN n = k) := Lib.hid (by
        rw [HF.out]
        cases f with
        | zero => rfl
        | succ f => rw [fitF, if_neg hlt])
      clear hf
      go_wp2
      go_ret3
      exact ⟨by rw [HN.out]; rfl, rfl⟩
theorem namedX_any (w : World) :
    Calls Try.prog 84 #[.string { data := #[120] }] w fun e w' => e = .returned (.bool false) ∧ w = w' := by
  go_enter Try.func84, Try.ntmps84
  go_wp2
  go_ret
  exact ⟨rfl, rfl⟩
theorem checkX_any (s : ByteArray) (w : World) :
    Calls Try.prog 52 #[.string { data := #[120] }, .string s] w fun e w' => e = .returned (.int .i64 10) ∧ w = w' := by
  go_enter Try.func52, Try.ntmps52
  go_wp2_with fail
  refine (namedX_any _).mono ?_
  rintro e w1 ⟨rfl, rfl⟩
  go_wp2
  go_ret
  exact ⟨rfl, rfl⟩
end Go.Proofs.Ytbfmdingbgdflaa
