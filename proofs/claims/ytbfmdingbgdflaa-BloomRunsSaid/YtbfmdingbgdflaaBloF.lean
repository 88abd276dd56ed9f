/- Walks: the filter's bytes: magic, Encode. -/
import Derived.Test.YtbfmdingbgdflaaBloE
import Derived.Test.YtbfmdingbgdflaaTake1
namespace Go.Proofs.Ytbfmdingbgdflaa
open Go.RowKit Blo Wir
set_option linter.unusedVariables false
theorem magic_any (w : World) :
    Calls Try.prog 63 #[] w fun e w' => e = .returned (.agg #[.int .u8 77, .int .u8 66, .int .u8 70, .int .u8 49]) ∧ Below w.heap.size w w' := by
  go_enter Try.func63, Try.ntmps63
  go_wp2
  exact bodyPost_ret (v := .agg #[.int .u8 77, .int .u8 66, .int .u8 70, .int .u8 49]) (by simp [results, Try.results63, go_sem]) rfl ⟨rfl, (Below.refl _ _).alloc (Nat.le_refl _) _⟩
/-- The first n bytes of F. -/
def listF (F : Nat → UInt8) (n : Nat) : List UInt8 := (List.range n).map F
theorem listF_length (F : Nat → UInt8) (n : Nat) : (listF F n).length = n := by simp [listF]
theorem listF_get (F : Nat → UInt8) (n j : Nat) (h : j < n) : (listF F n).getD j 0 = F j := by simp [listF, List.getD, h]
theorem buf_str {w : World} {g n cap : Nat} {F : Nat → UInt8} (h : bufIs w 5 g n cap (u8V F)) : (convert 48 9 (.slice (some ⟨g, 0, none⟩) n cap)).run Try.prog w = .ok (.string (bs (listF F n))) w :=
  run_str 48 5 9 (by kernel_rfl) (by kernel_rfl) (by kernel_rfl) ⟨g, 0, none⟩ n cap (listF F n) (listF_length F n) (fun j hj => by
    rw [add0, h.cell hj, listF_get F n j hj]; rfl)
/-- A filter as bytes. -/
def encB (n H : Nat) (F : Nat → UInt8) : ByteArray := bs [77, 66, 70, 49] ++ bs (putL (8 * n)) ++ bs (putL H) ++ bs (listF F n)
attribute [local go_sem ↓] Go.wp_at_zero Go.wp_at_succ
set_option maxRecDepth 100000 in
set_option maxHeartbeats 1000000 in
theorem encode_any (w : World) (P g n cap H : Nat) (F : Nat → UInt8) (h : Flt w P g n cap H F) (hn : n ≤ 2097152) (hH : H ≤ 8) :
    Calls Try.prog 26 #[.pointer (some ⟨P, 0, none⟩)] w fun e w' => e = .returned (.tuple #[.string (encB n H F), .int .i64 0]) ∧ Below w.heap.size w w' := by
  have X := Lib.hid h
  clear h
  go_enter Try.func26, Try.ntmps26
  go_wp2_with fail
  refine (magic_any _).mono ?_; rintro e w1 ⟨rfl, hb1⟩
  have B1 := Lib.hid hb1
  have X1 := Lib.hid (X.out.below hb1)
  clear hb1
  go_wp2
  obtain ⟨w2, hw2⟩ : ∃ w2, w2 = w1.alloc (.cells #[.int .u8 77, .int .u8 66, .int .u8 70, .int .u8 49] 100) := ⟨_, rfl⟩
  have K2 : Hid (∀ w', Below w2.heap.size w2 w' → w'.cell? ⟨P, 0, none⟩ = some (.slice (some ⟨g, 0, none⟩) n cap) ∧ (convert 48 9 (.slice (some ⟨w1.heap.size, 0, none⟩) 4 4)).run Try.prog w' = .ok (.string (bs [77, 66, 70, 49])) w') := Lib.hid (fun w' hb => by
    rw [hw2] at hb
    have f2 : Flt w' P g n cap H F := (X1.out.below ((Below.refl _ _).alloc (Nat.le_refl _) _)).below hb
    refine ⟨f2.blk.cell 0, run_str 48 5 9 (by kernel_rfl) (by kernel_rfl) (by kernel_rfl) ⟨w1.heap.size, 0, none⟩ 4 4 [77, 66, 70, 49] rfl (fun j hj => ?_)⟩
    have b := (Blk.new w1 100 #[.int .u8 77, .int .u8 66, .int .u8 70, .int .u8 49]).below hb (by simp)
    rw [add0, b.cell j]
    have : j = 0 ∨ j = 1 ∨ j = 2 ∨ j = 3 := by omega
    rcases this with h | h | h | h <;> subst h <;> rfl)
  have B2 : Hid (Below w.heap.size w w2) := Lib.hid (by rw [hw2]; exact B1.out.alloc B1.out.size _)
  have X2 : Hid (Flt w2 P g n cap H F) := Lib.hid (by rw [hw2]; exact X1.out.below ((Below.refl _ _).alloc (Nat.le_refl _) _))
  rw [← hw2]
  clear hw2
  have hall : ∀ W, (Instr.sliceAt 100 (.pointer (some ⟨w1.heap.size, 0, none⟩)) none none none).run Try.prog W = .ok (.slice (some ⟨w1.heap.size, 0, none⟩) 4 4) W := fun W => by
    obtain ⟨i, hi⟩ := Option.isSome_iff_exists.1 (show (Try.prog.info? 5).isSome = true by kernel_rfl)
    exact run_all_array (P := Try.prog) W (t := 100) (n := 4) (by kernel_rfl) hi _
  obtain ⟨N, hN⟩ : ∃ N, 8 * n = N := ⟨_, rfl⟩
  have hN2 : N ≤ 16777216 := by omega
  have hw1 : IntKind.i64.wrap (N : Int) = (N : Int) := IntWalk.i64_in _ (by omega)
  have hw3 : 8 * (n : Int) = (N : Int) := by omega
  have hw4 : IntKind.u64.wrap (N : Int) = (N : Int) := by rw [IntKind.wrap_u64]; omega
  have HN := Lib.hid hN
  clear hN
  go_region_held3 (fun w' => w'.cell? ⟨P, 0, none⟩ = some (.slice (some ⟨g, 0, none⟩) n cap) ∧ (convert 48 9 (.slice (some ⟨w1.heap.size, 0, none⟩) 4 4)).run Try.prog w' = .ok (.string (bs [77, 66, 70, 49])) w')
    (first | exact K2.out _ (below_drewN (Below.refl _ _) 1) | exact K2.out _ ((below_drewN (Below.refl _ _) 1).trans hbp))
    ((go_at_call 64; refine (put_any (bs [77, 66, 70, 49]) N _ (by omega) (by decide)).mono ?_; rintro e w3 ⟨rfl, hbp⟩))
  have X3 : Hid (Flt w3 P g n cap H F) := Lib.hid (X2.out.below ((below_drewN (Below.refl _ _) 1).trans hbp))
  have B3 : Hid (Below w.heap.size w w3) := Lib.hid (B2.out.trans (((below_drewN (Below.refl _ _) 1).trans hbp).mono B2.out.size))
  clear hbp hw1 hw3 hw4 hall
  have K3 : Hid (∀ w', Below w3.heap.size w3 w' → w'.cell? ⟨P, 0, none⟩ = some (.slice (some ⟨g, 0, none⟩) n cap) ∧ w'.cell? ⟨P, 1, none⟩ = some (.int .i64 (H : Int)) ∧ (convert 48 9 (.slice (some ⟨g, 0, none⟩) n cap)).run Try.prog w' = .ok (.string (bs (listF F n))) w') := Lib.hid (fun w' hb =>
    ⟨(X3.out.below hb).blk.cell 0, (X3.out.below hb).blk.cell 1, buf_str (X3.out.below hb).buf⟩)
  obtain ⟨A, hA⟩ : ∃ A, bs [77, 66, 70, 49] ++ bs (putL N) = A := ⟨_, rfl⟩
  have hAs : A.size ≤ 14 := by
    have := (putN_length 9 N).2
    rw [← hA, ByteArray.size_append, bs_size, bs_size]; show 4 + _ ≤ 14; unfold putL; omega
  have hPs : (bs (putL H)).size ≤ 10 := by
    have := (putN_length 9 H).2
    rw [bs_size]; unfold putL; omega
  have hLs : (bs (listF F n)).size ≤ 2097152 := by rw [bs_size, listF_length]; exact hn
  have hcat : ¬ 9223372036854775807 < A.size + (bs (putL H)).size + (bs (listF F n)).size := by omega
  have hw4 : IntKind.u64.wrap (H : Int) = (H : Int) := by rw [IntKind.wrap_u64]; omega
  rw [hA]
  have HA := Lib.hid hA
  clear hA
  go_wp2
  go_region_held3 (fun w' => w'.cell? ⟨P, 0, none⟩ = some (.slice (some ⟨g, 0, none⟩) n cap) ∧ w'.cell? ⟨P, 1, none⟩ = some (.int .i64 (H : Int)) ∧ (convert 48 9 (.slice (some ⟨g, 0, none⟩) n cap)).run Try.prog w' = .ok (.string (bs (listF F n))) w')
    (first | exact K3.out _ (below_drewN (Below.refl _ _) 1) | exact K3.out _ ((below_drewN (Below.refl _ _) 1).trans hbp))
    ((go_at_call 64; refine (put_any A H _ (by omega) (by omega)).mono ?_; rintro e w4 ⟨rfl, hbp⟩))
  all_goals
    have B4 : Hid (Below w.heap.size w w4) := Lib.hid (B3.out.trans (((below_drewN (Below.refl _ _) 1).trans hbp).mono B3.out.size))
    have EB : Hid (encB n H F = A ++ bs (putL H) ++ bs (listF F n)) := Lib.hid (by unfold encB; rw [HN.out, HA.out])
    clear hbp
    go_wp2
    go_ret2
    exact ⟨by rw [EB.out]; rfl, B4.out⟩
end Go.Proofs.Ytbfmdingbgdflaa
