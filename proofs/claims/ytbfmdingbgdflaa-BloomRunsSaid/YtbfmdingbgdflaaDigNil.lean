/- Walks: digest's calls on nothing; Parse of no digits. No conditions. -/
import Derived.Test.YtbfmdingbgdflaaDig4
import Derived.Test.YtbfmdingbgdflaaHex2
namespace Go.Proofs.Ytbfmdingbgdflaa
open Go.RowKit Dig
set_option linter.unusedVariables false
attribute [local go_sem ↓] execOp_ld32 execOp_st32 execOp_ld16 execOp_st16
attribute [local go_sem] run_ld32 run_st32 run_ld16 run_st16
def zI : Nat → UInt8 := fun _ => 0
theorem zero_lit : (#[.int .u8 0, .int .u8 0, .int .u8 0, .int .u8 0, .int .u8 0, .int .u8 0, .int .u8 0, .int .u8 0, .int .u8 0, .int .u8 0, .int .u8 0, .int .u8 0, .int .u8 0, .int .u8 0, .int .u8 0, .int .u8 0, .int .u8 0, .int .u8 0, .int .u8 0, .int .u8 0, .int .u8 0, .int .u8 0, .int .u8 0, .int .u8 0, .int .u8 0, .int .u8 0, .int .u8 0, .int .u8 0, .int .u8 0, .int .u8 0, .int .u8 0, .int .u8 0] : Array Value) = idA zI := by kernel_rfl
theorem nilWrite_any (d : ByteArray) (w : World) : Calls Try.prog 18 #[.pointer none, .string d] w fun e w' => e = .returned (.int .i64 2) ∧ w = w' := by
  go_enter Try.func18, Try.ntmps18
  go_wp2
  go_ret
  exact ⟨rfl, rfl⟩
theorem nilWrote_any (w : World) : Calls Try.prog 21 #[.pointer none] w fun e w' => e = .returned (.int .u64 0) ∧ w = w' := by
  go_enter Try.func21, Try.ntmps21
  go_wp2
  go_ret
  exact ⟨rfl, rfl⟩
theorem zero_put {w w1 : World} (b : Below w.heap.size w w1) (r : w1.rowIs w.heap.size 28 32 (fun _ => .int .u8 0)) :
    ok32 w1 w.heap.size 0 = true ∧ (put32 w1 w.heap.size 0 (idA zI)).heap[w.heap.size]? = some (.cells (idA zI) 28 (0, 0)) ∧ Below w.heap.size w (put32 w1 w.heap.size 0 (idA zI)) :=
  ⟨ok32_of r (by omega), id_put zI r b (Nat.le_refl _)⟩
theorem zero_one (w : World) : (w.alloc zeroId).rowIs w.heap.size 28 32 (fun _ => .int .u8 0) ∧ Below w.heap.size w (w.alloc zeroId) :=
  ⟨zeros_row w (T := 28) (c := _) (n := 32) (z := .int .u8 0) (by rfl), (Below.refl _ _).alloc (Nat.le_refl _) _⟩
set_option maxRecDepth 100000 in
theorem nilSum_any (w : World) : Calls Try.prog 19 #[.pointer none] w fun e w' => e = .returned (.tuple #[.agg (idA zI), .int .i64 2]) ∧ Below w.heap.size w w' := by
  have Z := zero_one w
  obtain ⟨o1, HP⟩ := zero_put Z.2 Z.1
  have f1 := idA_full zI
  have H := Lib.hid HP
  clear Z HP
  unfold zeroId at o1
  rw [← zero_lit] at f1
  go_enter Try.func19, Try.ntmps19
  go_wp2
  refine bodyPost_ret (results_row_tmp (p := 2) (u := 3) rfl _ _ w.heap.size 28 (idA zI) (0, 0) rfl H.out.1 Try.underlying28 (by rw [idA_size]; kernel_rfl)) rfl ⟨?_, H.out.2⟩
  rfl
set_option maxRecDepth 100000 in
theorem unhexNone_any (w : World) : Calls Try.prog 74 #[.string { data := #[] }] w fun e w' => e = .returned (.tuple #[.string { data := #[] }, .int .i64 0]) ∧ Below w.heap.size w w' := by
  have ht : Try.prog.underlying 134 = some (.array 16 5) := by kernel_rfl
  have hall : ∀ N W, (Instr.sliceAt 134 (.pointer (some ⟨N, 0, none⟩)) none none none).run Try.prog W = .ok (.slice (some ⟨N, 0, none⟩) 16 16) W := fun N W => by
    obtain ⟨i, hi⟩ := Option.isSome_iff_exists.1 (show (Try.prog.info? 5).isSome = true by kernel_rfl)
    exact run_all_array (P := Try.prog) W (t := 134) (n := 16) ht hi _
  clear ht
  go_enter Try.func74, Try.ntmps74
  go_wp2_with fail
  refine (digits_any _).mono ?_; rintro e w1 ⟨rfl, hb⟩
  obtain ⟨h1, h2, h3, h4⟩ := dig_new w1
  have f1 := dgA_full digF
  have H1 := Lib.hid (And.intro h2 (And.intro h3 hb))
  clear h2 h3 h4 hb
  unfold z16 at h1
  go_upto_region 2 with fail
  change Code.wp _ _ _ _ (put16 (w1.alloc z16) w1.heap.size 0 (dgA digF))
  have R1 : Hid (Below w.heap.size w (put16 (w1.alloc z16) w1.heap.size 0 (dgA digF))) := Lib.hid (H1.out.2.2.trans (H1.out.2.1.mono H1.out.2.2.size))
  generalize put16 (w1.alloc z16) w1.heap.size 0 (dgA digF) = w2 at H1 R1 ⊢
  obtain ⟨D, hD⟩ : ∃ D, w1.heap.size = D := ⟨_, rfl⟩
  rw [hD] at H1 ⊢
  clear hD h1 f1
  have RC : Hid (∀ j, j < 16 → w2.cell? (({ block := D, off := 0 } : Addr).add j) = some (.int .u8 ((((List.range 16).map digF).getD j 0).toNat : Int))) := Lib.hid (fun j hj => by
    rw [add0, H1.out.1.cell hj]; simp [u8V, List.getD, hj])
  have L16 : Hid (((List.range 16).map digF).length = 16) := Lib.hid (by simp)
  have hmk : ∀ W, (Instr.makeSlice 48 (.int .i64 0) (.int .i64 0)).run Try.prog W = .ok (.slice (some ⟨W.heap.size, 0, none⟩) 0 0) (W.alloc (.cells (madeCells #[.int .u8 0] 0) 5)) := fun W => bytes_made W 0 (by omega)
  go_wp2_with (with_reducible refine conv_str_wp (e := 5) (by kernel_rfl) (by kernel_rfl) (by kernel_rfl) rfl _ rfl ⟨D, 0, none⟩ 16 16 rfl ((List.range 16).map digF) L16.out RC.out ?_)
  have B3 : Hid (Below w.heap.size w (w2.alloc (.cells (madeCells #[.int .u8 0] 0) 5))) := Lib.hid (R1.out.alloc R1.out.size _)
  generalize w2.alloc (.cells (madeCells #[.int .u8 0] 0) 5) = w3 at B3 ⊢
  obtain ⟨N, hN⟩ : ∃ N, w2.heap.size = N := ⟨_, rfl⟩
  rw [hN]
  go_loopw [7, 6] (fun i v wr => i = .int .i64 0 ∧ v = .slice (some ⟨N, 0, none⟩) 0 0 ∧ w3 = wr) (fun _ _ _ => 0)
  case atStart => exact ⟨rfl, rfl, rfl⟩
  case round =>
    obtain ⟨rfl, rfl, rfl⟩ := hrel
    go_wp2_with (with_reducible refine conv_str_wp (e := 5) (by kernel_rfl) (by kernel_rfl) (by kernel_rfl) rfl _ rfl ⟨N, 0, none⟩ 0 0 rfl [] rfl (fun j hj => absurd hj (by omega)) ?_)
    go_ret2
    exact ⟨rfl, B3.out⟩
set_option maxRecDepth 100000 in
theorem parseNone_any (w : World) : Calls Try.prog 37 #[.string { data := #[] }] w fun e w' => e = .returned (.tuple #[.agg (idA zI), .int .i64 4]) ∧ Below w.heap.size w w' := by
  have Z := zero_one w
  have hz : (w.alloc zeroId).heap.size = w.heap.size + 1 := by simp
  have f1 := idA_full zI
  have HZ := Lib.hid (And.intro Z hz)
  clear Z hz
  rw [← zero_lit] at f1
  go_enter Try.func37, Try.ntmps37
  go_wp2_with fail
  refine (unhexNone_any (w.alloc zeroId)).mono ?_; rintro e w1 ⟨rfl, hb⟩
  have R1 : w1.rowIs w.heap.size 28 32 (fun _ => .int .u8 0) := HZ.out.1.1.of_block (hb.block _ (by have := HZ.out.2; omega))
  have BB : Below w.heap.size w w1 := HZ.out.1.2.trans (hb.mono (by have := HZ.out.2; omega))
  obtain ⟨o1, HP⟩ := zero_put BB R1
  have H := Lib.hid HP
  clear R1 BB HP hb
  go_wp2
  refine bodyPost_ret (results_row_tmp (p := 2) (u := 3) rfl _ _ w.heap.size 28 (idA zI) (0, 0) rfl H.out.1 Try.underlying28 (by rw [idA_size]; kernel_rfl)) rfl ⟨?_, H.out.2⟩
  rfl
end Go.Proofs.Ytbfmdingbgdflaa
