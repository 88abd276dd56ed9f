/- Walks: digest.Sum. No conditions. -/
import Derived.Test.YtfoandpcoakcjaaDig3
namespace Go.Proofs.Ytfoandpcoakcjaa
open Go.RowKit Dig
set_option linter.unusedVariables false
attribute [local go_sem ↓] execOp_ld32 execOp_st32
attribute [local go_sem] run_ld32 run_st32
theorem id_var {w w3 : World} (I : Nat → UInt8) (z : w3.rowIs w.heap.size 27 32 (fun _ => .int .u8 0)) (b : Below w.heap.size w w3) :
    (ok32 (w3.alloc zeroId) w3.heap.size 0 = true ∧ row32 (put32 (w3.alloc zeroId) w3.heap.size 0 (idA I)) w3.heap.size 0 = idA I ∧ ok32 (put32 (w3.alloc zeroId) w3.heap.size 0 (idA I)) w3.heap.size 0 = true ∧ ok32 (put32 (w3.alloc zeroId) w3.heap.size 0 (idA I)) w.heap.size 0 = true) ∧
      (put32 (put32 (w3.alloc zeroId) w3.heap.size 0 (idA I)) w.heap.size 0 (idA I)).heap[w.heap.size]? = some (.cells (idA I) 27 (0, 0)) ∧ Below w.heap.size w (put32 (put32 (w3.alloc zeroId) w3.heap.size 0 (idA I)) w.heap.size 0 (idA I)) := by
  have z1 : (w3.alloc zeroId).rowIs w3.heap.size 27 32 (fun _ => .int .u8 0) := zeros_row w3 (T := 27) (c := _) (n := 32) (z := .int .u8 0) (by rfl)
  obtain ⟨q1, q2⟩ := put32_row z1 0 (idA I) (by omega) (idA_full I)
  have q3 := q1.congr (g := u8V I) (fun i hi => by
    rw [if_pos (by omega), Nat.sub_zero, List.getD_eq_getElem?_getD, Array.getElem?_toList, idA_get I i hi]; rfl)
  have hlt := z.lt
  have z2 : (put32 (w3.alloc zeroId) w3.heap.size 0 (idA I)).rowIs w.heap.size 27 32 (fun _ => .int .u8 0) := (z.alloc _).of_block (q2.block _ (by simp; omega) (by simp; omega))
  have b2 : Below w.heap.size w (put32 (w3.alloc zeroId) w3.heap.size 0 (idA I)) := below_grown (b.alloc b.size _) q2 (fun g hg => by cases hg; omega)
  exact ⟨⟨ok32_of z1 (by omega), row32_id q3, ok32_of q3 (by omega), ok32_of z2 (by omega)⟩, id_put I z2 b2 (Nat.le_refl _)⟩
set_option maxRecDepth 100000 in
set_option maxHeartbeats 0 in
theorem digSum_any (s : ByteArray) (w : World) (hs : s.size ≤ 1152921504606846976) :
    Calls Try.prog 41 #[.string s] w fun e w' => e = .returned (.agg (idA (shaF (byteAt s) s.size))) ∧ Below w.heap.size w w' := by
  have Z0 : Hid ((w.alloc zeroId).rowIs w.heap.size 27 32 (fun _ => .int .u8 0) ∧ Below w.heap.size w (w.alloc zeroId) ∧ (w.alloc zeroId).heap.size = w.heap.size + 1) := Lib.hid ⟨zeros_row w (T := 27) (c := _) (n := 32) (z := .int .u8 0) (by rfl), (Below.refl _ _).alloc (Nat.le_refl _) _, by simp⟩
  have HS := Lib.hid hs
  clear hs
  go_enter Try.func41, Try.ntmps41
  go_wp2_with fail
  refine (newState_any (w.alloc zeroId)).mono ?_
  rintro e w1 ⟨p, hp, rfl, hst, hb⟩
  have Z1 : Hid (w1.rowIs w.heap.size 27 32 (fun _ => .int .u8 0) ∧ Below w.heap.size w w1 ∧ w.heap.size + 1 ≤ p ∧ St w1 p ByteArray.empty) := Lib.hid (by
    have := Z0.out.2.2
    exact ⟨Z0.out.1.of_block (hb.block _ (by omega)), Z0.out.2.1.trans (hb.mono (by omega)), by omega, hst⟩)
  clear hp hst hb
  go_wp2_with fail
  refine (write_any p ByteArray.empty s w1 Z1.out.2.2.2 (by have := HS.out; show 0 + s.size ≤ _; omega)).mono ?_
  rintro e w2 ⟨rfl, hst, hg⟩
  rw [show ByteArray.empty ++ s = s from ext_byteAt (by rw [ByteArray.size_append]; show 0 + _ = _; omega) (fun i hi => by rw [byteAt_app]; show (if i < 0 then _ else byteAt s (i - 0)) = _; rw [if_neg (by omega), Nat.sub_zero])] at hst
  have Z2 : Hid (w2.rowIs w.heap.size 27 32 (fun _ => .int .u8 0) ∧ Below w.heap.size w w2 ∧ St w2 p s) := Lib.hid ⟨Z1.out.1.of_block (hg.block _ Z1.out.1.lt (by have := Z1.out.2.2.1; simp; omega)), below_grown Z1.out.2.1 hg (fun g hg => by cases hg; have := Z1.out.2.2.1; omega), hst⟩
  clear hst hg
  go_wp2_with fail
  refine (stateSum_any p s w2 Z2.out.2.2 HS.out).mono ?_
  rintro e w3 ⟨rfl, hb⟩
  obtain ⟨⟨o1, o2, o3, o4⟩, HV⟩ := id_var (w := w) (w3 := w3) (shaF (byteAt s) s.size) (Z2.out.1.of_block (hb.block _ Z2.out.1.lt)) (Z2.out.2.1.trans (hb.mono Z2.out.2.1.size))
  have f1 := idA_full (shaF (byteAt s) s.size)
  have HVH := Lib.hid HV
  clear hb HV
  unfold zeroId at o1 o2 o3 o4
  go_wp2
  exact bodyPost_ret (v := .agg (idA (shaF (byteAt s) s.size))) (results_cell_row rfl _ _ w.heap.size 27 _ (0, 0) _ rfl HVH.out.1 Try.underlying27 rfl (by rw [idA_size]; kernel_rfl)) rfl ⟨rfl, HVH.out.2⟩
end Go.Proofs.Ytfoandpcoakcjaa
