/- Walk: the reference's Quick. No conditions. -/
import Derived.Test.YtbfmdingbgdflaaRefS
import Derived.Test.YtbfmdingbgdflaaRefK
import Derived.Test.YtbfmdingbgdflaaDig4
namespace Go.Proofs.Ytbfmdingbgdflaa
open Go.RowKit Dig
set_option linter.unusedVariables false
set_option linter.unusedSimpArgs false
attribute [local go_sem ↓] execOp_ld8 execOp_st8 execOp_ld32 execOp_st32
attribute [local go_sem] run_ld8 run_st8 run_ld32 run_st32
def zero8 : Obj := .cells #[.int .u32 0, .int .u32 0, .int .u32 0, .int .u32 0, .int .u32 0, .int .u32 0, .int .u32 0, .int .u32 0] 89
theorem quick_start (w : World) : ok8 ((w.alloc zeroId).alloc zero8) (w.heap.size + 1) 0 = true ∧ (put8 ((w.alloc zeroId).alloc zero8) (w.heap.size + 1) 0 (uA 8 firstF)).rowIs (w.heap.size + 1) 89 8 (uV firstF) ∧
    (put8 ((w.alloc zeroId).alloc zero8) (w.heap.size + 1) 0 (uA 8 firstF)).rowIs w.heap.size 28 32 (fun _ => .int .u8 0) ∧ Below w.heap.size w (put8 ((w.alloc zeroId).alloc zero8) (w.heap.size + 1) 0 (uA 8 firstF)) := by
  have z0 := zeros_row w (T := 28) (c := _) (n := 32) (z := .int .u8 0) (by rfl)
  have z1 := zeros_row (w.alloc zeroId) (T := 89) (n := 8) (z := .int .u32 0) (c := #[.int .u32 0, .int .u32 0, .int .u32 0, .int .u32 0, .int .u32 0, .int .u32 0, .int .u32 0, .int .u32 0]) rfl
  rw [← size1] at z1
  obtain ⟨q1, q2⟩ := put8_row z1 0 (uA 8 firstF) (by omega) (u8_full firstF)
  have z0' : ((w.alloc zeroId).alloc zero8).rowIs w.heap.size 28 32 (fun _ => .int .u8 0) := World.rowIs.alloc z0 _
  refine ⟨ok8_of z1 (by omega), q1.congr (g := uV firstF) (fun i hi => by
    rw [if_pos (by omega)]
    simp [uA, uV, hi]), z0'.of_block (q2.block _ z0'.lt (by simp)), below_grown (((Below.refl _ _).alloc (Nat.le_refl _) _).alloc (by simp) _) q2 (fun g hg => by cases hg; omega)⟩
theorem rconstants_v {A : Array Value} (hA : uA 64 kF = A) (w : World) : Calls Try.prog 61 #[] w fun e w' => e = .returned (.agg A) ∧ Below w.heap.size w w' := by
  rw [← hA]; exact rconstants_any w
theorem refSum_v {A B : Array Value} {I : Nat → UInt8} (hA : uA 8 firstF = A) (hB : uA 64 kF = B) (s : ByteArray) (hI : shaF (byteAt s) s.size = I) (w : World) (hs : s.size ≤ 16777216) :
    Calls Try.prog 60 #[.string s, .agg A, .agg B] w fun e w' => e = .returned (.agg (idA I)) ∧ Below w.heap.size w w' := by
  rw [← hA, ← hB, ← hI]; exact refSum_any s w hs
set_option maxRecDepth 100000 in
set_option maxHeartbeats 0 in
theorem quick_any (s : ByteArray) (w : World) (hs : s.size ≤ 16777216) :
    Calls Try.prog 20 #[.string s] w fun e w' => e = .returned (.agg (idA (shaF (byteAt s) s.size))) ∧ Below w.heap.size w w' := by
  obtain ⟨h1, h2⟩ := quick_start w
  have f8 := u8_full firstF
  have H := Lib.hid h2
  clear h2
  rw [← first_lit] at f8
  unfold zeroId zero8 at h1
  go_enter Try.func20, Try.ntmps20
  go_upto_region 2 with fail
  rw [first_lit]
  change Code.wp _ _ _ _ (put8 ((w.alloc zeroId).alloc zero8) (w.heap.size + 1) 0 (uA 8 firstF))
  generalize put8 ((w.alloc zeroId).alloc zero8) (w.heap.size + 1) 0 (uA 8 firstF) = w2 at H ⊢
  clear h1 f8
  have K2 : Hid (∀ w', Below w2.heap.size w2 w' → (ok8 w' (w.heap.size + 1) 0 = true ∧ row8 w' (w.heap.size + 1) 0 = uA 8 firstF) ∧ ok32 w' w.heap.size 0 = true ∧ ∀ I, (ok8 (put32 w' w.heap.size 0 (idA I)) (w.heap.size + 1) 0 = true ∧ row8 (put32 w' w.heap.size 0 (idA I)) (w.heap.size + 1) 0 = uA 8 firstF)) := Lib.hid (fun w' hb => by
    have r1 : w'.rowIs (w.heap.size + 1) 89 8 (uV firstF) := H.out.1.of_block (hb.block _ H.out.1.lt)
    have r2 : w'.rowIs w.heap.size 28 32 (fun _ => .int .u8 0) := H.out.2.1.of_block (hb.block _ H.out.2.1.lt)
    refine ⟨⟨ok8_of r1 (by omega), row8_u r1⟩, ok32_of r2 (by omega), fun I => ?_⟩
    obtain ⟨q1, q2⟩ := put32_row r2 0 (idA I) (by omega) (idA_full I)
    have r3 := r1.of_block (q2.block _ r1.lt (by simp))
    exact ⟨ok8_of r3 (by omega), row8_u r3⟩)
  obtain ⟨A8, hA8⟩ : ∃ A, uA 8 firstF = A := ⟨_, rfl⟩
  obtain ⟨A64, hA64⟩ : ∃ A, uA 64 kF = A := ⟨_, rfl⟩
  rw [hA8] at K2 ⊢
  have H8 := Lib.hid hA8
  have H64 := Lib.hid hA64
  clear hA8 hA64
  obtain ⟨I, hI⟩ : ∃ I, shaF (byteAt s) s.size = I := ⟨_, rfl⟩
  have HI := Lib.hid hI
  clear hI
  have SA := (K2.out w2.drew ((Below.refl _ _).drew)).1
  refine wp_region_held_drew (S := fun w' => ok8 w' (w.heap.size + 1) 0 = true ∧ row8 w' (w.heap.size + 1) 0 = A8) (by kernel_rfl) (by first | exact SD | exact SC | exact SB | exact SA) (fun hHeld => ?_)
  refine wpAnyH_take (i := 0) (oi := _) (v := _) rfl (by kernel_rfl) (by kernel_rfl) (by kernel_rfl) (fun _ _ _ h => h) (Or.inl ⟨by rfl, by (intro w hSw; (try dsimp only at hSw); go_simp; first | done | with_reducible rfl)⟩) (by assumption) ?_
  (try simp only [Act.put, List.setIfInBounds_toArray, List.set_cons_zero, List.set_cons_succ])
  refine wpAnyH_take (i := 1) (oi := { dst := some 6, op := .load 89 (.tmp 3), type := 89, pos := "ref.go:144", after := #[], guard := none }) (v := _) rfl (by kernel_rfl) (by kernel_rfl) (by kernel_rfl) (fun _ _ _ h => h) (Or.inl ⟨by rfl, by (intro w hSw; (try dsimp only at hSw); go_simp; first | done | with_reducible rfl)⟩) (by assumption) ?_
  (try simp only [Act.put, List.setIfInBounds_toArray, List.set_cons_zero, List.set_cons_succ])
  refine wpAnyH_ready (rs := [2]) (by kernel_rfl) (by simp) (AllReadyH.cons rfl (fun K hK => ?_) AllReadyH.nil)
  try simp only [List.getElem_toArray, List.getElem_cons_succ, List.getElem_cons_zero]
  go_simp
  go_at_call 61
  refine (rconstants_v H64.out _).mono ?_
  rintro e w3 ⟨rfl, hb3⟩
  have SB := (K2.out w3 (((Below.refl _ _).drew).trans hb3)).1
  have HB3 := Lib.hid (((Below.refl w2.heap.size w2).drew).trans hb3)
  clear hb3
  go_simp
  refine hK.out _ _ (by first | exact SD | exact SC | exact SB | exact SA) (fun hHeld => ?_)
  clear hK K
  (try simp only [Act.put, List.setIfInBounds_toArray, List.set_cons_zero, List.set_cons_succ])
  refine wpAnyH_ready (rs := [3]) (by kernel_rfl) (by simp) (AllReadyH.cons rfl (fun K hK => ?_) AllReadyH.nil)
  try simp only [List.getElem_toArray, List.getElem_cons_succ, List.getElem_cons_zero]
  go_simp
  go_at_call 60
  refine (refSum_v H8.out H64.out s HI.out _ hs).mono ?_
  rintro e w4 ⟨rfl, hb4⟩
  have HB4 := Lib.hid (HB3.out.trans (hb4.mono HB3.out.size))
  have SC := (K2.out w4 HB4.out).1
  have SD := (K2.out w4 HB4.out).2.2 I
  have o4 := (K2.out w4 HB4.out).2.1
  have f4 := idA_full I
  clear hb4
  go_simp
  refine hK.out _ _ (by first | exact SD | exact SC | exact SB | exact SA) (fun hHeld => ?_)
  clear hK K
  (try simp only [Act.put, List.setIfInBounds_toArray, List.set_cons_zero, List.set_cons_succ])
  refine wpAnyH_ready (rs := [4]) (by kernel_rfl) (by simp) (AllReadyH.cons rfl (fun K hK => ?_) AllReadyH.nil)
  try simp only [List.getElem_toArray, List.getElem_cons_succ, List.getElem_cons_zero]
  go_simp
  refine hK.out _ _ (by first | exact SD | exact SC | exact SB | exact SA) (fun hHeld => ?_)
  clear hK K
  (try simp only [Act.put, List.setIfInBounds_toArray, List.set_cons_zero, List.set_cons_succ])
  refine wpAnyH_done (by kernel_rfl) ?_ _
  have HP := Lib.hid (id_put (w := w) (g := w.heap.size) I (H.out.2.1.of_block (HB4.out.block _ H.out.2.1.lt) : w4.rowIs w.heap.size 28 32 (fun _ => .int .u8 0)) (H.out.2.2.trans (HB4.out.mono H.out.2.2.size)) (Nat.le_refl _))
  clear SA SB SC SD o4 f4
  go_wp2
  exact bodyPost_ret (v := .agg (idA (I))) (results_cell_row rfl _ _ w.heap.size 28 _ (0, 0) _ rfl HP.out.1 Try.underlying28 rfl (by rw [idA_size]; kernel_rfl)) rfl ⟨by rw [HI.out], HP.out.2⟩
end Go.Proofs.Ytbfmdingbgdflaa
