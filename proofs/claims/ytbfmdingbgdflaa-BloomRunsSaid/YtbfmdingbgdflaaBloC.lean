/- Walks: the filter's Has and Add. -/
import Derived.Test.YtbfmdingbgdflaaBloB
namespace Go.Proofs.Ytbfmdingbgdflaa
open Go.RowKit Blo
set_option linter.unusedVariables false
attribute [local go_sem ↓] execOp_ld32 execOp_st32
attribute [local go_sem] run_ld32 run_st32
/-- The world of Has and Add, where the two parameters are laid. -/
def boxed (w : World) (P : Nat) (I : Nat → UInt8) : World := (w.alloc (.cells #[.pointer (some ⟨P, 0, none⟩)] 24)).alloc (.cells (idA I) 28)
theorem boxed_size (w : World) (P : Nat) (I : Nat → UInt8) : (boxed w P I).heap.size = w.heap.size + 2 := by simp [boxed]
theorem boxed_below (w : World) (P : Nat) (I : Nat → UInt8) : Below w.heap.size w (boxed w P I) := ((Below.refl _ _).alloc (Nat.le_refl _) _).alloc (by simp) _
theorem boxed_f (w : World) (P : Nat) (I : Nat → UInt8) : (boxed w P I).cell? ⟨w.heap.size, 0, none⟩ = some (.pointer (some ⟨P, 0, none⟩)) := by
  have h := ((Blk.new w 24 #[.pointer (some ⟨P, 0, none⟩)]).alloc (.cells (idA I) 28)).cell 0
  exact h
theorem boxed_id (w : World) (P : Nat) (I : Nat → UInt8) : (boxed w P I).rowIs (w.heap.size + 1) 28 32 (u8V I) := by
  have h := id_row (w.alloc (.cells #[.pointer (some ⟨P, 0, none⟩)] 24)) I 28
  rw [show (w.alloc (.cells #[.pointer (some ⟨P, 0, none⟩)] 24)).heap.size = w.heap.size + 1 from by simp] at h
  exact h
set_option maxRecDepth 100000 in
theorem has_any (w : World) (P g n cap H m : Nat) (F I : Nat → UInt8) (h : Flt w P g n cap H F) (hn : 8 * n = 2 ^ m) (hm : m ≤ 24) (hH : H ≤ 8) :
    Calls Try.prog 15 #[.pointer (some ⟨P, 0, none⟩), .agg (idA I)] w fun e w' => e = .returned (.bool (hasF F I n H)) ∧ Below w.heap.size w w' := by
  have X := Lib.hid h
  have HN := Lib.hid hn
  have hg := h.buf.lt
  have hc1 : (boxed w P I).cell? ⟨w.heap.size, 0, none⟩ = some (.pointer (some ⟨P, 0, none⟩)) := boxed_f w P I
  have ho : ok32 (boxed w P I) (w.heap.size + 1) 0 = true := ok32_of (boxed_id w P I) (by omega)
  have hr : row32 (boxed w P I) (w.heap.size + 1) 0 = idA I := row32_id (boxed_id w P I)
  have hmf : ∀ (fn : Fn) (first cap : Array Value) (w : World), (Instr.makeFunc fn first cap).run Try.prog w = .ok (.func fn first cap) w := fun _ _ _ _ => rfl
  clear h hn
  unfold boxed at hc1 ho hr
  go_enter Try.func15, Try.ntmps15
  go_wp2_with fail
  clear hc1 ho hr
  refine (placesHas_any (boxed w P I) w.heap.size P g n cap H m F I (boxed_f w P I) (by omega) (X.out.below (boxed_below w P I)) HN.out hm hH).mono ?_
  rintro e w2 ⟨rfl, hb2⟩
  have HB := Lib.hid ((boxed_below w P I).trans (hb2.mono (by rw [boxed_size]; omega)))
  clear hb2
  go_wp2
  go_ret
  exact ⟨rfl, HB.out⟩
set_option maxRecDepth 100000 in
theorem add_any (w : World) (P g n cap H m : Nat) (F I : Nat → UInt8) (h : Flt w P g n cap H F) (hn : 8 * n = 2 ^ m) (hm : m ≤ 24) (hH : H ≤ 8) :
    Calls Try.prog 28 #[.pointer (some ⟨P, 0, none⟩), .agg (idA I)] w fun e w' => e = .returned (.int .i64 0) ∧ Flt w' P g n cap H (addF F I n H) ∧ w.grownBy w' (some g) := by
  have X := Lib.hid h
  have HN := Lib.hid hn
  have hg := h.buf.lt
  have hc1 : (boxed w P I).cell? ⟨w.heap.size, 0, none⟩ = some (.pointer (some ⟨P, 0, none⟩)) := boxed_f w P I
  have ho : ok32 (boxed w P I) (w.heap.size + 1) 0 = true := ok32_of (boxed_id w P I) (by omega)
  have hr : row32 (boxed w P I) (w.heap.size + 1) 0 = idA I := row32_id (boxed_id w P I)
  have hmf : ∀ (fn : Fn) (first cap : Array Value) (w : World), (Instr.makeFunc fn first cap).run Try.prog w = .ok (.func fn first cap) w := fun _ _ _ _ => rfl
  clear h hn
  unfold boxed at hc1 ho hr
  go_enter Try.func28, Try.ntmps28
  go_wp2_with fail
  clear hc1 ho hr
  refine (placesAdd_any (boxed w P I) w.heap.size P g n cap H m F I (boxed_f w P I) (by omega) (X.out.below (boxed_below w P I)) HN.out hm hH).mono ?_
  rintro e w2 ⟨rfl, hf2, hg2⟩
  have HB := Lib.hid (And.intro hf2 (grown_both (only_of_below (boxed_below w P I) (some g)) hg2))
  clear hf2 hg2
  go_wp2
  go_ret
  exact ⟨rfl, HB.out.1, HB.out.2⟩
end Go.Proofs.Ytbfmdingbgdflaa
