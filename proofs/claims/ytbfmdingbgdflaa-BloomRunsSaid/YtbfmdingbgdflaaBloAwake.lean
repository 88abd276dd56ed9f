/- Walk: awake, of the filters' laws, returns true. -/
import Derived.Test.YtbfmdingbgdflaaBloE
namespace Go.Proofs.Ytbfmdingbgdflaa
open Go.RowKit Blo
set_option linter.unusedVariables false
def lA : ByteArray := ⟨#[0, 0, 0, 5, 0, 0, 0, 7]⟩
def lB : ByteArray := ⟨#[0, 0, 0, 69, 0, 0, 0, 7]⟩
def lC : ByteArray := ⟨#[0, 0, 0, 5, 0, 0, 0, 6]⟩
theorem aw_has : hasF (addF (fun _ => 0) (byteAt lA) 8 2) (byteAt lB) 8 2 = true := by decide +kernel
theorem aw_not : hasF (addF (fun _ => 0) (byteAt lA) 8 2) (byteAt lC) 8 2 = false := by decide +kernel
theorem aw_ones : onesF (addF (fun _ => 0) (byteAt lA) 8 2) 8 = 2 := by decide +kernel
set_option maxRecDepth 100000 in
theorem bawake_any (w : World) : Calls Try.prog 13 #[] w fun e w' => e = .returned (.bool true) ∧ Below w.heap.size w w' := by
  have E1 := Lib.hid aw_has
  have E2 := Lib.hid aw_not
  have E3 := Lib.hid aw_ones
  have ZZ : Hid (szB ((8 * 8 : Nat) : Int) (2 : Nat) = true) := Lib.hid (by decide)
  go_enter Try.func13, Try.ntmps13
  go_wp2_with fail
  refine (new_any 8 2 _ (by omega) (by omega) ZZ.out).mono ?_
  rintro e w2 ⟨rfl, hf, hb⟩
  have H2 := Lib.hid (And.intro hf hb)
  clear hf hb
  go_wp2_with fail
  refine (id_any lA _ (by decide)).mono ?_
  rintro e w3 ⟨rfl, hb3⟩
  have H3 := Lib.hid (And.intro (H2.out.1.below hb3) (H2.out.2.trans (hb3.mono H2.out.2.size)))
  clear hb3
  go_wp2_with fail
  refine (add_any w3 _ _ 8 8 2 6 _ _ H3.out.1 (by decide) (by omega) (by omega)).mono ?_
  rintro e w4 ⟨rfl, hf4, hg4⟩
  have H4 : Hid (Flt w4 (w.heap.size + 1) w.heap.size 8 8 2 (addF (fun _ => 0) (byteAt lA) 8 2) ∧ Below w.heap.size w w4) := Lib.hid ⟨hf4, below_grown H3.out.2 hg4 (by intro g' e; injection e with e; omega)⟩
  clear hf4 hg4
  go_wp2_with fail
  refine (id_any lB _ (by decide)).mono ?_
  rintro e w5 ⟨rfl, hb5⟩
  have H5 := Lib.hid (And.intro (H4.out.1.below hb5) (H4.out.2.trans (hb5.mono H4.out.2.size)))
  clear hb5
  go_wp2_with fail
  refine (has_any w5 _ _ 8 8 2 6 _ _ H5.out.1 (by decide) (by omega) (by omega)).mono ?_
  rintro e w6 ⟨rfl, hb6⟩
  rw [E1.out]
  have H6 := Lib.hid (And.intro (H5.out.1.below hb6) (H5.out.2.trans (hb6.mono H5.out.2.size)))
  clear hb6
  go_wp2_with fail
  refine (id_any lC _ (by decide)).mono ?_
  rintro e w7 ⟨rfl, hb7⟩
  have H7 := Lib.hid (And.intro (H6.out.1.below hb7) (H6.out.2.trans (hb7.mono H6.out.2.size)))
  clear hb7
  go_wp2_with fail
  refine (has_any w7 _ _ 8 8 2 6 _ _ H7.out.1 (by decide) (by omega) (by omega)).mono ?_
  rintro e w8 ⟨rfl, hb8⟩
  rw [E2.out]
  have H8 := Lib.hid (And.intro (H7.out.1.below hb8) (H7.out.2.trans (hb8.mono H7.out.2.size)))
  clear hb8
  go_wp2_with fail
  refine (ones_any w8 _ _ 8 8 2 _ H8.out.1 (by omega)).mono ?_
  rintro e w9 ⟨rfl, rfl⟩
  rw [E3.out]
  go_wp2
  go_ret
  exact ⟨rfl, H8.out.2⟩
end Go.Proofs.Ytbfmdingbgdflaa
