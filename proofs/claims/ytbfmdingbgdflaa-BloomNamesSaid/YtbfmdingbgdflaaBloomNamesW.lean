/- Walk: the law BloomNames (closed). No conditions. -/
import Derived.Test.YtbfmdingbgdflaaBloNil
import Derived.Test.YtbfmdingbgdflaaBloE
import Derived.Test.YtbfmdingbgdflaaBloF
import Derived.Test.YtbfmdingbgdflaaId
namespace Go.Proofs.Ytbfmdingbgdflaa
open Go.RowKit Blo Wir
set_option linter.unusedVariables false
def nmA : ByteArray := { data := #[0, 0, 0, 5] }
def nmS : ByteArray := { data := #[77, 66, 70, 49, 64, 1, 32, 0, 0, 0, 0, 0, 0, 0] }
theorem nm_enc : encB 8 1 (addF (fun _ => 0) (byteAt nmA) 8 1) = nmS := by
  have h : (encB 8 1 (addF (fun _ => 0) (byteAt nmA) 8 1)).data.toList = nmS.data.toList := by decide +kernel
  apply ByteArray.ext
  apply Array.ext'
  exact h
theorem nm_fit : fitN 6 = 64 ∧ fitN 7 = 128 ∧ fitN 1048576 = 16777216 := by decide +kernel
set_option maxRecDepth 100000 in
set_option maxHeartbeats 0 in
theorem bloomNames_walk (w : World) : Calls Try.prog 12 #[] w fun e w' => e = .returned (.bool true) ∧ Below w.heap.size w w' := by
  have E1 := Lib.hid nm_enc
  have E2 := Lib.hid nm_fit
  have ZZ : Hid (szB ((8 * 8 : Nat) : Int) (1 : Nat) = true) := Lib.hid (by decide)
  go_enter Try.func12, Try.ntmps12
  go_wp2_with fail
  refine (encNil_any _).mono ?_; rintro e w1 ⟨rfl, rfl⟩
  go_wp2_with fail
  refine (new_any 8 1 _ (by omega) (by omega) ZZ.out).mono ?_
  rintro e w2 ⟨rfl, hf, hb⟩
  have H2 := Lib.hid (And.intro hf hb)
  clear hf hb
  go_wp2_with fail
  refine (sizeNil_any _).mono ?_; rintro e w1 ⟨rfl, rfl⟩
  go_wp2_with fail
  refine (fit_any 6 _ (by omega)).mono ?_; rintro e w1 ⟨rfl, rfl⟩
  rw [E2.out.1]
  go_wp2_with fail
  refine (fit_any 7 _ (by omega)).mono ?_; rintro e w1 ⟨rfl, rfl⟩
  rw [E2.out.2.1]
  go_wp2_with fail
  refine (fit_any 1048576 _ (by omega)).mono ?_; rintro e w1 ⟨rfl, rfl⟩
  rw [E2.out.2.2]
  go_wp2_with fail
  refine (id_any nmA _ (by decide)).mono ?_
  rintro e w3 ⟨rfl, hb3⟩
  have H3 := Lib.hid (And.intro (H2.out.1.below hb3) (H2.out.2.trans (hb3.mono H2.out.2.size)))
  clear hb3
  go_wp2_with fail
  refine (add_any w3 _ _ 8 8 1 6 _ _ H3.out.1 (by decide) (by omega) (by omega)).mono ?_
  rintro e w4 ⟨rfl, hf4, hg4⟩
  have H4 : Hid (Flt w4 (w.heap.size + 1) w.heap.size 8 8 1 (addF (fun _ => 0) (byteAt nmA) 8 1) ∧ Below w.heap.size w w4) := Lib.hid ⟨hf4, below_grown H3.out.2 hg4 (by intro g' e; injection e with e; omega)⟩
  clear hf4 hg4
  go_wp2_with fail
  refine (encode_any w4 _ _ 8 8 1 _ H4.out.1 (by omega) (by omega)).mono ?_
  rintro e w5 ⟨rfl, hb5⟩
  rw [E1.out]
  have H5 := Lib.hid (H4.out.2.trans (hb5.mono H4.out.2.size))
  clear hb5
  unfold nmS
  go_wp2_with fail
  rw [zero_lit]
  refine (addNil_any zI _).mono ?_; rintro e w6 ⟨rfl, hb6⟩
  have H6 := Lib.hid (H5.out.trans (hb6.mono H5.out.size))
  clear hb6
  go_wp2_with fail
  refine (joinNil1_any _ _).mono ?_; rintro e w1 ⟨rfl, rfl⟩
  go_wp2_with fail
  refine (joinNil2_any _ _).mono ?_; rintro e w1 ⟨rfl, rfl⟩
  go_wp2_with fail
  rw [zero_lit]
  refine (hasNil_any zI _).mono ?_; rintro e w7 ⟨rfl, hb7⟩
  have H7 := Lib.hid (H6.out.trans (hb7.mono H6.out.size))
  clear hb7
  go_wp2_with fail
  refine (onesNil_any _).mono ?_; rintro e w1 ⟨rfl, rfl⟩
  go_wp2_with fail
  refine (checkX_any _ _).mono ?_; rintro e w1 ⟨rfl, rfl⟩
  go_wp2
  go_ret
  exact ⟨rfl, H7.out⟩
end Go.Proofs.Ytbfmdingbgdflaa
