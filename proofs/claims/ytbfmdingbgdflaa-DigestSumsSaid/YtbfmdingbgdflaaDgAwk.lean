/- Walk: the law's awake. No conditions. -/
import Derived.Test.YtbfmdingbgdflaaDig4
import Derived.Test.YtbfmdingbgdflaaHex2
namespace Go.Proofs.Ytbfmdingbgdflaa
open Go.RowKit Dig
set_option linter.unusedVariables false
theorem text_of {I : Nat → UInt8} {l : List UInt8} (h : (List.range 32).map I = l) : textL I = hexL l := by unfold textL; rw [h]
theorem abc_text : bs (textL (shaF (byteAt { data := #[97, 98, 99] }) 3)) = { data := #[98, 97, 55, 56, 49, 54, 98, 102, 56, 102, 48, 49, 99, 102, 101, 97, 52, 49, 52, 49, 52, 48, 100, 101, 53, 100, 97, 101, 50, 50, 50, 51, 98, 48, 48, 51, 54, 49, 97, 51, 57, 54, 49, 55, 55, 97, 57, 99, 98, 52, 49, 48, 102, 102, 54, 49, 102, 50, 48, 48, 49, 53, 97, 100] } := by
  have e : shaF (byteAt { data := #[97, 98, 99] }) 3 = shaF abcF 3 := shaF_congr fun j hj => by
    have : j = 0 ∨ j = 1 ∨ j = 2 := by omega
    rcases this with rfl | rfl | rfl <;> rfl
  rw [e, text_of sha_abc]
  rfl
theorem none_text : bs (textL (shaF (byteAt { data := #[] }) 0)) = { data := #[101, 51, 98, 48, 99, 52, 52, 50, 57, 56, 102, 99, 49, 99, 49, 52, 57, 97, 102, 98, 102, 52, 99, 56, 57, 57, 54, 102, 98, 57, 50, 52, 50, 55, 97, 101, 52, 49, 101, 52, 54, 52, 57, 98, 57, 51, 52, 99, 97, 52, 57, 53, 57, 57, 49, 98, 55, 56, 53, 50, 98, 56, 53, 53] } := by
  rw [text_of (sha_none _)]
  rfl
set_option maxRecDepth 100000 in
theorem dawake_any (w : World) : Calls Try.prog 23 #[] w fun e w' => e = .returned (.bool true) ∧ Below w.heap.size w w' := by
  go_enter Try.func23, Try.ntmps23
  go_wp2_with fail
  refine (digSum_any _ _ (by decide)).mono ?_; rintro e w1 ⟨rfl, hb1⟩
  have B1 := Lib.hid hb1
  clear hb1
  go_wp2_with fail
  refine (text_any _ _).mono ?_; rintro e w2 ⟨rfl, hb2⟩
  have B2 := Lib.hid (B1.out.trans (hb2.mono B1.out.size))
  clear hb2
  have E := abc_text
  rw [E]
  go_wp2
  go_ret
  exact ⟨rfl, B2.out⟩
end Go.Proofs.Ytbfmdingbgdflaa
