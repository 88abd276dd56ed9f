/- Walk: awake, of the laws of chapter 10. -/
import Derived.Test.YtpfccicahfncbaaDoorAttPut
namespace Go.Proofs.YtpfccicahfncbaaDoor
open Go.RowKit Wir
set_option linter.unusedVariables false
set_option linter.unusedSimpArgs false
def awkA : Att := ⟨1, 420, 1000, 100, 5, ⟨#[]⟩, []⟩
def awkB : ByteArray := ⟨#[1, 164, 3, 232, 7, 100, 5, 0]⟩
theorem awk_chk : chkA awkA = 0 := by
  refine chkA_ok ?_ ?_ rfl
  · decide +kernel
  · decide +kernel
theorem awk_put : putR awkA = awkB := by
  rw [putR, if_pos awk_chk]
  have h : (layA awkA).data.toList = awkB.data.toList := by decide +kernel
  exact ByteArray.ext (Array.ext' h)
theorem attAwake_any (w : World) : Calls Tryd.prog 13 #[] w fun e w' => e = .returned (.bool true) ∧ Below w.heap.size w w' := by
  have P := Lib.hid (fun W => attPut_any awkA none 0 0 W W.heap.size Reads.none_ (Nat.le_refl _) ⟨by decide, by decide⟩ (by omega) (by decide) (fun p hp => by cases hp))
  rw [awk_put, awk_chk] at P
  go_enter Tryd.func13, Tryd.ntmps13
  go_wp2_with fail
  change Calls _ _ #[.agg (attV awkA none 0 0)] _ _
  (with_reducible refine (P.out _).mono ?_)
  rintro e w1 ⟨rfl, hb1⟩
  have HB := Lib.hid hb1
  clear hb1 P
  unfold awkB
  go_wp2
  go_ret
  exact ⟨rfl, HB.out⟩
end Go.Proofs.YtpfccicahfncbaaDoor
