/- The tables of utf8 out of what a row lists. Condition: the row's own listed variables. -/
import Derived.Test.YtpfccicahfncbaaDoorRows
import Derived.Test.YtpfccicahfncbaaDoorR04
import Derived.Lib.LaidU8
import Derived.PinnedBridge
import Derived.MakeChecks
namespace Go.Proofs.YtpfccicahfncbaaDoor
open Go.RowKit
theorem tabs_of {laid : List (String × DataW Unit)} {W : World} (hp : (laid.all fun x => x.2.handleName?.isNone) = true) (h : laidMetH Tryd.prog laid W) (h1 : ("unicode/utf8.first", Rows.laid_unicode_utf8_first) ∈ laid) (h2 : ("unicode/utf8.acceptRanges", (Rows.laid_unicode_utf8_acceptRanges : DataW Unit)) ∈ laid) : Tabs W := by
  rw [MakeChecks.laidMetH_plain _ _ _ hp] at h
  have r1 := Lib.laidMet.reads h h1
  have r2 := Lib.laidMet.reads h h2
  have e1 : Rows.laid_unicode_utf8_first = Lib.firstData := Pinned.utf8First_eq
  have e2 : (Rows.laid_unicode_utf8_acceptRanges : DataW Unit) = Lib.acceptData := by kernel_rfl
  rw [e1] at r1
  rw [e2] at r2
  exact utf8Tabs_of_reads Tryd.lays260 ⟨by kernel_rfl, by kernel_rfl, by kernel_rfl, by kernel_rfl, by kernel_rfl, by kernel_rfl, by kernel_rfl⟩ r1 r2
end Go.Proofs.YtpfccicahfncbaaDoor
