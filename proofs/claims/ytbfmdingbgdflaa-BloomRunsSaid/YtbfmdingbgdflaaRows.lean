/-
  No cell of these rows narrows 'for every input' (looked for: loops, veiled, ifaces, maps, wideKeys, modest, calm, conditions, laid).
  DERIVED. THE GIVEN ROWS OF THIS SEAT. 10 by the template 'for every input the law returns true; each argument reads behind the call as it read before'; 0 by the template 'total and deterministic' (their statements: YtbfmdingbgdflaaTotals.lean).
  GIVEN WITH THE SEED: the statements are not yours to turn. If you find one false, say at which input.
  Laid BY PROGRAM, IN A SANDBOX (cutbox-rows.mjs): the forced cells as the released guide's own fill.sh prints them over the translation 6fcd8ba0d7ceea79… (all of the seat's roots in one cut). By AI agents, Wed Nov 11 2026. No macro, syntax, notation, axiom, sorry.
-/
import Derived.Test.YtbfmdingbgdflaaChecked
import GoSem.Claim
import GoSem.ClaimJoined
import GoSem.ClaimMapViews
import Derived.JoinedTies
import Derived.KernelRfl
namespace Go.Proofs.Ytbfmdingbgdflaa
/- THE CELL 'sum', in the pinned program and in every row, IS THE sha256 OF THE DUMP (.gsa) THAT YtbfmdingbgdflaaProg.lean LOADS. Nothing in Lean hashes anything: it is a label: what it is worth is what the hold of that sum in a sandbox is worth. -/
noncomputable def Try.pinned : Pinned := { name := "ytbfmdingbgdflaa", sum := "6fcd8ba0d7ceea79ebc067adc8b76367781c84d300c3ea1d5b7269cfb8875e72", checked := Try.checked }
namespace Rows
def none {H : Type} : Left H := { results := [], args := [] }

/-- 'munimentlaw14.BloomFiner': WHATEVER THE INPUT: true; the input reads as it did. -/
def bloomFinerSpec : ChangeSpec := { name := "bloomFiner", fn := fun _ => fun
  | [d1, d2, d3, d4, d5] => { results := [.lit (.bool true)], args := [d1, d2, d3, d4, d5] }
  | _ => none }
def bloomFinerRow : OpenClaim := { program := "ytbfmdingbgdflaa", sum := "6fcd8ba0d7ceea79ebc067adc8b76367781c84d300c3ea1d5b7269cfb8875e72", func := "muniment/munimentlaw14.BloomFiner", spec := "bloomFiner", unfollowed := true, recurses := true, apart := false }
def BloomFinerSaid : Prop := bloomFinerRow.holds Try.pinned (OpenSpec.ofChange bloomFinerSpec)

/-- ITS FALSE NEIGHBOUR: 'it returns false'. Refute it at one input. -/
def bloomFinerWrong : ChangeSpec := { name := "bloomFiner", fn := fun _ => fun
  | [d1, d2, d3, d4, d5] => { results := [.lit (.bool false)], args := [d1, d2, d3, d4, d5] }
  | _ => none }
def BloomFinerWrongFalsely : Prop := bloomFinerRow.holds Try.pinned (OpenSpec.ofChange bloomFinerWrong)

/-- 'munimentlaw02.DigestPieces': WHATEVER THE INPUT: true; the input reads as it did. -/
def digestPiecesSpec : ChangeSpec := { name := "digestPieces", fn := fun _ => fun
  | [d] => { results := [.lit (.bool true)], args := [d] }
  | _ => none }
def digestPiecesRow : OpenClaim := { program := "ytbfmdingbgdflaa", sum := "6fcd8ba0d7ceea79ebc067adc8b76367781c84d300c3ea1d5b7269cfb8875e72", func := "muniment/munimentlaw02.DigestPieces", spec := "digestPieces", unfollowed := true, recurses := true, apart := false }
def DigestPiecesSaid : Prop := digestPiecesRow.holds Try.pinned (OpenSpec.ofChange digestPiecesSpec)

/-- ITS FALSE NEIGHBOUR: 'it returns false'. Refute it at one input. -/
def digestPiecesWrong : ChangeSpec := { name := "digestPieces", fn := fun _ => fun
  | [d] => { results := [.lit (.bool false)], args := [d] }
  | _ => none }
def DigestPiecesWrongFalsely : Prop := digestPiecesRow.holds Try.pinned (OpenSpec.ofChange digestPiecesWrong)

/-- 'munimentlaw14.BloomNever': WHATEVER THE INPUT: true; the input reads as it did. -/
def bloomNeverSpec : ChangeSpec := { name := "bloomNever", fn := fun _ => fun
  | [d1, d2, d3, d4, d5] => { results := [.lit (.bool true)], args := [d1, d2, d3, d4, d5] }
  | _ => none }
def bloomNeverRow : OpenClaim := { program := "ytbfmdingbgdflaa", sum := "6fcd8ba0d7ceea79ebc067adc8b76367781c84d300c3ea1d5b7269cfb8875e72", func := "muniment/munimentlaw14.BloomNever", spec := "bloomNever", unfollowed := true, recurses := true, apart := false }
def BloomNeverSaid : Prop := bloomNeverRow.holds Try.pinned (OpenSpec.ofChange bloomNeverSpec)

/-- ITS FALSE NEIGHBOUR: 'it returns false'. Refute it at one input. -/
def bloomNeverWrong : ChangeSpec := { name := "bloomNever", fn := fun _ => fun
  | [d1, d2, d3, d4, d5] => { results := [.lit (.bool false)], args := [d1, d2, d3, d4, d5] }
  | _ => none }
def BloomNeverWrongFalsely : Prop := bloomNeverRow.holds Try.pinned (OpenSpec.ofChange bloomNeverWrong)

/-- 'munimentlaw14.BloomAlone': WHATEVER THE INPUT: true; the input reads as it did. -/
def bloomAloneSpec : ChangeSpec := { name := "bloomAlone", fn := fun _ => fun
  | [d1, d2] => { results := [.lit (.bool true)], args := [d1, d2] }
  | _ => none }
def bloomAloneRow : OpenClaim := { program := "ytbfmdingbgdflaa", sum := "6fcd8ba0d7ceea79ebc067adc8b76367781c84d300c3ea1d5b7269cfb8875e72", func := "muniment/munimentlaw14.BloomAlone", spec := "bloomAlone", unfollowed := true, recurses := true, apart := false }
def BloomAloneSaid : Prop := bloomAloneRow.holds Try.pinned (OpenSpec.ofChange bloomAloneSpec)

/-- ITS FALSE NEIGHBOUR: 'it returns false'. Refute it at one input. -/
def bloomAloneWrong : ChangeSpec := { name := "bloomAlone", fn := fun _ => fun
  | [d1, d2] => { results := [.lit (.bool false)], args := [d1, d2] }
  | _ => none }
def BloomAloneWrongFalsely : Prop := bloomAloneRow.holds Try.pinned (OpenSpec.ofChange bloomAloneWrong)

/-- 'munimentlaw14.BloomRuns': WHATEVER THE INPUT: true; the input reads as it did. -/
def bloomRunsSpec : ChangeSpec := { name := "bloomRuns", fn := fun _ => fun
  | [d1, d2, d3, d4, d5] => { results := [.lit (.bool true)], args := [d1, d2, d3, d4, d5] }
  | _ => none }
def bloomRunsRow : OpenClaim := { program := "ytbfmdingbgdflaa", sum := "6fcd8ba0d7ceea79ebc067adc8b76367781c84d300c3ea1d5b7269cfb8875e72", func := "muniment/munimentlaw14.BloomRuns", spec := "bloomRuns", unfollowed := true, recurses := true, apart := false }
def BloomRunsSaid : Prop := bloomRunsRow.holds Try.pinned (OpenSpec.ofChange bloomRunsSpec)

/-- ITS FALSE NEIGHBOUR: 'it returns false'. Refute it at one input. -/
def bloomRunsWrong : ChangeSpec := { name := "bloomRuns", fn := fun _ => fun
  | [d1, d2, d3, d4, d5] => { results := [.lit (.bool false)], args := [d1, d2, d3, d4, d5] }
  | _ => none }
def BloomRunsWrongFalsely : Prop := bloomRunsRow.holds Try.pinned (OpenSpec.ofChange bloomRunsWrong)

/-- 'munimentlaw02.DigestNone': WHATEVER THE INPUT: true; the input reads as it did. -/
def digestNoneSpec : ChangeSpec := { name := "digestNone", fn := fun _ => fun
  | [] => { results := [.lit (.bool true)], args := [] }
  | _ => none }
def digestNoneRow : OpenClaim := { program := "ytbfmdingbgdflaa", sum := "6fcd8ba0d7ceea79ebc067adc8b76367781c84d300c3ea1d5b7269cfb8875e72", func := "muniment/munimentlaw02.DigestNone", spec := "digestNone", inPlace := ["internal/bytealg.IndexByteString"], unfollowed := true, recurses := true, apart := false }
def DigestNoneSaid : Prop := digestNoneRow.holds Try.pinned (OpenSpec.ofChange digestNoneSpec)

/-- ITS FALSE NEIGHBOUR: 'it returns false'. Refute it at one input. -/
def digestNoneWrong : ChangeSpec := { name := "digestNone", fn := fun _ => fun
  | [] => { results := [.lit (.bool false)], args := [] }
  | _ => none }
def DigestNoneWrongFalsely : Prop := digestNoneRow.holds Try.pinned (OpenSpec.ofChange digestNoneWrong)

/-- 'munimentlaw02.DigestSums': WHATEVER THE INPUT: true; the input reads as it did. -/
def digestSumsSpec : ChangeSpec := { name := "digestSums", fn := fun _ => fun
  | [d1, d2, d3] => { results := [.lit (.bool true)], args := [d1, d2, d3] }
  | _ => none }
def digestSumsRow : OpenClaim := { program := "ytbfmdingbgdflaa", sum := "6fcd8ba0d7ceea79ebc067adc8b76367781c84d300c3ea1d5b7269cfb8875e72", func := "muniment/munimentlaw02.DigestSums", spec := "digestSums", inPlace := ["internal/bytealg.IndexByteString"], unfollowed := true, recurses := true, apart := false }
def DigestSumsSaid : Prop := digestSumsRow.holds Try.pinned (OpenSpec.ofChange digestSumsSpec)

/-- ITS FALSE NEIGHBOUR: 'it returns false'. Refute it at one input. -/
def digestSumsWrong : ChangeSpec := { name := "digestSums", fn := fun _ => fun
  | [d1, d2, d3] => { results := [.lit (.bool false)], args := [d1, d2, d3] }
  | _ => none }
def DigestSumsWrongFalsely : Prop := digestSumsRow.holds Try.pinned (OpenSpec.ofChange digestSumsWrong)

/-- 'munimentlaw02.DigestBack': WHATEVER THE INPUT: true; the input reads as it did. -/
def digestBackSpec : ChangeSpec := { name := "digestBack", fn := fun _ => fun
  | [d1, d2, d3] => { results := [.lit (.bool true)], args := [d1, d2, d3] }
  | _ => none }
def digestBackRow : OpenClaim := { program := "ytbfmdingbgdflaa", sum := "6fcd8ba0d7ceea79ebc067adc8b76367781c84d300c3ea1d5b7269cfb8875e72", func := "muniment/munimentlaw02.DigestBack", spec := "digestBack", inPlace := ["internal/bytealg.IndexByteString"], unfollowed := true, recurses := true, apart := false }
def DigestBackSaid : Prop := digestBackRow.holds Try.pinned (OpenSpec.ofChange digestBackSpec)

/-- ITS FALSE NEIGHBOUR: 'it returns false'. Refute it at one input. -/
def digestBackWrong : ChangeSpec := { name := "digestBack", fn := fun _ => fun
  | [d1, d2, d3] => { results := [.lit (.bool false)], args := [d1, d2, d3] }
  | _ => none }
def DigestBackWrongFalsely : Prop := digestBackRow.holds Try.pinned (OpenSpec.ofChange digestBackWrong)

/-- 'munimentlaw14.BloomDecodes': WHATEVER THE INPUT: true; the input reads as it did. -/
def bloomDecodesSpec : ChangeSpec := { name := "bloomDecodes", fn := fun _ => fun
  | [d1, d2, d3] => { results := [.lit (.bool true)], args := [d1, d2, d3] }
  | _ => none }
def bloomDecodesRow : OpenClaim := { program := "ytbfmdingbgdflaa", sum := "6fcd8ba0d7ceea79ebc067adc8b76367781c84d300c3ea1d5b7269cfb8875e72", func := "muniment/munimentlaw14.BloomDecodes", spec := "bloomDecodes", inPlace := ["internal/bytealg.IndexByteString"], unfollowed := true, recurses := true, apart := false }
def BloomDecodesSaid : Prop := bloomDecodesRow.holds Try.pinned (OpenSpec.ofChange bloomDecodesSpec)

/-- ITS FALSE NEIGHBOUR: 'it returns false'. Refute it at one input. -/
def bloomDecodesWrong : ChangeSpec := { name := "bloomDecodes", fn := fun _ => fun
  | [d1, d2, d3] => { results := [.lit (.bool false)], args := [d1, d2, d3] }
  | _ => none }
def BloomDecodesWrongFalsely : Prop := bloomDecodesRow.holds Try.pinned (OpenSpec.ofChange bloomDecodesWrong)

/-- 'munimentlaw14.BloomNames': WHATEVER THE INPUT: true; the input reads as it did. -/
def bloomNamesSpec : ChangeSpec := { name := "bloomNames", fn := fun _ => fun
  | [] => { results := [.lit (.bool true)], args := [] }
  | _ => none }
def bloomNamesRow : OpenClaim := { program := "ytbfmdingbgdflaa", sum := "6fcd8ba0d7ceea79ebc067adc8b76367781c84d300c3ea1d5b7269cfb8875e72", func := "muniment/munimentlaw14.BloomNames", spec := "bloomNames", inPlace := ["internal/bytealg.IndexByteString"], unfollowed := true, recurses := true, apart := false }
def BloomNamesSaid : Prop := bloomNamesRow.holds Try.pinned (OpenSpec.ofChange bloomNamesSpec)

/-- ITS FALSE NEIGHBOUR: 'it returns false'. Refute it at one input. -/
def bloomNamesWrong : ChangeSpec := { name := "bloomNames", fn := fun _ => fun
  | [] => { results := [.lit (.bool false)], args := [] }
  | _ => none }
def BloomNamesWrongFalsely : Prop := bloomNamesRow.holds Try.pinned (OpenSpec.ofChange bloomNamesWrong)

/- THE SECOND FORM. 'bulk': how many values and letters a reading holds, each counted each time it is reached (what is shared counts as often as it is met; a slice's spare places count too). A statement '..UptoSaid' is the law's where the arguments, and the package variables that the reading takes, are together of bulk at most 1048576: NARROWER than '..Said'. Prove '..Said' where nothing that the law and all that it calls make is longer than what came in: it says more and counts as full. Else prove '..UptoSaid'. A law counts once. -/
mutual
def uptoBulk {H : Type} : DataW H → Nat
  | .lit (.string bytes) => bytes.length + 1
  | .lit _ => 1
  | .nil => 1
  | .ptr d => uptoBulk d + 1
  | .slice elems spare => uptoBulkAll elems + uptoBulkAll spare + 1
  | .agg parts => uptoBulkAll parts + 1
  | .iface _ d => uptoBulk d + 1
  | .map entries => uptoBulkEntries entries + 1
  | .held _ => 1
def uptoBulkAll {H : Type} : List (DataW H) → Nat
  | [] => 0
  | d :: r => uptoBulk d + uptoBulkAll r
def uptoBulkEntries {H : Type} : List (Lit × DataW H) → Nat
  | [] => 0
  | x :: r => uptoBulkEntry x + uptoBulkEntries r
def uptoBulkEntry {H : Type} : Lit × DataW H → Nat
  | (.string bytes, d) => bytes.length + uptoBulk d + 1
  | (_, d) => uptoBulk d + 1
 end
def uptoSmall : (H : Type) → List (DataW H) → Bool := fun _ ds => decide (uptoBulkAll ds ≤ 1048576)
def OpenSpec.upto (s : _root_.Go.ChangeSpec) : _root_.Go.OpenSpec := { _root_.Go.OpenSpec.ofChange s with cond := some uptoSmall }

/-- 'munimentlaw14.BloomFiner', WHERE WHAT IT READS IS OF BULK AT MOST 1048576: true; the input reads as it did. -/
def bloomFinerUptoRow : OpenClaim := { program := "ytbfmdingbgdflaa", sum := "6fcd8ba0d7ceea79ebc067adc8b76367781c84d300c3ea1d5b7269cfb8875e72", func := "muniment/munimentlaw14.BloomFiner", spec := "bloomFiner", unfollowed := true, recurses := true, apart := false, narrowed := true }
def BloomFinerUptoSaid : Prop := bloomFinerUptoRow.holds Try.pinned (OpenSpec.upto bloomFinerSpec)

/-- 'munimentlaw02.DigestPieces', WHERE WHAT IT READS IS OF BULK AT MOST 1048576: true; the input reads as it did. -/
def digestPiecesUptoRow : OpenClaim := { program := "ytbfmdingbgdflaa", sum := "6fcd8ba0d7ceea79ebc067adc8b76367781c84d300c3ea1d5b7269cfb8875e72", func := "muniment/munimentlaw02.DigestPieces", spec := "digestPieces", unfollowed := true, recurses := true, apart := false, narrowed := true }
def DigestPiecesUptoSaid : Prop := digestPiecesUptoRow.holds Try.pinned (OpenSpec.upto digestPiecesSpec)

/-- 'munimentlaw14.BloomNever', WHERE WHAT IT READS IS OF BULK AT MOST 1048576: true; the input reads as it did. -/
def bloomNeverUptoRow : OpenClaim := { program := "ytbfmdingbgdflaa", sum := "6fcd8ba0d7ceea79ebc067adc8b76367781c84d300c3ea1d5b7269cfb8875e72", func := "muniment/munimentlaw14.BloomNever", spec := "bloomNever", unfollowed := true, recurses := true, apart := false, narrowed := true }
def BloomNeverUptoSaid : Prop := bloomNeverUptoRow.holds Try.pinned (OpenSpec.upto bloomNeverSpec)

/-- 'munimentlaw14.BloomAlone', WHERE WHAT IT READS IS OF BULK AT MOST 1048576: true; the input reads as it did. -/
def bloomAloneUptoRow : OpenClaim := { program := "ytbfmdingbgdflaa", sum := "6fcd8ba0d7ceea79ebc067adc8b76367781c84d300c3ea1d5b7269cfb8875e72", func := "muniment/munimentlaw14.BloomAlone", spec := "bloomAlone", unfollowed := true, recurses := true, apart := false, narrowed := true }
def BloomAloneUptoSaid : Prop := bloomAloneUptoRow.holds Try.pinned (OpenSpec.upto bloomAloneSpec)

/-- 'munimentlaw14.BloomRuns', WHERE WHAT IT READS IS OF BULK AT MOST 1048576: true; the input reads as it did. -/
def bloomRunsUptoRow : OpenClaim := { program := "ytbfmdingbgdflaa", sum := "6fcd8ba0d7ceea79ebc067adc8b76367781c84d300c3ea1d5b7269cfb8875e72", func := "muniment/munimentlaw14.BloomRuns", spec := "bloomRuns", unfollowed := true, recurses := true, apart := false, narrowed := true }
def BloomRunsUptoSaid : Prop := bloomRunsUptoRow.holds Try.pinned (OpenSpec.upto bloomRunsSpec)

/-- 'munimentlaw02.DigestNone', WHERE WHAT IT READS IS OF BULK AT MOST 1048576: true; the input reads as it did. -/
def digestNoneUptoRow : OpenClaim := { program := "ytbfmdingbgdflaa", sum := "6fcd8ba0d7ceea79ebc067adc8b76367781c84d300c3ea1d5b7269cfb8875e72", func := "muniment/munimentlaw02.DigestNone", spec := "digestNone", inPlace := ["internal/bytealg.IndexByteString"], unfollowed := true, recurses := true, apart := false, narrowed := true }
def DigestNoneUptoSaid : Prop := digestNoneUptoRow.holds Try.pinned (OpenSpec.upto digestNoneSpec)

/-- 'munimentlaw02.DigestSums', WHERE WHAT IT READS IS OF BULK AT MOST 1048576: true; the input reads as it did. -/
def digestSumsUptoRow : OpenClaim := { program := "ytbfmdingbgdflaa", sum := "6fcd8ba0d7ceea79ebc067adc8b76367781c84d300c3ea1d5b7269cfb8875e72", func := "muniment/munimentlaw02.DigestSums", spec := "digestSums", inPlace := ["internal/bytealg.IndexByteString"], unfollowed := true, recurses := true, apart := false, narrowed := true }
def DigestSumsUptoSaid : Prop := digestSumsUptoRow.holds Try.pinned (OpenSpec.upto digestSumsSpec)

/-- 'munimentlaw02.DigestBack', WHERE WHAT IT READS IS OF BULK AT MOST 1048576: true; the input reads as it did. -/
def digestBackUptoRow : OpenClaim := { program := "ytbfmdingbgdflaa", sum := "6fcd8ba0d7ceea79ebc067adc8b76367781c84d300c3ea1d5b7269cfb8875e72", func := "muniment/munimentlaw02.DigestBack", spec := "digestBack", inPlace := ["internal/bytealg.IndexByteString"], unfollowed := true, recurses := true, apart := false, narrowed := true }
def DigestBackUptoSaid : Prop := digestBackUptoRow.holds Try.pinned (OpenSpec.upto digestBackSpec)

/-- 'munimentlaw14.BloomDecodes', WHERE WHAT IT READS IS OF BULK AT MOST 1048576: true; the input reads as it did. -/
def bloomDecodesUptoRow : OpenClaim := { program := "ytbfmdingbgdflaa", sum := "6fcd8ba0d7ceea79ebc067adc8b76367781c84d300c3ea1d5b7269cfb8875e72", func := "muniment/munimentlaw14.BloomDecodes", spec := "bloomDecodes", inPlace := ["internal/bytealg.IndexByteString"], unfollowed := true, recurses := true, apart := false, narrowed := true }
def BloomDecodesUptoSaid : Prop := bloomDecodesUptoRow.holds Try.pinned (OpenSpec.upto bloomDecodesSpec)

/-- 'munimentlaw14.BloomNames', WHERE WHAT IT READS IS OF BULK AT MOST 1048576: true; the input reads as it did. -/
def bloomNamesUptoRow : OpenClaim := { program := "ytbfmdingbgdflaa", sum := "6fcd8ba0d7ceea79ebc067adc8b76367781c84d300c3ea1d5b7269cfb8875e72", func := "muniment/munimentlaw14.BloomNames", spec := "bloomNames", inPlace := ["internal/bytealg.IndexByteString"], unfollowed := true, recurses := true, apart := false, narrowed := true }
def BloomNamesUptoSaid : Prop := bloomNamesUptoRow.holds Try.pinned (OpenSpec.upto bloomNamesSpec)

end Rows
end Go.Proofs.Ytbfmdingbgdflaa
