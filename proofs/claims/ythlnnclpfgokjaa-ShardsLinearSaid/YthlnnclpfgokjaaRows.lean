/-
  No cell of these rows narrows 'for every input' (looked for: loops, veiled, ifaces, maps, wideKeys, modest, calm, conditions, laid).
  DERIVED. THE GIVEN ROWS OF THIS SEAT. 14 by the template 'for every input the law returns true; each argument reads behind the call as it read before'; 0 by the template 'total and deterministic' (their statements: YthlnnclpfgokjaaTotals.lean).
  GIVEN WITH THE SEED: the statements are not yours to turn. If you find one false, say at which input.
  Laid BY PROGRAM, IN A SANDBOX (cutbox-rows.mjs): the forced cells as the released guide's own fill.sh prints them over the translation 8041403931fc44f9… (all of the seat's roots in one cut). By AI agents, Wed Nov 11 2026. No macro, syntax, notation, axiom, sorry.
-/
import Derived.Test.YthlnnclpfgokjaaChecked
import GoSem.Claim
import GoSem.ClaimJoined
import GoSem.ClaimMapViews
import Derived.JoinedTies
import Derived.KernelRfl
namespace Go.Proofs.Ythlnnclpfgokjaa
/- THE CELL 'sum', in the pinned program and in every row, IS THE sha256 OF THE DUMP (.gsa) THAT YthlnnclpfgokjaaProg.lean LOADS. Nothing in Lean hashes anything: it is a label: what it is worth is what the hold of that sum in a sandbox is worth. -/
noncomputable def Try.pinned : Pinned := { name := "ythlnnclpfgokjaa", sum := "8041403931fc44f9a06404df0fd88631fe3b0b4078f901e7c3e5493db78ab26c", checked := Try.checked }
namespace Rows
def none {H : Type} : Left H := { results := [], args := [] }

/-- 'munimentlaw06.FieldNumbers': WHATEVER THE INPUT: true; the input reads as it did. -/
def fieldNumbersSpec : ChangeSpec := { name := "fieldNumbers", fn := fun _ => fun
  | [d1, d2, d3] => { results := [.lit (.bool true)], args := [d1, d2, d3] }
  | _ => none }
def fieldNumbersRow : OpenClaim := { program := "ythlnnclpfgokjaa", sum := "8041403931fc44f9a06404df0fd88631fe3b0b4078f901e7c3e5493db78ab26c", func := "muniment/munimentlaw06.FieldNumbers", spec := "fieldNumbers", apart := false }
def FieldNumbersSaid : Prop := fieldNumbersRow.holds Try.pinned (OpenSpec.ofChange fieldNumbersSpec)

/-- ITS FALSE NEIGHBOUR: 'it returns false'. Refute it at one input. -/
def fieldNumbersWrong : ChangeSpec := { name := "fieldNumbers", fn := fun _ => fun
  | [d1, d2, d3] => { results := [.lit (.bool false)], args := [d1, d2, d3] }
  | _ => none }
def FieldNumbersWrongFalsely : Prop := fieldNumbersRow.holds Try.pinned (OpenSpec.ofChange fieldNumbersWrong)

/-- 'munimentlaw06.FieldMade': WHATEVER THE INPUT: true; the input reads as it did. -/
def fieldMadeSpec : ChangeSpec := { name := "fieldMade", fn := fun _ => fun
  | [d1, d2, d3] => { results := [.lit (.bool true)], args := [d1, d2, d3] }
  | _ => none }
def fieldMadeRow : OpenClaim := { program := "ythlnnclpfgokjaa", sum := "8041403931fc44f9a06404df0fd88631fe3b0b4078f901e7c3e5493db78ab26c", func := "muniment/munimentlaw06.FieldMade", spec := "fieldMade", apart := false }
def FieldMadeSaid : Prop := fieldMadeRow.holds Try.pinned (OpenSpec.ofChange fieldMadeSpec)

/-- ITS FALSE NEIGHBOUR: 'it returns false'. Refute it at one input. -/
def fieldMadeWrong : ChangeSpec := { name := "fieldMade", fn := fun _ => fun
  | [d1, d2, d3] => { results := [.lit (.bool false)], args := [d1, d2, d3] }
  | _ => none }
def FieldMadeWrongFalsely : Prop := fieldMadeRow.holds Try.pinned (OpenSpec.ofChange fieldMadeWrong)

/-- 'munimentlaw06.FieldLaws': WHATEVER THE INPUT: true; the input reads as it did. -/
def fieldLawsSpec : ChangeSpec := { name := "fieldLaws", fn := fun _ => fun
  | [d1, d2, d3, d4, d5] => { results := [.lit (.bool true)], args := [d1, d2, d3, d4, d5] }
  | _ => none }
def fieldLawsRow : OpenClaim := { program := "ythlnnclpfgokjaa", sum := "8041403931fc44f9a06404df0fd88631fe3b0b4078f901e7c3e5493db78ab26c", func := "muniment/munimentlaw06.FieldLaws", spec := "fieldLaws", apart := false }
def FieldLawsSaid : Prop := fieldLawsRow.holds Try.pinned (OpenSpec.ofChange fieldLawsSpec)

/-- ITS FALSE NEIGHBOUR: 'it returns false'. Refute it at one input. -/
def fieldLawsWrong : ChangeSpec := { name := "fieldLaws", fn := fun _ => fun
  | [d1, d2, d3, d4, d5] => { results := [.lit (.bool false)], args := [d1, d2, d3, d4, d5] }
  | _ => none }
def FieldLawsWrongFalsely : Prop := fieldLawsRow.holds Try.pinned (OpenSpec.ofChange fieldLawsWrong)

/-- 'munimentlaw06.FieldPowers': WHATEVER THE INPUT: true; the input reads as it did. -/
def fieldPowersSpec : ChangeSpec := { name := "fieldPowers", fn := fun _ => fun
  | [d1, d2, d3] => { results := [.lit (.bool true)], args := [d1, d2, d3] }
  | _ => none }
def fieldPowersRow : OpenClaim := { program := "ythlnnclpfgokjaa", sum := "8041403931fc44f9a06404df0fd88631fe3b0b4078f901e7c3e5493db78ab26c", func := "muniment/munimentlaw06.FieldPowers", spec := "fieldPowers", apart := false }
def FieldPowersSaid : Prop := fieldPowersRow.holds Try.pinned (OpenSpec.ofChange fieldPowersSpec)

/-- ITS FALSE NEIGHBOUR: 'it returns false'. Refute it at one input. -/
def fieldPowersWrong : ChangeSpec := { name := "fieldPowers", fn := fun _ => fun
  | [d1, d2, d3] => { results := [.lit (.bool false)], args := [d1, d2, d3] }
  | _ => none }
def FieldPowersWrongFalsely : Prop := fieldPowersRow.holds Try.pinned (OpenSpec.ofChange fieldPowersWrong)

/-- 'munimentlaw06.FieldNames': WHATEVER THE INPUT: true; the input reads as it did. -/
def fieldNamesSpec : ChangeSpec := { name := "fieldNames", fn := fun _ => fun
  | [] => { results := [.lit (.bool true)], args := [] }
  | _ => none }
def fieldNamesRow : OpenClaim := { program := "ythlnnclpfgokjaa", sum := "8041403931fc44f9a06404df0fd88631fe3b0b4078f901e7c3e5493db78ab26c", func := "muniment/munimentlaw06.FieldNames", spec := "fieldNames", apart := false }
def FieldNamesSaid : Prop := fieldNamesRow.holds Try.pinned (OpenSpec.ofChange fieldNamesSpec)

/-- ITS FALSE NEIGHBOUR: 'it returns false'. Refute it at one input. -/
def fieldNamesWrong : ChangeSpec := { name := "fieldNames", fn := fun _ => fun
  | [] => { results := [.lit (.bool false)], args := [] }
  | _ => none }
def FieldNamesWrongFalsely : Prop := fieldNamesRow.holds Try.pinned (OpenSpec.ofChange fieldNamesWrong)

/-- 'munimentlaw06.FieldMatrices': WHATEVER THE INPUT: true; the input reads as it did. -/
def fieldMatricesSpec : ChangeSpec := { name := "fieldMatrices", fn := fun _ => fun
  | [d1, d2] => { results := [.lit (.bool true)], args := [d1, d2] }
  | _ => none }
def fieldMatricesRow : OpenClaim := { program := "ythlnnclpfgokjaa", sum := "8041403931fc44f9a06404df0fd88631fe3b0b4078f901e7c3e5493db78ab26c", func := "muniment/munimentlaw06.FieldMatrices", spec := "fieldMatrices", apart := false }
def FieldMatricesSaid : Prop := fieldMatricesRow.holds Try.pinned (OpenSpec.ofChange fieldMatricesSpec)

/-- ITS FALSE NEIGHBOUR: 'it returns false'. Refute it at one input. -/
def fieldMatricesWrong : ChangeSpec := { name := "fieldMatrices", fn := fun _ => fun
  | [d1, d2] => { results := [.lit (.bool false)], args := [d1, d2] }
  | _ => none }
def FieldMatricesWrongFalsely : Prop := fieldMatricesRow.holds Try.pinned (OpenSpec.ofChange fieldMatricesWrong)

/-- 'munimentlaw06.FieldSquares': WHATEVER THE INPUT: true; the input reads as it did. -/
def fieldSquaresSpec : ChangeSpec := { name := "fieldSquares", fn := fun _ => fun
  | [d1, d2, d3, d4] => { results := [.lit (.bool true)], args := [d1, d2, d3, d4] }
  | _ => none }
def fieldSquaresRow : OpenClaim := { program := "ythlnnclpfgokjaa", sum := "8041403931fc44f9a06404df0fd88631fe3b0b4078f901e7c3e5493db78ab26c", func := "muniment/munimentlaw06.FieldSquares", spec := "fieldSquares", apart := false }
def FieldSquaresSaid : Prop := fieldSquaresRow.holds Try.pinned (OpenSpec.ofChange fieldSquaresSpec)

/-- ITS FALSE NEIGHBOUR: 'it returns false'. Refute it at one input. -/
def fieldSquaresWrong : ChangeSpec := { name := "fieldSquares", fn := fun _ => fun
  | [d1, d2, d3, d4] => { results := [.lit (.bool false)], args := [d1, d2, d3, d4] }
  | _ => none }
def FieldSquaresWrongFalsely : Prop := fieldSquaresRow.holds Try.pinned (OpenSpec.ofChange fieldSquaresWrong)

/-- 'munimentlaw06.FieldUndone': WHATEVER THE INPUT: true; the input reads as it did. -/
def fieldUndoneSpec : ChangeSpec := { name := "fieldUndone", fn := fun _ => fun
  | [d1, d2, d3, d4] => { results := [.lit (.bool true)], args := [d1, d2, d3, d4] }
  | _ => none }
def fieldUndoneRow : OpenClaim := { program := "ythlnnclpfgokjaa", sum := "8041403931fc44f9a06404df0fd88631fe3b0b4078f901e7c3e5493db78ab26c", func := "muniment/munimentlaw06.FieldUndone", spec := "fieldUndone", apart := false }
def FieldUndoneSaid : Prop := fieldUndoneRow.holds Try.pinned (OpenSpec.ofChange fieldUndoneSpec)

/-- ITS FALSE NEIGHBOUR: 'it returns false'. Refute it at one input. -/
def fieldUndoneWrong : ChangeSpec := { name := "fieldUndone", fn := fun _ => fun
  | [d1, d2, d3, d4] => { results := [.lit (.bool false)], args := [d1, d2, d3, d4] }
  | _ => none }
def FieldUndoneWrongFalsely : Prop := fieldUndoneRow.holds Try.pinned (OpenSpec.ofChange fieldUndoneWrong)

/-- 'munimentlaw07.ShardsCut': WHATEVER THE INPUT: true; the input reads as it did. -/
def shardsCutSpec : ChangeSpec := { name := "shardsCut", fn := fun _ => fun
  | [d1, d2, d3, d4, d5] => { results := [.lit (.bool true)], args := [d1, d2, d3, d4, d5] }
  | _ => none }
def shardsCutRow : OpenClaim := { program := "ythlnnclpfgokjaa", sum := "8041403931fc44f9a06404df0fd88631fe3b0b4078f901e7c3e5493db78ab26c", func := "muniment/munimentlaw07.ShardsCut", spec := "shardsCut", inPlace := ["internal/abi.NoEscape", "internal/bytealg.MakeNoZero"], apart := false }
def ShardsCutSaid : Prop := shardsCutRow.holds Try.pinned (OpenSpec.ofChange shardsCutSpec)

/-- ITS FALSE NEIGHBOUR: 'it returns false'. Refute it at one input. -/
def shardsCutWrong : ChangeSpec := { name := "shardsCut", fn := fun _ => fun
  | [d1, d2, d3, d4, d5] => { results := [.lit (.bool false)], args := [d1, d2, d3, d4, d5] }
  | _ => none }
def ShardsCutWrongFalsely : Prop := shardsCutRow.holds Try.pinned (OpenSpec.ofChange shardsCutWrong)

/-- 'munimentlaw07.ShardsRebuilt': WHATEVER THE INPUT: true; the input reads as it did. -/
def shardsRebuiltSpec : ChangeSpec := { name := "shardsRebuilt", fn := fun _ => fun
  | [d1, d2, d3] => { results := [.lit (.bool true)], args := [d1, d2, d3] }
  | _ => none }
def shardsRebuiltRow : OpenClaim := { program := "ythlnnclpfgokjaa", sum := "8041403931fc44f9a06404df0fd88631fe3b0b4078f901e7c3e5493db78ab26c", func := "muniment/munimentlaw07.ShardsRebuilt", spec := "shardsRebuilt", unfollowed := true, recurses := true, apart := false }
def ShardsRebuiltSaid : Prop := shardsRebuiltRow.holds Try.pinned (OpenSpec.ofChange shardsRebuiltSpec)

/-- ITS FALSE NEIGHBOUR: 'it returns false'. Refute it at one input. -/
def shardsRebuiltWrong : ChangeSpec := { name := "shardsRebuilt", fn := fun _ => fun
  | [d1, d2, d3] => { results := [.lit (.bool false)], args := [d1, d2, d3] }
  | _ => none }
def ShardsRebuiltWrongFalsely : Prop := shardsRebuiltRow.holds Try.pinned (OpenSpec.ofChange shardsRebuiltWrong)

/-- 'munimentlaw07.ShardsNames': WHATEVER THE INPUT: true; the input reads as it did. -/
def shardsNamesSpec : ChangeSpec := { name := "shardsNames", fn := fun _ => fun
  | [] => { results := [.lit (.bool true)], args := [] }
  | _ => none }
def shardsNamesRow : OpenClaim := { program := "ythlnnclpfgokjaa", sum := "8041403931fc44f9a06404df0fd88631fe3b0b4078f901e7c3e5493db78ab26c", func := "muniment/munimentlaw07.ShardsNames", spec := "shardsNames", unfollowed := true, recurses := true, apart := false }
def ShardsNamesSaid : Prop := shardsNamesRow.holds Try.pinned (OpenSpec.ofChange shardsNamesSpec)

/-- ITS FALSE NEIGHBOUR: 'it returns false'. Refute it at one input. -/
def shardsNamesWrong : ChangeSpec := { name := "shardsNames", fn := fun _ => fun
  | [] => { results := [.lit (.bool false)], args := [] }
  | _ => none }
def ShardsNamesWrongFalsely : Prop := shardsNamesRow.holds Try.pinned (OpenSpec.ofChange shardsNamesWrong)

/-- 'munimentlaw07.ShardsLinear': WHATEVER THE INPUT: true; the input reads as it did. -/
def shardsLinearSpec : ChangeSpec := { name := "shardsLinear", fn := fun _ => fun
  | [d1, d2, d3, d4, d5, d6, d7, d8] => { results := [.lit (.bool true)], args := [d1, d2, d3, d4, d5, d6, d7, d8] }
  | _ => none }
def shardsLinearRow : OpenClaim := { program := "ythlnnclpfgokjaa", sum := "8041403931fc44f9a06404df0fd88631fe3b0b4078f901e7c3e5493db78ab26c", func := "muniment/munimentlaw07.ShardsLinear", spec := "shardsLinear", unfollowed := true, recurses := true, apart := false }
def ShardsLinearSaid : Prop := shardsLinearRow.holds Try.pinned (OpenSpec.ofChange shardsLinearSpec)

/-- ITS FALSE NEIGHBOUR: 'it returns false'. Refute it at one input. -/
def shardsLinearWrong : ChangeSpec := { name := "shardsLinear", fn := fun _ => fun
  | [d1, d2, d3, d4, d5, d6, d7, d8] => { results := [.lit (.bool false)], args := [d1, d2, d3, d4, d5, d6, d7, d8] }
  | _ => none }
def ShardsLinearWrongFalsely : Prop := shardsLinearRow.holds Try.pinned (OpenSpec.ofChange shardsLinearWrong)

/-- 'munimentlaw07.ShardsWrong': WHATEVER THE INPUT: true; the input reads as it did. -/
def shardsWrongSpec : ChangeSpec := { name := "shardsWrong", fn := fun _ => fun
  | [d1, d2, d3, d4, d5, d6] => { results := [.lit (.bool true)], args := [d1, d2, d3, d4, d5, d6] }
  | _ => none }
def shardsWrongRow : OpenClaim := { program := "ythlnnclpfgokjaa", sum := "8041403931fc44f9a06404df0fd88631fe3b0b4078f901e7c3e5493db78ab26c", func := "muniment/munimentlaw07.ShardsWrong", spec := "shardsWrong", unfollowed := true, recurses := true, apart := false }
def ShardsWrongSaid : Prop := shardsWrongRow.holds Try.pinned (OpenSpec.ofChange shardsWrongSpec)

/-- ITS FALSE NEIGHBOUR: 'it returns false'. Refute it at one input. -/
def shardsWrongWrong : ChangeSpec := { name := "shardsWrong", fn := fun _ => fun
  | [d1, d2, d3, d4, d5, d6] => { results := [.lit (.bool false)], args := [d1, d2, d3, d4, d5, d6] }
  | _ => none }
def ShardsWrongWrongFalsely : Prop := shardsWrongRow.holds Try.pinned (OpenSpec.ofChange shardsWrongWrong)

/-- 'munimentlaw07.ShardsBack': WHATEVER THE INPUT: true; the input reads as it did. -/
def shardsBackSpec : ChangeSpec := { name := "shardsBack", fn := fun _ => fun
  | [d1, d2, d3, d4, d5] => { results := [.lit (.bool true)], args := [d1, d2, d3, d4, d5] }
  | _ => none }
def shardsBackRow : OpenClaim := { program := "ythlnnclpfgokjaa", sum := "8041403931fc44f9a06404df0fd88631fe3b0b4078f901e7c3e5493db78ab26c", func := "muniment/munimentlaw07.ShardsBack", spec := "shardsBack", inPlace := ["internal/abi.NoEscape", "internal/bytealg.MakeNoZero"], unfollowed := true, recurses := true, apart := false }
def ShardsBackSaid : Prop := shardsBackRow.holds Try.pinned (OpenSpec.ofChange shardsBackSpec)

/-- ITS FALSE NEIGHBOUR: 'it returns false'. Refute it at one input. -/
def shardsBackWrong : ChangeSpec := { name := "shardsBack", fn := fun _ => fun
  | [d1, d2, d3, d4, d5] => { results := [.lit (.bool false)], args := [d1, d2, d3, d4, d5] }
  | _ => none }
def ShardsBackWrongFalsely : Prop := shardsBackRow.holds Try.pinned (OpenSpec.ofChange shardsBackWrong)

/- THE SECOND FORM. 'bulk': how many values and letters a reading holds, each counted each time it is reached (what is shared counts as often as it is met; a slice's spare places count too). A statement '..UptoSaid' is the law's where the arguments, and the package variables that the reading takes, are together of bulk at most 1048576: NARROWER than '..Said'. Prove '..Said' where nothing that the law and all that it calls make is longer than what came in: it says more and counts as full. Else prove '..UptoSaid'. A law counts once. -/
mutual
def uptoBulk {H : Type} : DataW H → Nat
  | .lit (.string bytes) => bytes.length + 1
  | .lit _ => 1
  | .nil => 1
  | .ptr d => uptoBulk d + 1
  | .slice elems spare => uptoBulkAll elems + uptoBulkAll spare + 1
  | .agg parts => uptoBulkAll parts + 1
  | .iface _ d => uptoBulk d + 1
  | .map entries => uptoBulkEntries entries + 1
  | .held _ => 1
def uptoBulkAll {H : Type} : List (DataW H) → Nat
  | [] => 0
  | d :: r => uptoBulk d + uptoBulkAll r
def uptoBulkEntries {H : Type} : List (Lit × DataW H) → Nat
  | [] => 0
  | x :: r => uptoBulkEntry x + uptoBulkEntries r
def uptoBulkEntry {H : Type} : Lit × DataW H → Nat
  | (.string bytes, d) => bytes.length + uptoBulk d + 1
  | (_, d) => uptoBulk d + 1
 end
def uptoSmall : (H : Type) → List (DataW H) → Bool := fun _ ds => decide (uptoBulkAll ds ≤ 1048576)
def OpenSpec.upto (s : _root_.Go.ChangeSpec) : _root_.Go.OpenSpec := { _root_.Go.OpenSpec.ofChange s with cond := some uptoSmall }

/-- 'munimentlaw06.FieldNumbers', WHERE WHAT IT READS IS OF BULK AT MOST 1048576: true; the input reads as it did. -/
def fieldNumbersUptoRow : OpenClaim := { program := "ythlnnclpfgokjaa", sum := "8041403931fc44f9a06404df0fd88631fe3b0b4078f901e7c3e5493db78ab26c", func := "muniment/munimentlaw06.FieldNumbers", spec := "fieldNumbers", apart := false, narrowed := true }
def FieldNumbersUptoSaid : Prop := fieldNumbersUptoRow.holds Try.pinned (OpenSpec.upto fieldNumbersSpec)

/-- 'munimentlaw06.FieldMade', WHERE WHAT IT READS IS OF BULK AT MOST 1048576: true; the input reads as it did. -/
def fieldMadeUptoRow : OpenClaim := { program := "ythlnnclpfgokjaa", sum := "8041403931fc44f9a06404df0fd88631fe3b0b4078f901e7c3e5493db78ab26c", func := "muniment/munimentlaw06.FieldMade", spec := "fieldMade", apart := false, narrowed := true }
def FieldMadeUptoSaid : Prop := fieldMadeUptoRow.holds Try.pinned (OpenSpec.upto fieldMadeSpec)

/-- 'munimentlaw06.FieldLaws', WHERE WHAT IT READS IS OF BULK AT MOST 1048576: true; the input reads as it did. -/
def fieldLawsUptoRow : OpenClaim := { program := "ythlnnclpfgokjaa", sum := "8041403931fc44f9a06404df0fd88631fe3b0b4078f901e7c3e5493db78ab26c", func := "muniment/munimentlaw06.FieldLaws", spec := "fieldLaws", apart := false, narrowed := true }
def FieldLawsUptoSaid : Prop := fieldLawsUptoRow.holds Try.pinned (OpenSpec.upto fieldLawsSpec)

/-- 'munimentlaw06.FieldPowers', WHERE WHAT IT READS IS OF BULK AT MOST 1048576: true; the input reads as it did. -/
def fieldPowersUptoRow : OpenClaim := { program := "ythlnnclpfgokjaa", sum := "8041403931fc44f9a06404df0fd88631fe3b0b4078f901e7c3e5493db78ab26c", func := "muniment/munimentlaw06.FieldPowers", spec := "fieldPowers", apart := false, narrowed := true }
def FieldPowersUptoSaid : Prop := fieldPowersUptoRow.holds Try.pinned (OpenSpec.upto fieldPowersSpec)

/-- 'munimentlaw06.FieldNames', WHERE WHAT IT READS IS OF BULK AT MOST 1048576: true; the input reads as it did. -/
def fieldNamesUptoRow : OpenClaim := { program := "ythlnnclpfgokjaa", sum := "8041403931fc44f9a06404df0fd88631fe3b0b4078f901e7c3e5493db78ab26c", func := "muniment/munimentlaw06.FieldNames", spec := "fieldNames", apart := false, narrowed := true }
def FieldNamesUptoSaid : Prop := fieldNamesUptoRow.holds Try.pinned (OpenSpec.upto fieldNamesSpec)

/-- 'munimentlaw06.FieldMatrices', WHERE WHAT IT READS IS OF BULK AT MOST 1048576: true; the input reads as it did. -/
def fieldMatricesUptoRow : OpenClaim := { program := "ythlnnclpfgokjaa", sum := "8041403931fc44f9a06404df0fd88631fe3b0b4078f901e7c3e5493db78ab26c", func := "muniment/munimentlaw06.FieldMatrices", spec := "fieldMatrices", apart := false, narrowed := true }
def FieldMatricesUptoSaid : Prop := fieldMatricesUptoRow.holds Try.pinned (OpenSpec.upto fieldMatricesSpec)

/-- 'munimentlaw06.FieldSquares', WHERE WHAT IT READS IS OF BULK AT MOST 1048576: true; the input reads as it did. -/
def fieldSquaresUptoRow : OpenClaim := { program := "ythlnnclpfgokjaa", sum := "8041403931fc44f9a06404df0fd88631fe3b0b4078f901e7c3e5493db78ab26c", func := "muniment/munimentlaw06.FieldSquares", spec := "fieldSquares", apart := false, narrowed := true }
def FieldSquaresUptoSaid : Prop := fieldSquaresUptoRow.holds Try.pinned (OpenSpec.upto fieldSquaresSpec)

/-- 'munimentlaw06.FieldUndone', WHERE WHAT IT READS IS OF BULK AT MOST 1048576: true; the input reads as it did. -/
def fieldUndoneUptoRow : OpenClaim := { program := "ythlnnclpfgokjaa", sum := "8041403931fc44f9a06404df0fd88631fe3b0b4078f901e7c3e5493db78ab26c", func := "muniment/munimentlaw06.FieldUndone", spec := "fieldUndone", apart := false, narrowed := true }
def FieldUndoneUptoSaid : Prop := fieldUndoneUptoRow.holds Try.pinned (OpenSpec.upto fieldUndoneSpec)

/-- 'munimentlaw07.ShardsCut', WHERE WHAT IT READS IS OF BULK AT MOST 1048576: true; the input reads as it did. -/
def shardsCutUptoRow : OpenClaim := { program := "ythlnnclpfgokjaa", sum := "8041403931fc44f9a06404df0fd88631fe3b0b4078f901e7c3e5493db78ab26c", func := "muniment/munimentlaw07.ShardsCut", spec := "shardsCut", inPlace := ["internal/abi.NoEscape", "internal/bytealg.MakeNoZero"], apart := false, narrowed := true }
def ShardsCutUptoSaid : Prop := shardsCutUptoRow.holds Try.pinned (OpenSpec.upto shardsCutSpec)

/-- 'munimentlaw07.ShardsRebuilt', WHERE WHAT IT READS IS OF BULK AT MOST 1048576: true; the input reads as it did. -/
def shardsRebuiltUptoRow : OpenClaim := { program := "ythlnnclpfgokjaa", sum := "8041403931fc44f9a06404df0fd88631fe3b0b4078f901e7c3e5493db78ab26c", func := "muniment/munimentlaw07.ShardsRebuilt", spec := "shardsRebuilt", unfollowed := true, recurses := true, apart := false, narrowed := true }
def ShardsRebuiltUptoSaid : Prop := shardsRebuiltUptoRow.holds Try.pinned (OpenSpec.upto shardsRebuiltSpec)

/-- 'munimentlaw07.ShardsNames', WHERE WHAT IT READS IS OF BULK AT MOST 1048576: true; the input reads as it did. -/
def shardsNamesUptoRow : OpenClaim := { program := "ythlnnclpfgokjaa", sum := "8041403931fc44f9a06404df0fd88631fe3b0b4078f901e7c3e5493db78ab26c", func := "muniment/munimentlaw07.ShardsNames", spec := "shardsNames", unfollowed := true, recurses := true, apart := false, narrowed := true }
def ShardsNamesUptoSaid : Prop := shardsNamesUptoRow.holds Try.pinned (OpenSpec.upto shardsNamesSpec)

/-- 'munimentlaw07.ShardsLinear', WHERE WHAT IT READS IS OF BULK AT MOST 1048576: true; the input reads as it did. -/
def shardsLinearUptoRow : OpenClaim := { program := "ythlnnclpfgokjaa", sum := "8041403931fc44f9a06404df0fd88631fe3b0b4078f901e7c3e5493db78ab26c", func := "muniment/munimentlaw07.ShardsLinear", spec := "shardsLinear", unfollowed := true, recurses := true, apart := false, narrowed := true }
def ShardsLinearUptoSaid : Prop := shardsLinearUptoRow.holds Try.pinned (OpenSpec.upto shardsLinearSpec)

/-- 'munimentlaw07.ShardsWrong', WHERE WHAT IT READS IS OF BULK AT MOST 1048576: true; the input reads as it did. -/
def shardsWrongUptoRow : OpenClaim := { program := "ythlnnclpfgokjaa", sum := "8041403931fc44f9a06404df0fd88631fe3b0b4078f901e7c3e5493db78ab26c", func := "muniment/munimentlaw07.ShardsWrong", spec := "shardsWrong", unfollowed := true, recurses := true, apart := false, narrowed := true }
def ShardsWrongUptoSaid : Prop := shardsWrongUptoRow.holds Try.pinned (OpenSpec.upto shardsWrongSpec)

/-- 'munimentlaw07.ShardsBack', WHERE WHAT IT READS IS OF BULK AT MOST 1048576: true; the input reads as it did. -/
def shardsBackUptoRow : OpenClaim := { program := "ythlnnclpfgokjaa", sum := "8041403931fc44f9a06404df0fd88631fe3b0b4078f901e7c3e5493db78ab26c", func := "muniment/munimentlaw07.ShardsBack", spec := "shardsBack", inPlace := ["internal/abi.NoEscape", "internal/bytealg.MakeNoZero"], unfollowed := true, recurses := true, apart := false, narrowed := true }
def ShardsBackUptoSaid : Prop := shardsBackUptoRow.holds Try.pinned (OpenSpec.upto shardsBackSpec)

end Rows
end Go.Proofs.Ythlnnclpfgokjaa
