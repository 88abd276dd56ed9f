/-
  DERIVED. GIVEN WITH THE SEED: THE CARDS: each row of YtpfccicahfncbaaDoorRows.lean that lists a variable, with what it lists TIED to the program's text (the seventh form; the later family's looks); each row that meets fmt, with fmt's text TOLD by the authors' own Lean function (tested against real Go, not proved from fmt's source: count such statements apart). THE CARD IS WHAT COUNTS. Prove the row's statement (the work); the ties are given (YtpfccicahfncbaaDoorTie.lean); close each card by the builder's one call (the guide's Derived/Test/ToyasCard.lean, 'card_holds'). Laid BY PROGRAM, IN A SANDBOX (cutbox-door.mjs). By AI agents, Wed Nov 11 2026. No macro, syntax, notation, axiom, sorry.
-/
import Derived.Test.YtpfccicahfncbaaDoorRows
import GoSem.ClaimSeven
namespace Go.Proofs.YtpfccicahfncbaaDoor
namespace Rows

/-- THE TIED CARD OF 'munimentlaw10.AttrsMany'. -/
def attrsManyCard : Claim7 := { stood := { row := attrsManyRow, standIns := [], harness := (true, "28e984ed910e6fcd57f1f0216809eff85c75d8999cc92c837951fd0c58a3a932"), looks := false }, kinds := [], alts := [], laidByText := true, laidKinds := [.data, .pinned], laidTests := true, laidLooks := .later }
def AttrsManyCardSaid : Prop := Claim7.holds Tryd.pinned (.plain (OpenSpec.ofChange attrsManySpec)) attrsManyCard

/-- THE TIED CARD OF 'munimentlaw10.AttrsOne'. -/
def attrsOneCard : Claim7 := { stood := { row := attrsOneRow, standIns := [], harness := (true, "28e984ed910e6fcd57f1f0216809eff85c75d8999cc92c837951fd0c58a3a932"), looks := false }, kinds := [], alts := [], laidByText := true, laidKinds := [.data, .pinned, .pinned], laidTests := true, laidLooks := .later }
def AttrsOneCardSaid : Prop := Claim7.holds Tryd.pinned (.plain (OpenSpec.ofChange attrsOneSpec)) attrsOneCard

/-- THE TIED CARD OF 'munimentlaw10.AttrsNone'. -/
def attrsNoneCard : Claim7 := { stood := { row := attrsNoneRow, standIns := [], harness := (true, "28e984ed910e6fcd57f1f0216809eff85c75d8999cc92c837951fd0c58a3a932"), looks := false }, kinds := [], alts := [], laidByText := true, laidKinds := [.data, .pinned, .pinned], laidTests := true, laidLooks := .later }
def AttrsNoneCardSaid : Prop := Claim7.holds Tryd.pinned (.plain (OpenSpec.ofChange attrsNoneSpec)) attrsNoneCard

/-- THE SECOND FORM's CARD OF 'munimentlaw10.AttrsMany'. -/
def attrsManyUptoCard : Claim7 := { stood := { row := attrsManyUptoRow, standIns := [], harness := (true, "28e984ed910e6fcd57f1f0216809eff85c75d8999cc92c837951fd0c58a3a932"), looks := false }, kinds := [], alts := [], laidByText := true, laidKinds := [.data, .pinned], laidTests := true, laidLooks := .later }
def AttrsManyUptoCardSaid : Prop := Claim7.holds Tryd.pinned (.plain (OpenSpec.upto attrsManySpec)) attrsManyUptoCard

/-- THE SECOND FORM's CARD OF 'munimentlaw10.AttrsOne'. -/
def attrsOneUptoCard : Claim7 := { stood := { row := attrsOneUptoRow, standIns := [], harness := (true, "28e984ed910e6fcd57f1f0216809eff85c75d8999cc92c837951fd0c58a3a932"), looks := false }, kinds := [], alts := [], laidByText := true, laidKinds := [.data, .pinned, .pinned], laidTests := true, laidLooks := .later }
def AttrsOneUptoCardSaid : Prop := Claim7.holds Tryd.pinned (.plain (OpenSpec.upto attrsOneSpec)) attrsOneUptoCard

/-- THE SECOND FORM's CARD OF 'munimentlaw10.AttrsNone'. -/
def attrsNoneUptoCard : Claim7 := { stood := { row := attrsNoneUptoRow, standIns := [], harness := (true, "28e984ed910e6fcd57f1f0216809eff85c75d8999cc92c837951fd0c58a3a932"), looks := false }, kinds := [], alts := [], laidByText := true, laidKinds := [.data, .pinned, .pinned], laidTests := true, laidLooks := .later }
def AttrsNoneUptoCardSaid : Prop := Claim7.holds Tryd.pinned (.plain (OpenSpec.upto attrsNoneSpec)) attrsNoneUptoCard
end Rows
end Go.Proofs.YtpfccicahfncbaaDoor
