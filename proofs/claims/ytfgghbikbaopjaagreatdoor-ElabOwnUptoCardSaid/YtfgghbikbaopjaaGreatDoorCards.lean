/-
  DERIVED. GIVEN WITH THE SEED: THE CARDS: each row of YtfgghbikbaopjaaGreatDoorRows.lean that lists a variable, with what it lists TIED to the program's text (the seventh form; the later family's looks); each row that meets fmt, with fmt's text TOLD by the authors' own Lean function (tested against real Go, not proved from fmt's source: count such statements apart). THE CARD IS WHAT COUNTS. Prove the row's statement (the work); the ties are given (YtfgghbikbaopjaaGreatDoorTie.lean); close each card by the builder's one call (the guide's Derived/Test/ToyasCard.lean, 'card_holds'). Laid BY PROGRAM, IN A SANDBOX (cutbox-door.mjs). By AI agents, Wed Nov 11 2026. No macro, syntax, notation, axiom, sorry.
-/
import Derived.Test.YtfgghbikbaopjaaGreatDoorRows
import GoSem.ClaimSeven
namespace Go.Proofs.YtfgghbikbaopjaaGreatDoor
namespace Rows

/-- THE TIED CARD OF 'tribunallaw08.ElabOwn'. -/
def elabOwnCard : Claim7 := { stood := { row := elabOwnRow, standIns := [], harness := (true, "5eb932d640fb09bbdb294dbfe636880b2e5fe5907ddbbb94e8ba69101b7528b5"), looks := true }, kinds := [], alts := [], laidByText := true, laidKinds := [.data, .data, .data, .data, .listed, .data, .pinned, .pinned], laidTests := true, laidLooks := .later }
def ElabOwnCardSaid : Prop := Claim7.holds Tryz.pinned (.plain (OpenSpec.ofChange elabOwnSpec)) elabOwnCard

/-- THE TIED CARD OF 'tribunallaw08.ElabBack'. -/
def elabBackCard : Claim7 := { stood := { row := elabBackRow, standIns := [], harness := (true, "5eb932d640fb09bbdb294dbfe636880b2e5fe5907ddbbb94e8ba69101b7528b5"), looks := true }, kinds := [], alts := [], laidByText := true, laidKinds := [.data, .data, .data, .data, .listed, .data, .pinned, .pinned], laidTests := true, laidLooks := .later }
def ElabBackCardSaid : Prop := Claim7.holds Tryz.pinned (.plain (OpenSpec.ofChange elabBackSpec)) elabBackCard

/-- THE TIED CARD OF 'tribunallaw08.ElabNobody'. -/
def elabNobodyCard : Claim7 := { stood := { row := elabNobodyRow, standIns := [], harness := (true, "5eb932d640fb09bbdb294dbfe636880b2e5fe5907ddbbb94e8ba69101b7528b5"), looks := true }, kinds := [], alts := [], laidByText := true, laidKinds := [.data, .data, .data, .data, .listed, .data, .pinned, .pinned], laidTests := true, laidLooks := .later }
def ElabNobodyCardSaid : Prop := Claim7.holds Tryz.pinned (.plain (OpenSpec.ofChange elabNobodySpec)) elabNobodyCard

/-- THE SECOND FORM's CARD OF 'tribunallaw08.ElabOwn'. -/
def elabOwnUptoCard : Claim7 := { stood := { row := elabOwnUptoRow, standIns := [], harness := (true, "5eb932d640fb09bbdb294dbfe636880b2e5fe5907ddbbb94e8ba69101b7528b5"), looks := true }, kinds := [], alts := [], laidByText := true, laidKinds := [.data, .data, .data, .data, .listed, .data, .pinned, .pinned], laidTests := true, laidLooks := .later }
def ElabOwnUptoCardSaid : Prop := Claim7.holds Tryz.pinned (.plain (OpenSpec.upto elabOwnSpec)) elabOwnUptoCard

/-- THE SECOND FORM's CARD OF 'tribunallaw08.ElabBack'. -/
def elabBackUptoCard : Claim7 := { stood := { row := elabBackUptoRow, standIns := [], harness := (true, "5eb932d640fb09bbdb294dbfe636880b2e5fe5907ddbbb94e8ba69101b7528b5"), looks := true }, kinds := [], alts := [], laidByText := true, laidKinds := [.data, .data, .data, .data, .listed, .data, .pinned, .pinned], laidTests := true, laidLooks := .later }
def ElabBackUptoCardSaid : Prop := Claim7.holds Tryz.pinned (.plain (OpenSpec.upto elabBackSpec)) elabBackUptoCard

/-- THE SECOND FORM's CARD OF 'tribunallaw08.ElabNobody'. -/
def elabNobodyUptoCard : Claim7 := { stood := { row := elabNobodyUptoRow, standIns := [], harness := (true, "5eb932d640fb09bbdb294dbfe636880b2e5fe5907ddbbb94e8ba69101b7528b5"), looks := true }, kinds := [], alts := [], laidByText := true, laidKinds := [.data, .data, .data, .data, .listed, .data, .pinned, .pinned], laidTests := true, laidLooks := .later }
def ElabNobodyUptoCardSaid : Prop := Claim7.holds Tryz.pinned (.plain (OpenSpec.upto elabNobodySpec)) elabNobodyUptoCard
end Rows
end Go.Proofs.YtfgghbikbaopjaaGreatDoor
