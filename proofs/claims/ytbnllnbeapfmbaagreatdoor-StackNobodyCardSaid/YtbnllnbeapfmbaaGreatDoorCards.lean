/-
  DERIVED. GIVEN WITH THE SEED: THE CARDS: each row of YtbnllnbeapfmbaaGreatDoorRows.lean that lists a variable, with what it lists TIED to the program's text (the seventh form; the later family's looks); each row that meets fmt, with fmt's text TOLD by the authors' own Lean function (tested against real Go, not proved from fmt's source: count such statements apart). THE CARD IS WHAT COUNTS. Prove the row's statement (the work); the ties are given (YtbnllnbeapfmbaaGreatDoorTie.lean); close each card by the builder's one call (the guide's Derived/Test/ToyasCard.lean, 'card_holds'). Laid BY PROGRAM, IN A SANDBOX (cutbox-door.mjs). By AI agents, Wed Nov 11 2026. No macro, syntax, notation, axiom, sorry.
-/
import Derived.Test.YtbnllnbeapfmbaaGreatDoorRows
import GoSem.ClaimSeven
namespace Go.Proofs.YtbnllnbeapfmbaaGreatDoor
namespace Rows

/-- THE TIED CARD OF 'tribunallaw24.StackNobody'. -/
def stackNobodyCard : Claim7 := { stood := { row := stackNobodyRow, standIns := [], harness := (true, "d1a09f5923c599f8b6393819bc75be5592d1bce4f349b60e4bb1e3a18b56a92d"), looks := true }, kinds := [], alts := [], laidByText := true, laidKinds := [.pinned, .data, .pinned, .data, .data, .data, .data, .listed], laidTests := true, laidLooks := .later }
def StackNobodyCardSaid : Prop := Claim7.holds Tryz.pinned (.plain (OpenSpec.ofChange stackNobodySpec)) stackNobodyCard

/-- THE SECOND FORM's CARD OF 'tribunallaw24.StackNobody'. -/
def stackNobodyUptoCard : Claim7 := { stood := { row := stackNobodyUptoRow, standIns := [], harness := (true, "d1a09f5923c599f8b6393819bc75be5592d1bce4f349b60e4bb1e3a18b56a92d"), looks := true }, kinds := [], alts := [], laidByText := true, laidKinds := [.pinned, .data, .pinned, .data, .data, .data, .data, .listed], laidTests := true, laidLooks := .later }
def StackNobodyUptoCardSaid : Prop := Claim7.holds Tryz.pinned (.plain (OpenSpec.upto stackNobodySpec)) stackNobodyUptoCard
end Rows
end Go.Proofs.YtbnllnbeapfmbaaGreatDoor
