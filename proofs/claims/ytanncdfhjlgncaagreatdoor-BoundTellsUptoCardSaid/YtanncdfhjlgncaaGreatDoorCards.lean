/-
  DERIVED. GIVEN WITH THE SEED: THE CARDS: each row of YtanncdfhjlgncaaGreatDoorRows.lean that lists a variable, with what it lists TIED to the program's text (the seventh form; the later family's looks); each row that meets fmt, with fmt's text TOLD by the authors' own Lean function (tested against real Go, not proved from fmt's source: count such statements apart). THE CARD IS WHAT COUNTS. Prove the row's statement (the work); the ties are given (YtanncdfhjlgncaaGreatDoorTie.lean); close each card by the builder's one call (the guide's Derived/Test/ToyasCard.lean, 'card_holds'). Laid BY PROGRAM, IN A SANDBOX (cutbox-door.mjs). By AI agents, Wed Nov 11 2026. No macro, syntax, notation, axiom, sorry.
-/
import Derived.Test.YtanncdfhjlgncaaGreatDoorRows
import GoSem.ClaimSeven
namespace Go.Proofs.YtanncdfhjlgncaaGreatDoor
namespace Rows

/-- THE TIED CARD OF 'muntinlaw21.BoundTells'. -/
def boundTellsCard : Claim7 := { stood := { row := boundTellsRow, standIns := [], harness := (true, "956c273bbe37a63d59d995e5feca15f348e18c67fe16bfaf7a3d06160a04e922"), looks := true }, kinds := [], alts := [], laidByText := true, laidKinds := [.data, .data, .data], laidTests := true, laidLooks := .later }
def BoundTellsCardSaid : Prop := Claim7.holds Tryz.pinned (.plain (OpenSpec.ofChange boundTellsSpec)) boundTellsCard

/-- THE SECOND FORM's CARD OF 'muntinlaw21.BoundTells'. -/
def boundTellsUptoCard : Claim7 := { stood := { row := boundTellsUptoRow, standIns := [], harness := (true, "956c273bbe37a63d59d995e5feca15f348e18c67fe16bfaf7a3d06160a04e922"), looks := true }, kinds := [], alts := [], laidByText := true, laidKinds := [.data, .data, .data], laidTests := true, laidLooks := .later }
def BoundTellsUptoCardSaid : Prop := Claim7.holds Tryz.pinned (.plain (OpenSpec.upto boundTellsSpec)) boundTellsUptoCard
end Rows
end Go.Proofs.YtanncdfhjlgncaaGreatDoor
