/-
  DERIVED. GIVEN WITH THE SEED: THE CARDS: each row of YteeekjidkjdpjaaDoorRows.lean that lists a variable, with what it lists TIED to the program's text (the seventh form; the later family's looks); each row that meets fmt, with fmt's text TOLD by the authors' own Lean function (tested against real Go, not proved from fmt's source: count such statements apart). THE CARD IS WHAT COUNTS. Prove the row's statement (the work); the ties are given (YteeekjidkjdpjaaDoorTie.lean); close each card by the builder's one call (the guide's Derived/Test/ToyasCard.lean, 'card_holds'). Laid BY PROGRAM, IN A SANDBOX (cutbox-door.mjs). By AI agents, Wed Nov 11 2026. No macro, syntax, notation, axiom, sorry.
-/
import Derived.Test.YteeekjidkjdpjaaDoorRows
import GoSem.ClaimSeven
namespace Go.Proofs.YteeekjidkjdpjaaDoor
namespace Rows

/-- THE TIED CARD OF 'muntinlaw21.BoundKept'. -/
def boundKeptCard : Claim7 := { stood := { row := boundKeptRow, standIns := [], harness := (true, "eeb4d7be38fe4ee54357ef9e1e113e489f19210dd4de860ddcf602dc0d3f1ce6"), looks := true }, kinds := [], alts := [], laidByText := true, laidKinds := [.data, .data, .data], laidTests := true, laidLooks := .later }
def BoundKeptCardSaid : Prop := Claim7.holds Tryd.pinned (.plain (OpenSpec.ofChange boundKeptSpec)) boundKeptCard

/-- THE TIED CARD OF 'muntinlaw21.BoundHints'. -/
def boundHintsCard : Claim7 := { stood := { row := boundHintsRow, standIns := [], harness := (true, "eeb4d7be38fe4ee54357ef9e1e113e489f19210dd4de860ddcf602dc0d3f1ce6"), looks := true }, kinds := [], alts := [], laidByText := true, laidKinds := [.data, .data, .data], laidTests := true, laidLooks := .later }
def BoundHintsCardSaid : Prop := Claim7.holds Tryd.pinned (.plain (OpenSpec.ofChange boundHintsSpec)) boundHintsCard

/-- THE SECOND FORM's CARD OF 'muntinlaw21.BoundKept'. -/
def boundKeptUptoCard : Claim7 := { stood := { row := boundKeptUptoRow, standIns := [], harness := (true, "eeb4d7be38fe4ee54357ef9e1e113e489f19210dd4de860ddcf602dc0d3f1ce6"), looks := true }, kinds := [], alts := [], laidByText := true, laidKinds := [.data, .data, .data], laidTests := true, laidLooks := .later }
def BoundKeptUptoCardSaid : Prop := Claim7.holds Tryd.pinned (.plain (OpenSpec.upto boundKeptSpec)) boundKeptUptoCard

/-- THE SECOND FORM's CARD OF 'muntinlaw21.BoundHints'. -/
def boundHintsUptoCard : Claim7 := { stood := { row := boundHintsUptoRow, standIns := [], harness := (true, "eeb4d7be38fe4ee54357ef9e1e113e489f19210dd4de860ddcf602dc0d3f1ce6"), looks := true }, kinds := [], alts := [], laidByText := true, laidKinds := [.data, .data, .data], laidTests := true, laidLooks := .later }
def BoundHintsUptoCardSaid : Prop := Claim7.holds Tryd.pinned (.plain (OpenSpec.upto boundHintsSpec)) boundHintsUptoCard
end Rows
end Go.Proofs.YteeekjidkjdpjaaDoor
