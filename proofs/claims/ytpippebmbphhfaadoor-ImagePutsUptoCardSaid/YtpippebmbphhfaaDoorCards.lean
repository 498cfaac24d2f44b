/-
  DERIVED. GIVEN WITH THE SEED: THE CARDS: each row of YtpippebmbphhfaaDoorRows.lean that lists a variable, with what it lists TIED to the program's text (the seventh form; the later family's looks); each row that meets fmt, with fmt's text TOLD by the authors' own Lean function (tested against real Go, not proved from fmt's source: count such statements apart). THE CARD IS WHAT COUNTS. Prove the row's statement (the work); the ties are given (YtpippebmbphhfaaDoorTie.lean); close each card by the builder's one call (the guide's Derived/Test/ToyasCard.lean, 'card_holds'). Laid BY PROGRAM, IN A SANDBOX (cutbox-door.mjs). By AI agents, Wed Nov 11 2026. No macro, syntax, notation, axiom, sorry.
-/
import Derived.Test.YtpippebmbphhfaaDoorRows
import GoSem.ClaimSeven
namespace Go.Proofs.YtpippebmbphhfaaDoor
namespace Rows

/-- THE TIED CARD OF 'muntinlaw31.ImageGets'. -/
def imageGetsCard : Claim7 := { stood := { row := imageGetsRow, standIns := [], harness := (true, "5bce4c2df1a44f45e30840488346dca1c0e83a9168f98d6b33bfabdee0d84b17"), looks := false }, kinds := [], alts := [], laidByText := true, laidKinds := [.data, .data, .data, .data, .data, .pinned], laidTests := true, laidLooks := .later }
def ImageGetsCardSaid : Prop := Claim7.holds Tryd.pinned (.plain (OpenSpec.ofChange imageGetsSpec)) imageGetsCard

/-- THE TIED CARD OF 'muntinlaw31.ImageReads'. -/
def imageReadsCard : Claim7 := { stood := { row := imageReadsRow, standIns := [], harness := (true, "5bce4c2df1a44f45e30840488346dca1c0e83a9168f98d6b33bfabdee0d84b17"), looks := false }, kinds := [], alts := [], laidByText := true, laidKinds := [.data, .data, .data, .data, .data, .pinned], laidTests := true, laidLooks := .later }
def ImageReadsCardSaid : Prop := Claim7.holds Tryd.pinned (.plain (OpenSpec.ofChange imageReadsSpec)) imageReadsCard

/-- THE TIED CARD OF 'muntinlaw31.ImageTurned'. -/
def imageTurnedCard : Claim7 := { stood := { row := imageTurnedRow, standIns := [], harness := (true, "5bce4c2df1a44f45e30840488346dca1c0e83a9168f98d6b33bfabdee0d84b17"), looks := false }, kinds := [], alts := [], laidByText := true, laidKinds := [.data, .data, .data, .data, .data, .pinned], laidTests := true, laidLooks := .later }
def ImageTurnedCardSaid : Prop := Claim7.holds Tryd.pinned (.plain (OpenSpec.ofChange imageTurnedSpec)) imageTurnedCard

/-- THE TIED CARD OF 'muntinlaw31.ImagePuts'. -/
def imagePutsCard : Claim7 := { stood := { row := imagePutsRow, standIns := [], harness := (true, "5bce4c2df1a44f45e30840488346dca1c0e83a9168f98d6b33bfabdee0d84b17"), looks := false }, kinds := [], alts := [], laidByText := true, laidKinds := [.data, .data, .data, .data, .data, .pinned], laidTests := true, laidLooks := .later }
def ImagePutsCardSaid : Prop := Claim7.holds Tryd.pinned (.plain (OpenSpec.ofChange imagePutsSpec)) imagePutsCard

/-- THE SECOND FORM's CARD OF 'muntinlaw31.ImageGets'. -/
def imageGetsUptoCard : Claim7 := { stood := { row := imageGetsUptoRow, standIns := [], harness := (true, "5bce4c2df1a44f45e30840488346dca1c0e83a9168f98d6b33bfabdee0d84b17"), looks := false }, kinds := [], alts := [], laidByText := true, laidKinds := [.data, .data, .data, .data, .data, .pinned], laidTests := true, laidLooks := .later }
def ImageGetsUptoCardSaid : Prop := Claim7.holds Tryd.pinned (.plain (OpenSpec.upto imageGetsSpec)) imageGetsUptoCard

/-- THE SECOND FORM's CARD OF 'muntinlaw31.ImageReads'. -/
def imageReadsUptoCard : Claim7 := { stood := { row := imageReadsUptoRow, standIns := [], harness := (true, "5bce4c2df1a44f45e30840488346dca1c0e83a9168f98d6b33bfabdee0d84b17"), looks := false }, kinds := [], alts := [], laidByText := true, laidKinds := [.data, .data, .data, .data, .data, .pinned], laidTests := true, laidLooks := .later }
def ImageReadsUptoCardSaid : Prop := Claim7.holds Tryd.pinned (.plain (OpenSpec.upto imageReadsSpec)) imageReadsUptoCard

/-- THE SECOND FORM's CARD OF 'muntinlaw31.ImageTurned'. -/
def imageTurnedUptoCard : Claim7 := { stood := { row := imageTurnedUptoRow, standIns := [], harness := (true, "5bce4c2df1a44f45e30840488346dca1c0e83a9168f98d6b33bfabdee0d84b17"), looks := false }, kinds := [], alts := [], laidByText := true, laidKinds := [.data, .data, .data, .data, .data, .pinned], laidTests := true, laidLooks := .later }
def ImageTurnedUptoCardSaid : Prop := Claim7.holds Tryd.pinned (.plain (OpenSpec.upto imageTurnedSpec)) imageTurnedUptoCard

/-- THE SECOND FORM's CARD OF 'muntinlaw31.ImagePuts'. -/
def imagePutsUptoCard : Claim7 := { stood := { row := imagePutsUptoRow, standIns := [], harness := (true, "5bce4c2df1a44f45e30840488346dca1c0e83a9168f98d6b33bfabdee0d84b17"), looks := false }, kinds := [], alts := [], laidByText := true, laidKinds := [.data, .data, .data, .data, .data, .pinned], laidTests := true, laidLooks := .later }
def ImagePutsUptoCardSaid : Prop := Claim7.holds Tryd.pinned (.plain (OpenSpec.upto imagePutsSpec)) imagePutsUptoCard
end Rows
end Go.Proofs.YtpippebmbphhfaaDoor
