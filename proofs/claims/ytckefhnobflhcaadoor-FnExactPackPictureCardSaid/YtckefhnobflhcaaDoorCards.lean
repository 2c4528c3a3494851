/-
  DERIVED. GIVEN WITH THE SEED: THE CARDS: each row of YtckefhnobflhcaaDoorRows.lean that lists a variable, with what it lists TIED to the program's text (the seventh form; the later family's looks); each row that meets fmt, with fmt's text TOLD by the authors' own Lean function (tested against real Go, not proved from fmt's source: count such statements apart). THE CARD IS WHAT COUNTS. Prove the row's statement (the work); the ties are given (YtckefhnobflhcaaDoorTie.lean); close each card by the builder's one call (the guide's Derived/Test/ToyasCard.lean, 'card_holds'). Laid BY PROGRAM, IN A SANDBOX (cutbox-door.mjs). By AI agents, Wed Nov 11 2026. No macro, syntax, notation, axiom, sorry.
-/
import Derived.Test.YtckefhnobflhcaaDoorRows
import GoSem.ClaimSeven
namespace Go.Proofs.YtckefhnobflhcaaDoor
namespace Rows

/-- THE TIED CARD OF 'laws.FnExactSheetText'. -/
def fnExactSheetTextCard : Claim7 := { stood := { row := fnExactSheetTextRow, standIns := [], harness := (true, "613a4f8439074ec989f2d854cfd8215be1492a9298b3c3afbd3b43221940a90a"), looks := false }, kinds := [], alts := [], laidByText := true, laidKinds := [.data, .data, .data], laidTests := true, laidLooks := .later }
def FnExactSheetTextCardSaid : Prop := Claim7.holds Tryd.pinned (.plain (OpenSpec.ofChange fnExactSheetTextSpec)) fnExactSheetTextCard

/-- THE TIED CARD OF 'laws.FnExactPackPicture'. -/
def fnExactPackPictureCard : Claim7 := { stood := { row := fnExactPackPictureRow, standIns := [], harness := (true, "613a4f8439074ec989f2d854cfd8215be1492a9298b3c3afbd3b43221940a90a"), looks := false }, kinds := [], alts := [], laidByText := true, laidKinds := [.data, .data, .data, .data, .pinned], laidTests := true, laidLooks := .later }
def FnExactPackPictureCardSaid : Prop := Claim7.holds Tryd.pinned (.plain (OpenSpec.ofChange fnExactPackPictureSpec)) fnExactPackPictureCard

/-- THE TIED CARD OF 'laws.FnExactStackText'. -/
def fnExactStackTextCard : Claim7 := { stood := { row := fnExactStackTextRow, standIns := [], harness := (true, "613a4f8439074ec989f2d854cfd8215be1492a9298b3c3afbd3b43221940a90a"), looks := false }, kinds := [], alts := [], laidByText := true, laidKinds := [.data, .data, .data], laidTests := true, laidLooks := .later }
def FnExactStackTextCardSaid : Prop := Claim7.holds Tryd.pinned (.plain (OpenSpec.ofChange fnExactStackTextSpec)) fnExactStackTextCard

/-- THE SECOND FORM's CARD OF 'laws.FnExactSheetText'. -/
def fnExactSheetTextUptoCard : Claim7 := { stood := { row := fnExactSheetTextUptoRow, standIns := [], harness := (true, "613a4f8439074ec989f2d854cfd8215be1492a9298b3c3afbd3b43221940a90a"), looks := false }, kinds := [], alts := [], laidByText := true, laidKinds := [.data, .data, .data], laidTests := true, laidLooks := .later }
def FnExactSheetTextUptoCardSaid : Prop := Claim7.holds Tryd.pinned (.plain (OpenSpec.upto fnExactSheetTextSpec)) fnExactSheetTextUptoCard

/-- THE SECOND FORM's CARD OF 'laws.FnExactPackPicture'. -/
def fnExactPackPictureUptoCard : Claim7 := { stood := { row := fnExactPackPictureUptoRow, standIns := [], harness := (true, "613a4f8439074ec989f2d854cfd8215be1492a9298b3c3afbd3b43221940a90a"), looks := false }, kinds := [], alts := [], laidByText := true, laidKinds := [.data, .data, .data, .data, .pinned], laidTests := true, laidLooks := .later }
def FnExactPackPictureUptoCardSaid : Prop := Claim7.holds Tryd.pinned (.plain (OpenSpec.upto fnExactPackPictureSpec)) fnExactPackPictureUptoCard

/-- THE SECOND FORM's CARD OF 'laws.FnExactStackText'. -/
def fnExactStackTextUptoCard : Claim7 := { stood := { row := fnExactStackTextUptoRow, standIns := [], harness := (true, "613a4f8439074ec989f2d854cfd8215be1492a9298b3c3afbd3b43221940a90a"), looks := false }, kinds := [], alts := [], laidByText := true, laidKinds := [.data, .data, .data], laidTests := true, laidLooks := .later }
def FnExactStackTextUptoCardSaid : Prop := Claim7.holds Tryd.pinned (.plain (OpenSpec.upto fnExactStackTextSpec)) fnExactStackTextUptoCard
end Rows
end Go.Proofs.YtckefhnobflhcaaDoor
