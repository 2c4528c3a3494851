/-
  DERIVED. GIVEN WITH THE SEED: THE CARDS: each row of YtlkcpmbpfcfeaaaDoorRows.lean that lists a variable, with what it lists TIED to the program's text (the seventh form; the later family's looks); each row that meets fmt, with fmt's text TOLD by the authors' own Lean function (tested against real Go, not proved from fmt's source: count such statements apart). THE CARD IS WHAT COUNTS. Prove the row's statement (the work); the ties are given (YtlkcpmbpfcfeaaaDoorTie.lean); close each card by the builder's one call (the guide's Derived/Test/ToyasCard.lean, 'card_holds'). Laid BY PROGRAM, IN A SANDBOX (cutbox-door.mjs). By AI agents, Wed Nov 11 2026. No macro, syntax, notation, axiom, sorry.
-/
import Derived.Test.YtlkcpmbpfcfeaaaDoorRows
import GoSem.ClaimSeven
namespace Go.Proofs.YtlkcpmbpfcfeaaaDoor
namespace Rows

/-- THE TIED CARD OF 'laws.FnExactReadPicture'. -/
def fnExactReadPictureCard : Claim7 := { stood := { row := fnExactReadPictureRow, standIns := [], harness := (true, "1c9c16451cbf8f318b9cc6171df20701b262979d34a41b50eeb96eac7fc93096"), looks := false }, kinds := [], alts := [], laidByText := true, laidKinds := [.data, .pinned], laidTests := true, laidLooks := .later }
def FnExactReadPictureCardSaid : Prop := Claim7.holds Tryd.pinned (.plain (OpenSpec.ofChange fnExactReadPictureSpec)) fnExactReadPictureCard

/-- THE SECOND FORM's CARD OF 'laws.FnExactReadPicture'. -/
def fnExactReadPictureUptoCard : Claim7 := { stood := { row := fnExactReadPictureUptoRow, standIns := [], harness := (true, "1c9c16451cbf8f318b9cc6171df20701b262979d34a41b50eeb96eac7fc93096"), looks := false }, kinds := [], alts := [], laidByText := true, laidKinds := [.data, .pinned], laidTests := true, laidLooks := .later }
def FnExactReadPictureUptoCardSaid : Prop := Claim7.holds Tryd.pinned (.plain (OpenSpec.upto fnExactReadPictureSpec)) fnExactReadPictureUptoCard
end Rows
end Go.Proofs.YtlkcpmbpfcfeaaaDoor
