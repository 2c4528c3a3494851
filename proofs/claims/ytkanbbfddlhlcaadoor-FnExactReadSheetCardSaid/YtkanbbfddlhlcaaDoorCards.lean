/-
  DERIVED. GIVEN WITH THE SEED: THE CARDS: each row of YtkanbbfddlhlcaaDoorRows.lean that lists a variable, with what it lists TIED to the program's text (the seventh form; the later family's looks); each row that meets fmt, with fmt's text TOLD by the authors' own Lean function (tested against real Go, not proved from fmt's source: count such statements apart). THE CARD IS WHAT COUNTS. Prove the row's statement (the work); the ties are given (YtkanbbfddlhlcaaDoorTie.lean); close each card by the builder's one call (the guide's Derived/Test/ToyasCard.lean, 'card_holds'). Laid BY PROGRAM, IN A SANDBOX (cutbox-door.mjs). By AI agents, Wed Nov 11 2026. No macro, syntax, notation, axiom, sorry.
-/
import Derived.Test.YtkanbbfddlhlcaaDoorRows
import GoSem.ClaimSeven
namespace Go.Proofs.YtkanbbfddlhlcaaDoor
namespace Rows

/-- THE TIED CARD OF 'laws.FnExactReadSheet'. -/
def fnExactReadSheetCard : Claim7 := { stood := { row := fnExactReadSheetRow, standIns := [], harness := (true, "018bb80adc09c95277df475ebbadce96d0ac57364466f5ea92ee2e94edd4bd02"), looks := true }, kinds := [], alts := [], laidByText := true, laidKinds := [.data, .data, .data, .data, .sentinel, .sentinel, .pinned], laidTests := true, laidLooks := .later }
def FnExactReadSheetCardSaid : Prop := Claim7.holds Tryd.pinned (.plain (OpenSpec.ofChange fnExactReadSheetSpec)) fnExactReadSheetCard

/-- THE TIED CARD OF 'laws.FnExactUnpackPicture'. -/
def fnExactUnpackPictureCard : Claim7 := { stood := { row := fnExactUnpackPictureRow, standIns := [], harness := (true, "018bb80adc09c95277df475ebbadce96d0ac57364466f5ea92ee2e94edd4bd02"), looks := true }, kinds := [], alts := [], laidByText := true, laidKinds := [.data, .data, .data, .data, .sentinel, .sentinel, .pinned], laidTests := true, laidLooks := .later }
def FnExactUnpackPictureCardSaid : Prop := Claim7.holds Tryd.pinned (.plain (OpenSpec.ofChange fnExactUnpackPictureSpec)) fnExactUnpackPictureCard

/-- THE SECOND FORM's CARD OF 'laws.FnExactReadSheet'. -/
def fnExactReadSheetUptoCard : Claim7 := { stood := { row := fnExactReadSheetUptoRow, standIns := [], harness := (true, "018bb80adc09c95277df475ebbadce96d0ac57364466f5ea92ee2e94edd4bd02"), looks := true }, kinds := [], alts := [], laidByText := true, laidKinds := [.data, .data, .data, .data, .sentinel, .sentinel, .pinned], laidTests := true, laidLooks := .later }
def FnExactReadSheetUptoCardSaid : Prop := Claim7.holds Tryd.pinned (.plain (OpenSpec.upto fnExactReadSheetSpec)) fnExactReadSheetUptoCard

/-- THE SECOND FORM's CARD OF 'laws.FnExactUnpackPicture'. -/
def fnExactUnpackPictureUptoCard : Claim7 := { stood := { row := fnExactUnpackPictureUptoRow, standIns := [], harness := (true, "018bb80adc09c95277df475ebbadce96d0ac57364466f5ea92ee2e94edd4bd02"), looks := true }, kinds := [], alts := [], laidByText := true, laidKinds := [.data, .data, .data, .data, .sentinel, .sentinel, .pinned], laidTests := true, laidLooks := .later }
def FnExactUnpackPictureUptoCardSaid : Prop := Claim7.holds Tryd.pinned (.plain (OpenSpec.upto fnExactUnpackPictureSpec)) fnExactUnpackPictureUptoCard
end Rows
end Go.Proofs.YtkanbbfddlhlcaaDoor
