/-
  DERIVED. GIVEN WITH THE SEED: THE CARDS: each row of YtkanbbfddlhlcaaGreatDoorRows.lean that lists a variable, with what it lists TIED to the program's text (the seventh form; the later family's looks); each row that meets fmt, with fmt's text TOLD by the authors' own Lean function (tested against real Go, not proved from fmt's source: count such statements apart). THE CARD IS WHAT COUNTS. Prove the row's statement (the work); the ties are given (YtkanbbfddlhlcaaGreatDoorTie.lean); close each card by the builder's one call (the guide's Derived/Test/ToyasCard.lean, 'card_holds'). Laid BY PROGRAM, IN A SANDBOX (cutbox-door.mjs). By AI agents, Wed Nov 11 2026. No macro, syntax, notation, axiom, sorry.
-/
import Derived.Test.YtkanbbfddlhlcaaGreatDoorRows
import GoSem.ClaimSeven
namespace Go.Proofs.YtkanbbfddlhlcaaGreatDoor
namespace Rows

/-- THE TIED CARD OF 'laws.FnExactReadStack'. -/
def fnExactReadStackCard : Claim7 := { stood := { row := fnExactReadStackRow, standIns := [], harness := (true, "77daae5b3308ad26d49db1691c93a0d51e2d47625fee5e5997bc62efbd7c5468"), looks := true }, kinds := [], alts := [], laidByText := true, laidKinds := [.data, .data, .data, .data, .sentinel, .sentinel, .pinned], laidTests := true, laidLooks := .later }
def FnExactReadStackCardSaid : Prop := Claim7.holds Tryz.pinned (.plain (OpenSpec.ofChange fnExactReadStackSpec)) fnExactReadStackCard

/-- THE SECOND FORM's CARD OF 'laws.FnExactReadStack'. -/
def fnExactReadStackUptoCard : Claim7 := { stood := { row := fnExactReadStackUptoRow, standIns := [], harness := (true, "77daae5b3308ad26d49db1691c93a0d51e2d47625fee5e5997bc62efbd7c5468"), looks := true }, kinds := [], alts := [], laidByText := true, laidKinds := [.data, .data, .data, .data, .sentinel, .sentinel, .pinned], laidTests := true, laidLooks := .later }
def FnExactReadStackUptoCardSaid : Prop := Claim7.holds Tryz.pinned (.plain (OpenSpec.upto fnExactReadStackSpec)) fnExactReadStackUptoCard
end Rows
end Go.Proofs.YtkanbbfddlhlcaaGreatDoor
