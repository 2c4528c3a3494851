/-
  No cell of these rows narrows 'for every input' (looked for: loops, veiled, ifaces, maps, wideKeys, modest, calm, conditions, laid).
  DERIVED. THE GIVEN ROWS OF THIS SEAT. 3 by the template 'for every input the law returns true; each argument reads behind the call as it read before'; 0 by the template 'total and deterministic' (their statements: YtfelopllfhcdpaaGreatTotals.lean).
  GIVEN WITH THE SEED: the statements are not yours to turn. If you find one false, say at which input.
  Laid BY PROGRAM, IN A SANDBOX (cutbox-rows.mjs): the forced cells as the released guide's own fill.sh prints them over the translation d736c818cd2475d3… (all of the seat's roots in one cut). By AI agents, Wed Nov 11 2026. No macro, syntax, notation, axiom, sorry.
-/
import Derived.Test.YtfelopllfhcdpaaGreatChecked
import GoSem.Claim
import GoSem.ClaimJoined
import GoSem.ClaimMapViews
import Derived.JoinedTies
import Derived.KernelRfl
namespace Go.Proofs.YtfelopllfhcdpaaGreat
/- THE CELL 'sum', in the pinned program and in every row, IS THE sha256 OF THE DUMP (.gsa) THAT YtfelopllfhcdpaaGreatProg.lean LOADS. Nothing in Lean hashes anything: it is a label: what it is worth is what the hold of that sum in a sandbox is worth. -/
noncomputable def Tryz.pinned : Pinned := { name := "ytfelopllfhcdpaagreat", sum := "d736c818cd2475d3bad56bac073035dd1f5d2bdcf6cd24dd1ab08d6c95047af5", checked := Tryz.checked }
namespace Rows
def none {H : Type} : Left H := { results := [], args := [] }

/-- 'laws.FnExactLeastForerunner': WHATEVER THE INPUT: true; the input reads as it did. -/
def fnExactLeastForerunnerSpec : ChangeSpec := { name := "fnExactLeastForerunner", fn := fun _ => fun
  | [d1, d2] => { results := [.lit (.bool true)], args := [d1, d2] }
  | _ => none }
def fnExactLeastForerunnerRow : OpenClaim := { program := "ytfelopllfhcdpaagreat", sum := "d736c818cd2475d3bad56bac073035dd1f5d2bdcf6cd24dd1ab08d6c95047af5", func := "loop.example/g01360/laws.FnExactLeastForerunner", spec := "fnExactLeastForerunner", unfollowed := true, recurses := true, apart := false }
def FnExactLeastForerunnerSaid : Prop := fnExactLeastForerunnerRow.holds Tryz.pinned (OpenSpec.ofChange fnExactLeastForerunnerSpec)

/-- ITS FALSE NEIGHBOUR: 'it returns false'. Refute it at one input. -/
def fnExactLeastForerunnerWrong : ChangeSpec := { name := "fnExactLeastForerunner", fn := fun _ => fun
  | [d1, d2] => { results := [.lit (.bool false)], args := [d1, d2] }
  | _ => none }
def FnExactLeastForerunnerWrongFalsely : Prop := fnExactLeastForerunnerRow.holds Tryz.pinned (OpenSpec.ofChange fnExactLeastForerunnerWrong)

/-- 'laws.FnExactForerunners': WHATEVER THE INPUT: true; the input reads as it did. -/
def fnExactForerunnersSpec : ChangeSpec := { name := "fnExactForerunners", fn := fun _ => fun
  | [d1, d2] => { results := [.lit (.bool true)], args := [d1, d2] }
  | _ => none }
def fnExactForerunnersRow : OpenClaim := { program := "ytfelopllfhcdpaagreat", sum := "d736c818cd2475d3bad56bac073035dd1f5d2bdcf6cd24dd1ab08d6c95047af5", func := "loop.example/g01360/laws.FnExactForerunners", spec := "fnExactForerunners", unfollowed := true, recurses := true, apart := false }
def FnExactForerunnersSaid : Prop := fnExactForerunnersRow.holds Tryz.pinned (OpenSpec.ofChange fnExactForerunnersSpec)

/-- ITS FALSE NEIGHBOUR: 'it returns false'. Refute it at one input. -/
def fnExactForerunnersWrong : ChangeSpec := { name := "fnExactForerunners", fn := fun _ => fun
  | [d1, d2] => { results := [.lit (.bool false)], args := [d1, d2] }
  | _ => none }
def FnExactForerunnersWrongFalsely : Prop := fnExactForerunnersRow.holds Tryz.pinned (OpenSpec.ofChange fnExactForerunnersWrong)

/-- 'laws.FnForerunners': WHATEVER THE INPUT: true; the input reads as it did. -/
def fnForerunnersSpec : ChangeSpec := { name := "fnForerunners", fn := fun _ => fun
  | [d1, d2] => { results := [.lit (.bool true)], args := [d1, d2] }
  | _ => none }
def fnForerunnersRow : OpenClaim := { program := "ytfelopllfhcdpaagreat", sum := "d736c818cd2475d3bad56bac073035dd1f5d2bdcf6cd24dd1ab08d6c95047af5", func := "loop.example/g01360/laws.FnForerunners", spec := "fnForerunners", unfollowed := true, recurses := true, apart := false }
def FnForerunnersSaid : Prop := fnForerunnersRow.holds Tryz.pinned (OpenSpec.ofChange fnForerunnersSpec)

/-- ITS FALSE NEIGHBOUR: 'it returns false'. Refute it at one input. -/
def fnForerunnersWrong : ChangeSpec := { name := "fnForerunners", fn := fun _ => fun
  | [d1, d2] => { results := [.lit (.bool false)], args := [d1, d2] }
  | _ => none }
def FnForerunnersWrongFalsely : Prop := fnForerunnersRow.holds Tryz.pinned (OpenSpec.ofChange fnForerunnersWrong)

/- THE SECOND FORM. 'bulk': how many values and letters a reading holds, each counted each time it is reached (what is shared counts as often as it is met; a slice's spare places count too). A statement '..UptoSaid' is the law's where the arguments, and the package variables that the reading takes, are together of bulk at most 1048576: NARROWER than '..Said'. Prove '..Said' where nothing that the law and all that it calls make is longer than what came in: it says more and counts as full. Else prove '..UptoSaid'. A law counts once. -/
mutual
def uptoBulk {H : Type} : DataW H → Nat
  | .lit (.string bytes) => bytes.length + 1
  | .lit _ => 1
  | .nil => 1
  | .ptr d => uptoBulk d + 1
  | .slice elems spare => uptoBulkAll elems + uptoBulkAll spare + 1
  | .agg parts => uptoBulkAll parts + 1
  | .iface _ d => uptoBulk d + 1
  | .map entries => uptoBulkEntries entries + 1
  | .held _ => 1
def uptoBulkAll {H : Type} : List (DataW H) → Nat
  | [] => 0
  | d :: r => uptoBulk d + uptoBulkAll r
def uptoBulkEntries {H : Type} : List (Lit × DataW H) → Nat
  | [] => 0
  | x :: r => uptoBulkEntry x + uptoBulkEntries r
def uptoBulkEntry {H : Type} : Lit × DataW H → Nat
  | (.string bytes, d) => bytes.length + uptoBulk d + 1
  | (_, d) => uptoBulk d + 1
 end
def uptoSmall : (H : Type) → List (DataW H) → Bool := fun _ ds => decide (uptoBulkAll ds ≤ 1048576)
def OpenSpec.upto (s : _root_.Go.ChangeSpec) : _root_.Go.OpenSpec := { _root_.Go.OpenSpec.ofChange s with cond := some uptoSmall }

/-- 'laws.FnExactLeastForerunner', WHERE WHAT IT READS IS OF BULK AT MOST 1048576: true; the input reads as it did. -/
def fnExactLeastForerunnerUptoRow : OpenClaim := { program := "ytfelopllfhcdpaagreat", sum := "d736c818cd2475d3bad56bac073035dd1f5d2bdcf6cd24dd1ab08d6c95047af5", func := "loop.example/g01360/laws.FnExactLeastForerunner", spec := "fnExactLeastForerunner", unfollowed := true, recurses := true, apart := false, narrowed := true }
def FnExactLeastForerunnerUptoSaid : Prop := fnExactLeastForerunnerUptoRow.holds Tryz.pinned (OpenSpec.upto fnExactLeastForerunnerSpec)

/-- 'laws.FnExactForerunners', WHERE WHAT IT READS IS OF BULK AT MOST 1048576: true; the input reads as it did. -/
def fnExactForerunnersUptoRow : OpenClaim := { program := "ytfelopllfhcdpaagreat", sum := "d736c818cd2475d3bad56bac073035dd1f5d2bdcf6cd24dd1ab08d6c95047af5", func := "loop.example/g01360/laws.FnExactForerunners", spec := "fnExactForerunners", unfollowed := true, recurses := true, apart := false, narrowed := true }
def FnExactForerunnersUptoSaid : Prop := fnExactForerunnersUptoRow.holds Tryz.pinned (OpenSpec.upto fnExactForerunnersSpec)

/-- 'laws.FnForerunners', WHERE WHAT IT READS IS OF BULK AT MOST 1048576: true; the input reads as it did. -/
def fnForerunnersUptoRow : OpenClaim := { program := "ytfelopllfhcdpaagreat", sum := "d736c818cd2475d3bad56bac073035dd1f5d2bdcf6cd24dd1ab08d6c95047af5", func := "loop.example/g01360/laws.FnForerunners", spec := "fnForerunners", unfollowed := true, recurses := true, apart := false, narrowed := true }
def FnForerunnersUptoSaid : Prop := fnForerunnersUptoRow.holds Tryz.pinned (OpenSpec.upto fnForerunnersSpec)

end Rows
end Go.Proofs.YtfelopllfhcdpaaGreat
