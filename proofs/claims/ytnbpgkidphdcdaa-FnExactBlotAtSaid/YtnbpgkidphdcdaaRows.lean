/-
  No cell of these rows narrows 'for every input' (looked for: loops, veiled, ifaces, maps, wideKeys, modest, calm, conditions, laid).
  DERIVED. THE GIVEN ROWS OF THIS SEAT. 8 by the template 'for every input the law returns true; each argument reads behind the call as it read before'; 0 by the template 'total and deterministic' (their statements: YtnbpgkidphdcdaaTotals.lean).
  GIVEN WITH THE SEED: the statements are not yours to turn. If you find one false, say at which input.
  Laid BY PROGRAM, IN A SANDBOX (cutbox-rows.mjs): the forced cells as the released guide's own fill.sh prints them over the translation eb3d611d63af4e6e… (all of the seat's roots in one cut). By AI agents, Wed Nov 11 2026. No macro, syntax, notation, axiom, sorry.
-/
import Derived.Test.YtnbpgkidphdcdaaChecked
import GoSem.Claim
import GoSem.ClaimJoined
import GoSem.ClaimMapViews
import Derived.JoinedTies
import Derived.KernelRfl
namespace Go.Proofs.Ytnbpgkidphdcdaa
/- THE CELL 'sum', in the pinned program and in every row, IS THE sha256 OF THE DUMP (.gsa) THAT YtnbpgkidphdcdaaProg.lean LOADS. Nothing in Lean hashes anything: it is a label: what it is worth is what the hold of that sum in a sandbox is worth. -/
noncomputable def Try.pinned : Pinned := { name := "ytnbpgkidphdcdaa", sum := "eb3d611d63af4e6eaaa493b484f5d4ee620fb710cd76044b9a0363126eba3148", checked := Try.checked }
namespace Rows
def none {H : Type} : Left H := { results := [], args := [] }

/-- 'laws.FnExactBlotAt': WHATEVER THE INPUT: true; the input reads as it did. -/
def fnExactBlotAtSpec : ChangeSpec := { name := "fnExactBlotAt", fn := fun _ => fun
  | [d1, d2, d3] => { results := [.lit (.bool true)], args := [d1, d2, d3] }
  | _ => none }
def fnExactBlotAtRow : OpenClaim := { program := "ytnbpgkidphdcdaa", sum := "eb3d611d63af4e6eaaa493b484f5d4ee620fb710cd76044b9a0363126eba3148", func := "loop.example/g01360/laws.FnExactBlotAt", spec := "fnExactBlotAt", unfollowed := true, recurses := true, plainKeys := false, apart := false }
def FnExactBlotAtSaid : Prop := fnExactBlotAtRow.holds Try.pinned (OpenSpec.ofChange fnExactBlotAtSpec)

/-- ITS FALSE NEIGHBOUR: 'it returns false'. Refute it at one input. -/
def fnExactBlotAtWrong : ChangeSpec := { name := "fnExactBlotAt", fn := fun _ => fun
  | [d1, d2, d3] => { results := [.lit (.bool false)], args := [d1, d2, d3] }
  | _ => none }
def FnExactBlotAtWrongFalsely : Prop := fnExactBlotAtRow.holds Try.pinned (OpenSpec.ofChange fnExactBlotAtWrong)

/-- 'laws.FnExactSpreadCells': WHATEVER THE INPUT: true; the input reads as it did. -/
def fnExactSpreadCellsSpec : ChangeSpec := { name := "fnExactSpreadCells", fn := fun _ => fun
  | [d1, d2] => { results := [.lit (.bool true)], args := [d1, d2] }
  | _ => none }
def fnExactSpreadCellsRow : OpenClaim := { program := "ytnbpgkidphdcdaa", sum := "eb3d611d63af4e6eaaa493b484f5d4ee620fb710cd76044b9a0363126eba3148", func := "loop.example/g01360/laws.FnExactSpreadCells", spec := "fnExactSpreadCells", unfollowed := true, recurses := true, plainKeys := false, apart := false }
def FnExactSpreadCellsSaid : Prop := fnExactSpreadCellsRow.holds Try.pinned (OpenSpec.ofChange fnExactSpreadCellsSpec)

/-- ITS FALSE NEIGHBOUR: 'it returns false'. Refute it at one input. -/
def fnExactSpreadCellsWrong : ChangeSpec := { name := "fnExactSpreadCells", fn := fun _ => fun
  | [d1, d2] => { results := [.lit (.bool false)], args := [d1, d2] }
  | _ => none }
def FnExactSpreadCellsWrongFalsely : Prop := fnExactSpreadCellsRow.holds Try.pinned (OpenSpec.ofChange fnExactSpreadCellsWrong)

/-- 'laws.FnExactSpreadSteps': WHATEVER THE INPUT: true; the input reads as it did. -/
def fnExactSpreadStepsSpec : ChangeSpec := { name := "fnExactSpreadSteps", fn := fun _ => fun
  | [d1, d2, d3] => { results := [.lit (.bool true)], args := [d1, d2, d3] }
  | _ => none }
def fnExactSpreadStepsRow : OpenClaim := { program := "ytnbpgkidphdcdaa", sum := "eb3d611d63af4e6eaaa493b484f5d4ee620fb710cd76044b9a0363126eba3148", func := "loop.example/g01360/laws.FnExactSpreadSteps", spec := "fnExactSpreadSteps", unfollowed := true, recurses := true, plainKeys := false, apart := false }
def FnExactSpreadStepsSaid : Prop := fnExactSpreadStepsRow.holds Try.pinned (OpenSpec.ofChange fnExactSpreadStepsSpec)

/-- ITS FALSE NEIGHBOUR: 'it returns false'. Refute it at one input. -/
def fnExactSpreadStepsWrong : ChangeSpec := { name := "fnExactSpreadSteps", fn := fun _ => fun
  | [d1, d2, d3] => { results := [.lit (.bool false)], args := [d1, d2, d3] }
  | _ => none }
def FnExactSpreadStepsWrongFalsely : Prop := fnExactSpreadStepsRow.holds Try.pinned (OpenSpec.ofChange fnExactSpreadStepsWrong)

/-- 'laws.FnExactInnerCells': WHATEVER THE INPUT: true; the input reads as it did. -/
def fnExactInnerCellsSpec : ChangeSpec := { name := "fnExactInnerCells", fn := fun _ => fun
  | [d1, d2] => { results := [.lit (.bool true)], args := [d1, d2] }
  | _ => none }
def fnExactInnerCellsRow : OpenClaim := { program := "ytnbpgkidphdcdaa", sum := "eb3d611d63af4e6eaaa493b484f5d4ee620fb710cd76044b9a0363126eba3148", func := "loop.example/g01360/laws.FnExactInnerCells", spec := "fnExactInnerCells", unfollowed := true, recurses := true, plainKeys := false, apart := false }
def FnExactInnerCellsSaid : Prop := fnExactInnerCellsRow.holds Try.pinned (OpenSpec.ofChange fnExactInnerCellsSpec)

/-- ITS FALSE NEIGHBOUR: 'it returns false'. Refute it at one input. -/
def fnExactInnerCellsWrong : ChangeSpec := { name := "fnExactInnerCells", fn := fun _ => fun
  | [d1, d2] => { results := [.lit (.bool false)], args := [d1, d2] }
  | _ => none }
def FnExactInnerCellsWrongFalsely : Prop := fnExactInnerCellsRow.holds Try.pinned (OpenSpec.ofChange fnExactInnerCellsWrong)

/-- 'laws.FnExactHasForerunner': WHATEVER THE INPUT: true; the input reads as it did. -/
def fnExactHasForerunnerSpec : ChangeSpec := { name := "fnExactHasForerunner", fn := fun _ => fun
  | [d1, d2] => { results := [.lit (.bool true)], args := [d1, d2] }
  | _ => none }
def fnExactHasForerunnerRow : OpenClaim := { program := "ytnbpgkidphdcdaa", sum := "eb3d611d63af4e6eaaa493b484f5d4ee620fb710cd76044b9a0363126eba3148", func := "loop.example/g01360/laws.FnExactHasForerunner", spec := "fnExactHasForerunner", unfollowed := true, recurses := true, plainKeys := false, apart := false }
def FnExactHasForerunnerSaid : Prop := fnExactHasForerunnerRow.holds Try.pinned (OpenSpec.ofChange fnExactHasForerunnerSpec)

/-- ITS FALSE NEIGHBOUR: 'it returns false'. Refute it at one input. -/
def fnExactHasForerunnerWrong : ChangeSpec := { name := "fnExactHasForerunner", fn := fun _ => fun
  | [d1, d2] => { results := [.lit (.bool false)], args := [d1, d2] }
  | _ => none }
def FnExactHasForerunnerWrongFalsely : Prop := fnExactHasForerunnerRow.holds Try.pinned (OpenSpec.ofChange fnExactHasForerunnerWrong)

/-- 'laws.FnExactLongestPast': WHATEVER THE INPUT: true; the input reads as it did. -/
def fnExactLongestPastSpec : ChangeSpec := { name := "fnExactLongestPast", fn := fun _ => fun
  | [d1, d2] => { results := [.lit (.bool true)], args := [d1, d2] }
  | _ => none }
def fnExactLongestPastRow : OpenClaim := { program := "ytnbpgkidphdcdaa", sum := "eb3d611d63af4e6eaaa493b484f5d4ee620fb710cd76044b9a0363126eba3148", func := "loop.example/g01360/laws.FnExactLongestPast", spec := "fnExactLongestPast", unfollowed := true, recurses := true, plainKeys := false, apart := false }
def FnExactLongestPastSaid : Prop := fnExactLongestPastRow.holds Try.pinned (OpenSpec.ofChange fnExactLongestPastSpec)

/-- ITS FALSE NEIGHBOUR: 'it returns false'. Refute it at one input. -/
def fnExactLongestPastWrong : ChangeSpec := { name := "fnExactLongestPast", fn := fun _ => fun
  | [d1, d2] => { results := [.lit (.bool false)], args := [d1, d2] }
  | _ => none }
def FnExactLongestPastWrongFalsely : Prop := fnExactLongestPastRow.holds Try.pinned (OpenSpec.ofChange fnExactLongestPastWrong)

/-- 'laws.FnExactPuddlesOf': WHATEVER THE INPUT: true; the input reads as it did. -/
def fnExactPuddlesOfSpec : ChangeSpec := { name := "fnExactPuddlesOf", fn := fun _ => fun
  | [d] => { results := [.lit (.bool true)], args := [d] }
  | _ => none }
def fnExactPuddlesOfRow : OpenClaim := { program := "ytnbpgkidphdcdaa", sum := "eb3d611d63af4e6eaaa493b484f5d4ee620fb710cd76044b9a0363126eba3148", func := "loop.example/g01360/laws.FnExactPuddlesOf", spec := "fnExactPuddlesOf", unfollowed := true, recurses := true, plainKeys := false, apart := false }
def FnExactPuddlesOfSaid : Prop := fnExactPuddlesOfRow.holds Try.pinned (OpenSpec.ofChange fnExactPuddlesOfSpec)

/-- ITS FALSE NEIGHBOUR: 'it returns false'. Refute it at one input. -/
def fnExactPuddlesOfWrong : ChangeSpec := { name := "fnExactPuddlesOf", fn := fun _ => fun
  | [d] => { results := [.lit (.bool false)], args := [d] }
  | _ => none }
def FnExactPuddlesOfWrongFalsely : Prop := fnExactPuddlesOfRow.holds Try.pinned (OpenSpec.ofChange fnExactPuddlesOfWrong)

/-- 'laws.FnExactBlotsOf': WHATEVER THE INPUT: true; the input reads as it did. -/
def fnExactBlotsOfSpec : ChangeSpec := { name := "fnExactBlotsOf", fn := fun _ => fun
  | [d1, d2] => { results := [.lit (.bool true)], args := [d1, d2] }
  | _ => none }
def fnExactBlotsOfRow : OpenClaim := { program := "ytnbpgkidphdcdaa", sum := "eb3d611d63af4e6eaaa493b484f5d4ee620fb710cd76044b9a0363126eba3148", func := "loop.example/g01360/laws.FnExactBlotsOf", spec := "fnExactBlotsOf", unfollowed := true, recurses := true, plainKeys := false, apart := false }
def FnExactBlotsOfSaid : Prop := fnExactBlotsOfRow.holds Try.pinned (OpenSpec.ofChange fnExactBlotsOfSpec)

/-- ITS FALSE NEIGHBOUR: 'it returns false'. Refute it at one input. -/
def fnExactBlotsOfWrong : ChangeSpec := { name := "fnExactBlotsOf", fn := fun _ => fun
  | [d1, d2] => { results := [.lit (.bool false)], args := [d1, d2] }
  | _ => none }
def FnExactBlotsOfWrongFalsely : Prop := fnExactBlotsOfRow.holds Try.pinned (OpenSpec.ofChange fnExactBlotsOfWrong)

/- THE SECOND FORM. 'bulk': how many values and letters a reading holds, each counted each time it is reached (what is shared counts as often as it is met; a slice's spare places count too). A statement '..UptoSaid' is the law's where the arguments, and the package variables that the reading takes, are together of bulk at most 1048576: NARROWER than '..Said'. Prove '..Said' where nothing that the law and all that it calls make is longer than what came in: it says more and counts as full. Else prove '..UptoSaid'. A law counts once. -/
mutual
def uptoBulk {H : Type} : DataW H → Nat
  | .lit (.string bytes) => bytes.length + 1
  | .lit _ => 1
  | .nil => 1
  | .ptr d => uptoBulk d + 1
  | .slice elems spare => uptoBulkAll elems + uptoBulkAll spare + 1
  | .agg parts => uptoBulkAll parts + 1
  | .iface _ d => uptoBulk d + 1
  | .map entries => uptoBulkEntries entries + 1
  | .held _ => 1
def uptoBulkAll {H : Type} : List (DataW H) → Nat
  | [] => 0
  | d :: r => uptoBulk d + uptoBulkAll r
def uptoBulkEntries {H : Type} : List (Lit × DataW H) → Nat
  | [] => 0
  | x :: r => uptoBulkEntry x + uptoBulkEntries r
def uptoBulkEntry {H : Type} : Lit × DataW H → Nat
  | (.string bytes, d) => bytes.length + uptoBulk d + 1
  | (_, d) => uptoBulk d + 1
 end
def uptoSmall : (H : Type) → List (DataW H) → Bool := fun _ ds => decide (uptoBulkAll ds ≤ 1048576)
def OpenSpec.upto (s : _root_.Go.ChangeSpec) : _root_.Go.OpenSpec := { _root_.Go.OpenSpec.ofChange s with cond := some uptoSmall }

/-- 'laws.FnExactBlotAt', WHERE WHAT IT READS IS OF BULK AT MOST 1048576: true; the input reads as it did. -/
def fnExactBlotAtUptoRow : OpenClaim := { program := "ytnbpgkidphdcdaa", sum := "eb3d611d63af4e6eaaa493b484f5d4ee620fb710cd76044b9a0363126eba3148", func := "loop.example/g01360/laws.FnExactBlotAt", spec := "fnExactBlotAt", unfollowed := true, recurses := true, plainKeys := false, apart := false, narrowed := true }
def FnExactBlotAtUptoSaid : Prop := fnExactBlotAtUptoRow.holds Try.pinned (OpenSpec.upto fnExactBlotAtSpec)

/-- 'laws.FnExactSpreadCells', WHERE WHAT IT READS IS OF BULK AT MOST 1048576: true; the input reads as it did. -/
def fnExactSpreadCellsUptoRow : OpenClaim := { program := "ytnbpgkidphdcdaa", sum := "eb3d611d63af4e6eaaa493b484f5d4ee620fb710cd76044b9a0363126eba3148", func := "loop.example/g01360/laws.FnExactSpreadCells", spec := "fnExactSpreadCells", unfollowed := true, recurses := true, plainKeys := false, apart := false, narrowed := true }
def FnExactSpreadCellsUptoSaid : Prop := fnExactSpreadCellsUptoRow.holds Try.pinned (OpenSpec.upto fnExactSpreadCellsSpec)

/-- 'laws.FnExactSpreadSteps', WHERE WHAT IT READS IS OF BULK AT MOST 1048576: true; the input reads as it did. -/
def fnExactSpreadStepsUptoRow : OpenClaim := { program := "ytnbpgkidphdcdaa", sum := "eb3d611d63af4e6eaaa493b484f5d4ee620fb710cd76044b9a0363126eba3148", func := "loop.example/g01360/laws.FnExactSpreadSteps", spec := "fnExactSpreadSteps", unfollowed := true, recurses := true, plainKeys := false, apart := false, narrowed := true }
def FnExactSpreadStepsUptoSaid : Prop := fnExactSpreadStepsUptoRow.holds Try.pinned (OpenSpec.upto fnExactSpreadStepsSpec)

/-- 'laws.FnExactInnerCells', WHERE WHAT IT READS IS OF BULK AT MOST 1048576: true; the input reads as it did. -/
def fnExactInnerCellsUptoRow : OpenClaim := { program := "ytnbpgkidphdcdaa", sum := "eb3d611d63af4e6eaaa493b484f5d4ee620fb710cd76044b9a0363126eba3148", func := "loop.example/g01360/laws.FnExactInnerCells", spec := "fnExactInnerCells", unfollowed := true, recurses := true, plainKeys := false, apart := false, narrowed := true }
def FnExactInnerCellsUptoSaid : Prop := fnExactInnerCellsUptoRow.holds Try.pinned (OpenSpec.upto fnExactInnerCellsSpec)

/-- 'laws.FnExactHasForerunner', WHERE WHAT IT READS IS OF BULK AT MOST 1048576: true; the input reads as it did. -/
def fnExactHasForerunnerUptoRow : OpenClaim := { program := "ytnbpgkidphdcdaa", sum := "eb3d611d63af4e6eaaa493b484f5d4ee620fb710cd76044b9a0363126eba3148", func := "loop.example/g01360/laws.FnExactHasForerunner", spec := "fnExactHasForerunner", unfollowed := true, recurses := true, plainKeys := false, apart := false, narrowed := true }
def FnExactHasForerunnerUptoSaid : Prop := fnExactHasForerunnerUptoRow.holds Try.pinned (OpenSpec.upto fnExactHasForerunnerSpec)

/-- 'laws.FnExactLongestPast', WHERE WHAT IT READS IS OF BULK AT MOST 1048576: true; the input reads as it did. -/
def fnExactLongestPastUptoRow : OpenClaim := { program := "ytnbpgkidphdcdaa", sum := "eb3d611d63af4e6eaaa493b484f5d4ee620fb710cd76044b9a0363126eba3148", func := "loop.example/g01360/laws.FnExactLongestPast", spec := "fnExactLongestPast", unfollowed := true, recurses := true, plainKeys := false, apart := false, narrowed := true }
def FnExactLongestPastUptoSaid : Prop := fnExactLongestPastUptoRow.holds Try.pinned (OpenSpec.upto fnExactLongestPastSpec)

/-- 'laws.FnExactPuddlesOf', WHERE WHAT IT READS IS OF BULK AT MOST 1048576: true; the input reads as it did. -/
def fnExactPuddlesOfUptoRow : OpenClaim := { program := "ytnbpgkidphdcdaa", sum := "eb3d611d63af4e6eaaa493b484f5d4ee620fb710cd76044b9a0363126eba3148", func := "loop.example/g01360/laws.FnExactPuddlesOf", spec := "fnExactPuddlesOf", unfollowed := true, recurses := true, plainKeys := false, apart := false, narrowed := true }
def FnExactPuddlesOfUptoSaid : Prop := fnExactPuddlesOfUptoRow.holds Try.pinned (OpenSpec.upto fnExactPuddlesOfSpec)

/-- 'laws.FnExactBlotsOf', WHERE WHAT IT READS IS OF BULK AT MOST 1048576: true; the input reads as it did. -/
def fnExactBlotsOfUptoRow : OpenClaim := { program := "ytnbpgkidphdcdaa", sum := "eb3d611d63af4e6eaaa493b484f5d4ee620fb710cd76044b9a0363126eba3148", func := "loop.example/g01360/laws.FnExactBlotsOf", spec := "fnExactBlotsOf", unfollowed := true, recurses := true, plainKeys := false, apart := false, narrowed := true }
def FnExactBlotsOfUptoSaid : Prop := fnExactBlotsOfUptoRow.holds Try.pinned (OpenSpec.upto fnExactBlotsOfSpec)

end Rows
end Go.Proofs.Ytnbpgkidphdcdaa
