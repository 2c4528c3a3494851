/-
  No cell of these rows narrows 'for every input' (looked for: loops, veiled, ifaces, maps, wideKeys, modest, calm, conditions, laid).
  DERIVED. THE GIVEN ROWS OF THIS SEAT. 4 by the template 'for every input the law returns true; each argument reads behind the call as it read before'; 0 by the template 'total and deterministic' (their statements: YtjepjeaecmioaaaTotals.lean).
  GIVEN WITH THE SEED: the statements are not yours to turn. If you find one false, say at which input.
  Laid BY PROGRAM, IN A SANDBOX (cutbox-rows.mjs): the forced cells as the released guide's own fill.sh prints them over the translation 945b58151ae71a21… (all of the seat's roots in one cut). By AI agents, Wed Nov 11 2026. No macro, syntax, notation, axiom, sorry.
-/
import Derived.Test.YtjepjeaecmioaaaChecked
import GoSem.Claim
import GoSem.ClaimJoined
import GoSem.ClaimMapViews
import Derived.JoinedTies
import Derived.KernelRfl
namespace Go.Proofs.Ytjepjeaecmioaaa
/- THE CELL 'sum', in the pinned program and in every row, IS THE sha256 OF THE DUMP (.gsa) THAT YtjepjeaecmioaaaProg.lean LOADS. Nothing in Lean hashes anything: it is a label: what it is worth is what the hold of that sum in a sandbox is worth. -/
noncomputable def Try.pinned : Pinned := { name := "ytjepjeaecmioaaa", sum := "945b58151ae71a216a999ece9b886a07261ac526624385301b48bc338472ac0c", checked := Try.checked }
namespace Rows
def none {H : Type} : Left H := { results := [], args := [] }

/-- 'laws.FnExactTimesUntil': WHATEVER THE INPUT: true; the input reads as it did. -/
def fnExactTimesUntilSpec : ChangeSpec := { name := "fnExactTimesUntil", fn := fun _ => fun
  | [d1, d2, d3] => { results := [.lit (.bool true)], args := [d1, d2, d3] }
  | _ => none }
def fnExactTimesUntilRow : OpenClaim := { program := "ytjepjeaecmioaaa", sum := "945b58151ae71a216a999ece9b886a07261ac526624385301b48bc338472ac0c", func := "loop.example/g01360/laws.FnExactTimesUntil", spec := "fnExactTimesUntil", unfollowed := true, recurses := true, apart := false }
def FnExactTimesUntilSaid : Prop := fnExactTimesUntilRow.holds Try.pinned (OpenSpec.ofChange fnExactTimesUntilSpec)

/-- ITS FALSE NEIGHBOUR: 'it returns false'. Refute it at one input. -/
def fnExactTimesUntilWrong : ChangeSpec := { name := "fnExactTimesUntil", fn := fun _ => fun
  | [d1, d2, d3] => { results := [.lit (.bool false)], args := [d1, d2, d3] }
  | _ => none }
def FnExactTimesUntilWrongFalsely : Prop := fnExactTimesUntilRow.holds Try.pinned (OpenSpec.ofChange fnExactTimesUntilWrong)

/-- 'laws.FnExactPassTimes': WHATEVER THE INPUT: true; the input reads as it did. -/
def fnExactPassTimesSpec : ChangeSpec := { name := "fnExactPassTimes", fn := fun _ => fun
  | [d1, d2, d3] => { results := [.lit (.bool true)], args := [d1, d2, d3] }
  | _ => none }
def fnExactPassTimesRow : OpenClaim := { program := "ytjepjeaecmioaaa", sum := "945b58151ae71a216a999ece9b886a07261ac526624385301b48bc338472ac0c", func := "loop.example/g01360/laws.FnExactPassTimes", spec := "fnExactPassTimes", unfollowed := true, recurses := true, apart := false }
def FnExactPassTimesSaid : Prop := fnExactPassTimesRow.holds Try.pinned (OpenSpec.ofChange fnExactPassTimesSpec)

/-- ITS FALSE NEIGHBOUR: 'it returns false'. Refute it at one input. -/
def fnExactPassTimesWrong : ChangeSpec := { name := "fnExactPassTimes", fn := fun _ => fun
  | [d1, d2, d3] => { results := [.lit (.bool false)], args := [d1, d2, d3] }
  | _ => none }
def FnExactPassTimesWrongFalsely : Prop := fnExactPassTimesRow.holds Try.pinned (OpenSpec.ofChange fnExactPassTimesWrong)

/-- 'laws.FnExactStainOf': WHATEVER THE INPUT: true; the input reads as it did. -/
def fnExactStainOfSpec : ChangeSpec := { name := "fnExactStainOf", fn := fun _ => fun
  | [d1, d2, d3, d4, d5] => { results := [.lit (.bool true)], args := [d1, d2, d3, d4, d5] }
  | _ => none }
def fnExactStainOfRow : OpenClaim := { program := "ytjepjeaecmioaaa", sum := "945b58151ae71a216a999ece9b886a07261ac526624385301b48bc338472ac0c", func := "loop.example/g01360/laws.FnExactStainOf", spec := "fnExactStainOf", unfollowed := true, recurses := true, apart := false }
def FnExactStainOfSaid : Prop := fnExactStainOfRow.holds Try.pinned (OpenSpec.ofChange fnExactStainOfSpec)

/-- ITS FALSE NEIGHBOUR: 'it returns false'. Refute it at one input. -/
def fnExactStainOfWrong : ChangeSpec := { name := "fnExactStainOf", fn := fun _ => fun
  | [d1, d2, d3, d4, d5] => { results := [.lit (.bool false)], args := [d1, d2, d3, d4, d5] }
  | _ => none }
def FnExactStainOfWrongFalsely : Prop := fnExactStainOfRow.holds Try.pinned (OpenSpec.ofChange fnExactStainOfWrong)

/-- 'laws.FnExactPassDown': WHATEVER THE INPUT: true; the input reads as it did. -/
def fnExactPassDownSpec : ChangeSpec := { name := "fnExactPassDown", fn := fun _ => fun
  | [d1, d2] => { results := [.lit (.bool true)], args := [d1, d2] }
  | _ => none }
def fnExactPassDownRow : OpenClaim := { program := "ytjepjeaecmioaaa", sum := "945b58151ae71a216a999ece9b886a07261ac526624385301b48bc338472ac0c", func := "loop.example/g01360/laws.FnExactPassDown", spec := "fnExactPassDown", unfollowed := true, recurses := true, apart := false }
def FnExactPassDownSaid : Prop := fnExactPassDownRow.holds Try.pinned (OpenSpec.ofChange fnExactPassDownSpec)

/-- ITS FALSE NEIGHBOUR: 'it returns false'. Refute it at one input. -/
def fnExactPassDownWrong : ChangeSpec := { name := "fnExactPassDown", fn := fun _ => fun
  | [d1, d2] => { results := [.lit (.bool false)], args := [d1, d2] }
  | _ => none }
def FnExactPassDownWrongFalsely : Prop := fnExactPassDownRow.holds Try.pinned (OpenSpec.ofChange fnExactPassDownWrong)

/- THE SECOND FORM. 'bulk': how many values and letters a reading holds, each counted each time it is reached (what is shared counts as often as it is met; a slice's spare places count too). A statement '..UptoSaid' is the law's where the arguments, and the package variables that the reading takes, are together of bulk at most 1048576: NARROWER than '..Said'. Prove '..Said' where nothing that the law and all that it calls make is longer than what came in: it says more and counts as full. Else prove '..UptoSaid'. A law counts once. -/
mutual
def uptoBulk {H : Type} : DataW H → Nat
  | .lit (.string bytes) => bytes.length + 1
  | .lit _ => 1
  | .nil => 1
  | .ptr d => uptoBulk d + 1
  | .slice elems spare => uptoBulkAll elems + uptoBulkAll spare + 1
  | .agg parts => uptoBulkAll parts + 1
  | .iface _ d => uptoBulk d + 1
  | .map entries => uptoBulkEntries entries + 1
  | .held _ => 1
def uptoBulkAll {H : Type} : List (DataW H) → Nat
  | [] => 0
  | d :: r => uptoBulk d + uptoBulkAll r
def uptoBulkEntries {H : Type} : List (Lit × DataW H) → Nat
  | [] => 0
  | x :: r => uptoBulkEntry x + uptoBulkEntries r
def uptoBulkEntry {H : Type} : Lit × DataW H → Nat
  | (.string bytes, d) => bytes.length + uptoBulk d + 1
  | (_, d) => uptoBulk d + 1
 end
def uptoSmall : (H : Type) → List (DataW H) → Bool := fun _ ds => decide (uptoBulkAll ds ≤ 1048576)
def OpenSpec.upto (s : _root_.Go.ChangeSpec) : _root_.Go.OpenSpec := { _root_.Go.OpenSpec.ofChange s with cond := some uptoSmall }

/-- 'laws.FnExactTimesUntil', WHERE WHAT IT READS IS OF BULK AT MOST 1048576: true; the input reads as it did. -/
def fnExactTimesUntilUptoRow : OpenClaim := { program := "ytjepjeaecmioaaa", sum := "945b58151ae71a216a999ece9b886a07261ac526624385301b48bc338472ac0c", func := "loop.example/g01360/laws.FnExactTimesUntil", spec := "fnExactTimesUntil", unfollowed := true, recurses := true, apart := false, narrowed := true }
def FnExactTimesUntilUptoSaid : Prop := fnExactTimesUntilUptoRow.holds Try.pinned (OpenSpec.upto fnExactTimesUntilSpec)

/-- 'laws.FnExactPassTimes', WHERE WHAT IT READS IS OF BULK AT MOST 1048576: true; the input reads as it did. -/
def fnExactPassTimesUptoRow : OpenClaim := { program := "ytjepjeaecmioaaa", sum := "945b58151ae71a216a999ece9b886a07261ac526624385301b48bc338472ac0c", func := "loop.example/g01360/laws.FnExactPassTimes", spec := "fnExactPassTimes", unfollowed := true, recurses := true, apart := false, narrowed := true }
def FnExactPassTimesUptoSaid : Prop := fnExactPassTimesUptoRow.holds Try.pinned (OpenSpec.upto fnExactPassTimesSpec)

/-- 'laws.FnExactStainOf', WHERE WHAT IT READS IS OF BULK AT MOST 1048576: true; the input reads as it did. -/
def fnExactStainOfUptoRow : OpenClaim := { program := "ytjepjeaecmioaaa", sum := "945b58151ae71a216a999ece9b886a07261ac526624385301b48bc338472ac0c", func := "loop.example/g01360/laws.FnExactStainOf", spec := "fnExactStainOf", unfollowed := true, recurses := true, apart := false, narrowed := true }
def FnExactStainOfUptoSaid : Prop := fnExactStainOfUptoRow.holds Try.pinned (OpenSpec.upto fnExactStainOfSpec)

/-- 'laws.FnExactPassDown', WHERE WHAT IT READS IS OF BULK AT MOST 1048576: true; the input reads as it did. -/
def fnExactPassDownUptoRow : OpenClaim := { program := "ytjepjeaecmioaaa", sum := "945b58151ae71a216a999ece9b886a07261ac526624385301b48bc338472ac0c", func := "loop.example/g01360/laws.FnExactPassDown", spec := "fnExactPassDown", unfollowed := true, recurses := true, apart := false, narrowed := true }
def FnExactPassDownUptoSaid : Prop := fnExactPassDownUptoRow.holds Try.pinned (OpenSpec.upto fnExactPassDownSpec)

end Rows
end Go.Proofs.Ytjepjeaecmioaaa
