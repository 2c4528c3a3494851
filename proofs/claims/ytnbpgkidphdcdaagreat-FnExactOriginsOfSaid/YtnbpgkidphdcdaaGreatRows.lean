/-
  No cell of these rows narrows 'for every input' (looked for: loops, veiled, ifaces, maps, wideKeys, modest, calm, conditions, laid).
  DERIVED. THE GIVEN ROWS OF THIS SEAT. 5 by the template 'for every input the law returns true; each argument reads behind the call as it read before'; 0 by the template 'total and deterministic' (their statements: YtnbpgkidphdcdaaGreatTotals.lean).
  GIVEN WITH THE SEED: the statements are not yours to turn. If you find one false, say at which input.
  Laid BY PROGRAM, IN A SANDBOX (cutbox-rows.mjs): the forced cells as the released guide's own fill.sh prints them over the translation 8f123b321ad0ca51… (all of the seat's roots in one cut). By AI agents, Wed Nov 11 2026. No macro, syntax, notation, axiom, sorry.
-/
import Derived.Test.YtnbpgkidphdcdaaGreatChecked
import GoSem.Claim
import GoSem.ClaimJoined
import GoSem.ClaimMapViews
import Derived.JoinedTies
import Derived.KernelRfl
namespace Go.Proofs.YtnbpgkidphdcdaaGreat
/- THE CELL 'sum', in the pinned program and in every row, IS THE sha256 OF THE DUMP (.gsa) THAT YtnbpgkidphdcdaaGreatProg.lean LOADS. Nothing in Lean hashes anything: it is a label: what it is worth is what the hold of that sum in a sandbox is worth. -/
noncomputable def Tryz.pinned : Pinned := { name := "ytnbpgkidphdcdaagreat", sum := "8f123b321ad0ca51120c48895cd3e293ee9a16c3a25a622951a001a31af8974f", checked := Tryz.checked }
namespace Rows
def none {H : Type} : Left H := { results := [], args := [] }

/-- 'laws.FnExactLeastForerunner': WHATEVER THE INPUT: true; the input reads as it did. -/
def fnExactLeastForerunnerSpec : ChangeSpec := { name := "fnExactLeastForerunner", fn := fun _ => fun
  | [d1, d2] => { results := [.lit (.bool true)], args := [d1, d2] }
  | _ => none }
def fnExactLeastForerunnerRow : OpenClaim := { program := "ytnbpgkidphdcdaagreat", sum := "8f123b321ad0ca51120c48895cd3e293ee9a16c3a25a622951a001a31af8974f", func := "loop.example/g01360/laws.FnExactLeastForerunner", spec := "fnExactLeastForerunner", unfollowed := true, recurses := true, apart := false }
def FnExactLeastForerunnerSaid : Prop := fnExactLeastForerunnerRow.holds Tryz.pinned (OpenSpec.ofChange fnExactLeastForerunnerSpec)

/-- ITS FALSE NEIGHBOUR: 'it returns false'. Refute it at one input. -/
def fnExactLeastForerunnerWrong : ChangeSpec := { name := "fnExactLeastForerunner", fn := fun _ => fun
  | [d1, d2] => { results := [.lit (.bool false)], args := [d1, d2] }
  | _ => none }
def FnExactLeastForerunnerWrongFalsely : Prop := fnExactLeastForerunnerRow.holds Tryz.pinned (OpenSpec.ofChange fnExactLeastForerunnerWrong)

/-- 'laws.FnExactForerunners': WHATEVER THE INPUT: true; the input reads as it did. -/
def fnExactForerunnersSpec : ChangeSpec := { name := "fnExactForerunners", fn := fun _ => fun
  | [d1, d2] => { results := [.lit (.bool true)], args := [d1, d2] }
  | _ => none }
def fnExactForerunnersRow : OpenClaim := { program := "ytnbpgkidphdcdaagreat", sum := "8f123b321ad0ca51120c48895cd3e293ee9a16c3a25a622951a001a31af8974f", func := "loop.example/g01360/laws.FnExactForerunners", spec := "fnExactForerunners", unfollowed := true, recurses := true, apart := false }
def FnExactForerunnersSaid : Prop := fnExactForerunnersRow.holds Tryz.pinned (OpenSpec.ofChange fnExactForerunnersSpec)

/-- ITS FALSE NEIGHBOUR: 'it returns false'. Refute it at one input. -/
def fnExactForerunnersWrong : ChangeSpec := { name := "fnExactForerunners", fn := fun _ => fun
  | [d1, d2] => { results := [.lit (.bool false)], args := [d1, d2] }
  | _ => none }
def FnExactForerunnersWrongFalsely : Prop := fnExactForerunnersRow.holds Tryz.pinned (OpenSpec.ofChange fnExactForerunnersWrong)

/-- 'laws.FnExactOriginsOf': WHATEVER THE INPUT: true; the input reads as it did. -/
def fnExactOriginsOfSpec : ChangeSpec := { name := "fnExactOriginsOf", fn := fun _ => fun
  | [d1, d2, d3, d4, d5] => { results := [.lit (.bool true)], args := [d1, d2, d3, d4, d5] }
  | _ => none }
def fnExactOriginsOfRow : OpenClaim := { program := "ytnbpgkidphdcdaagreat", sum := "8f123b321ad0ca51120c48895cd3e293ee9a16c3a25a622951a001a31af8974f", func := "loop.example/g01360/laws.FnExactOriginsOf", spec := "fnExactOriginsOf", unfollowed := true, recurses := true, apart := false }
def FnExactOriginsOfSaid : Prop := fnExactOriginsOfRow.holds Tryz.pinned (OpenSpec.ofChange fnExactOriginsOfSpec)

/-- ITS FALSE NEIGHBOUR: 'it returns false'. Refute it at one input. -/
def fnExactOriginsOfWrong : ChangeSpec := { name := "fnExactOriginsOf", fn := fun _ => fun
  | [d1, d2, d3, d4, d5] => { results := [.lit (.bool false)], args := [d1, d2, d3, d4, d5] }
  | _ => none }
def FnExactOriginsOfWrongFalsely : Prop := fnExactOriginsOfRow.holds Tryz.pinned (OpenSpec.ofChange fnExactOriginsOfWrong)

/-- 'laws.FnExactLeastWater': WHATEVER THE INPUT: true; the input reads as it did. -/
def fnExactLeastWaterSpec : ChangeSpec := { name := "fnExactLeastWater", fn := fun _ => fun
  | [d1, d2, d3, d4, d5] => { results := [.lit (.bool true)], args := [d1, d2, d3, d4, d5] }
  | _ => none }
def fnExactLeastWaterRow : OpenClaim := { program := "ytnbpgkidphdcdaagreat", sum := "8f123b321ad0ca51120c48895cd3e293ee9a16c3a25a622951a001a31af8974f", func := "loop.example/g01360/laws.FnExactLeastWater", spec := "fnExactLeastWater", unfollowed := true, recurses := true, apart := false }
def FnExactLeastWaterSaid : Prop := fnExactLeastWaterRow.holds Tryz.pinned (OpenSpec.ofChange fnExactLeastWaterSpec)

/-- ITS FALSE NEIGHBOUR: 'it returns false'. Refute it at one input. -/
def fnExactLeastWaterWrong : ChangeSpec := { name := "fnExactLeastWater", fn := fun _ => fun
  | [d1, d2, d3, d4, d5] => { results := [.lit (.bool false)], args := [d1, d2, d3, d4, d5] }
  | _ => none }
def FnExactLeastWaterWrongFalsely : Prop := fnExactLeastWaterRow.holds Tryz.pinned (OpenSpec.ofChange fnExactLeastWaterWrong)

/-- 'laws.FnExactLeastDye': WHATEVER THE INPUT: true; the input reads as it did. -/
def fnExactLeastDyeSpec : ChangeSpec := { name := "fnExactLeastDye", fn := fun _ => fun
  | [d1, d2, d3, d4, d5] => { results := [.lit (.bool true)], args := [d1, d2, d3, d4, d5] }
  | _ => none }
def fnExactLeastDyeRow : OpenClaim := { program := "ytnbpgkidphdcdaagreat", sum := "8f123b321ad0ca51120c48895cd3e293ee9a16c3a25a622951a001a31af8974f", func := "loop.example/g01360/laws.FnExactLeastDye", spec := "fnExactLeastDye", unfollowed := true, recurses := true, apart := false }
def FnExactLeastDyeSaid : Prop := fnExactLeastDyeRow.holds Tryz.pinned (OpenSpec.ofChange fnExactLeastDyeSpec)

/-- ITS FALSE NEIGHBOUR: 'it returns false'. Refute it at one input. -/
def fnExactLeastDyeWrong : ChangeSpec := { name := "fnExactLeastDye", fn := fun _ => fun
  | [d1, d2, d3, d4, d5] => { results := [.lit (.bool false)], args := [d1, d2, d3, d4, d5] }
  | _ => none }
def FnExactLeastDyeWrongFalsely : Prop := fnExactLeastDyeRow.holds Tryz.pinned (OpenSpec.ofChange fnExactLeastDyeWrong)

/- THE SECOND FORM. 'bulk': how many values and letters a reading holds, each counted each time it is reached (what is shared counts as often as it is met; a slice's spare places count too). A statement '..UptoSaid' is the law's where the arguments, and the package variables that the reading takes, are together of bulk at most 1048576: NARROWER than '..Said'. Prove '..Said' where nothing that the law and all that it calls make is longer than what came in: it says more and counts as full. Else prove '..UptoSaid'. A law counts once. -/
mutual
def uptoBulk {H : Type} : DataW H → Nat
  | .lit (.string bytes) => bytes.length + 1
  | .lit _ => 1
  | .nil => 1
  | .ptr d => uptoBulk d + 1
  | .slice elems spare => uptoBulkAll elems + uptoBulkAll spare + 1
  | .agg parts => uptoBulkAll parts + 1
  | .iface _ d => uptoBulk d + 1
  | .map entries => uptoBulkEntries entries + 1
  | .held _ => 1
def uptoBulkAll {H : Type} : List (DataW H) → Nat
  | [] => 0
  | d :: r => uptoBulk d + uptoBulkAll r
def uptoBulkEntries {H : Type} : List (Lit × DataW H) → Nat
  | [] => 0
  | x :: r => uptoBulkEntry x + uptoBulkEntries r
def uptoBulkEntry {H : Type} : Lit × DataW H → Nat
  | (.string bytes, d) => bytes.length + uptoBulk d + 1
  | (_, d) => uptoBulk d + 1
 end
def uptoSmall : (H : Type) → List (DataW H) → Bool := fun _ ds => decide (uptoBulkAll ds ≤ 1048576)
def OpenSpec.upto (s : _root_.Go.ChangeSpec) : _root_.Go.OpenSpec := { _root_.Go.OpenSpec.ofChange s with cond := some uptoSmall }

/-- 'laws.FnExactLeastForerunner', WHERE WHAT IT READS IS OF BULK AT MOST 1048576: true; the input reads as it did. -/
def fnExactLeastForerunnerUptoRow : OpenClaim := { program := "ytnbpgkidphdcdaagreat", sum := "8f123b321ad0ca51120c48895cd3e293ee9a16c3a25a622951a001a31af8974f", func := "loop.example/g01360/laws.FnExactLeastForerunner", spec := "fnExactLeastForerunner", unfollowed := true, recurses := true, apart := false, narrowed := true }
def FnExactLeastForerunnerUptoSaid : Prop := fnExactLeastForerunnerUptoRow.holds Tryz.pinned (OpenSpec.upto fnExactLeastForerunnerSpec)

/-- 'laws.FnExactForerunners', WHERE WHAT IT READS IS OF BULK AT MOST 1048576: true; the input reads as it did. -/
def fnExactForerunnersUptoRow : OpenClaim := { program := "ytnbpgkidphdcdaagreat", sum := "8f123b321ad0ca51120c48895cd3e293ee9a16c3a25a622951a001a31af8974f", func := "loop.example/g01360/laws.FnExactForerunners", spec := "fnExactForerunners", unfollowed := true, recurses := true, apart := false, narrowed := true }
def FnExactForerunnersUptoSaid : Prop := fnExactForerunnersUptoRow.holds Tryz.pinned (OpenSpec.upto fnExactForerunnersSpec)

/-- 'laws.FnExactOriginsOf', WHERE WHAT IT READS IS OF BULK AT MOST 1048576: true; the input reads as it did. -/
def fnExactOriginsOfUptoRow : OpenClaim := { program := "ytnbpgkidphdcdaagreat", sum := "8f123b321ad0ca51120c48895cd3e293ee9a16c3a25a622951a001a31af8974f", func := "loop.example/g01360/laws.FnExactOriginsOf", spec := "fnExactOriginsOf", unfollowed := true, recurses := true, apart := false, narrowed := true }
def FnExactOriginsOfUptoSaid : Prop := fnExactOriginsOfUptoRow.holds Tryz.pinned (OpenSpec.upto fnExactOriginsOfSpec)

/-- 'laws.FnExactLeastWater', WHERE WHAT IT READS IS OF BULK AT MOST 1048576: true; the input reads as it did. -/
def fnExactLeastWaterUptoRow : OpenClaim := { program := "ytnbpgkidphdcdaagreat", sum := "8f123b321ad0ca51120c48895cd3e293ee9a16c3a25a622951a001a31af8974f", func := "loop.example/g01360/laws.FnExactLeastWater", spec := "fnExactLeastWater", unfollowed := true, recurses := true, apart := false, narrowed := true }
def FnExactLeastWaterUptoSaid : Prop := fnExactLeastWaterUptoRow.holds Tryz.pinned (OpenSpec.upto fnExactLeastWaterSpec)

/-- 'laws.FnExactLeastDye', WHERE WHAT IT READS IS OF BULK AT MOST 1048576: true; the input reads as it did. -/
def fnExactLeastDyeUptoRow : OpenClaim := { program := "ytnbpgkidphdcdaagreat", sum := "8f123b321ad0ca51120c48895cd3e293ee9a16c3a25a622951a001a31af8974f", func := "loop.example/g01360/laws.FnExactLeastDye", spec := "fnExactLeastDye", unfollowed := true, recurses := true, apart := false, narrowed := true }
def FnExactLeastDyeUptoSaid : Prop := fnExactLeastDyeUptoRow.holds Tryz.pinned (OpenSpec.upto fnExactLeastDyeSpec)

end Rows
end Go.Proofs.YtnbpgkidphdcdaaGreat
