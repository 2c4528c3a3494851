/-
  No cell of these rows narrows 'for every input' (looked for: loops, veiled, ifaces, maps, wideKeys, modest, calm, conditions, laid).
  DERIVED. THE GIVEN ROWS OF THIS SEAT. 4 by the template 'for every input the law returns true; each argument reads behind the call as it read before'; 0 by the template 'total and deterministic' (their statements: YtebpkdolmlloaaaTotals.lean).
  GIVEN WITH THE SEED: the statements are not yours to turn. If you find one false, say at which input.
  Laid BY PROGRAM, IN A SANDBOX (cutbox-rows.mjs): the forced cells as the released guide's own fill.sh prints them over the translation c09724e5769d8339… (all of the seat's roots in one cut). By AI agents, Wed Nov 11 2026. No macro, syntax, notation, axiom, sorry.
-/
import Derived.Test.YtebpkdolmlloaaaChecked
import GoSem.Claim
import GoSem.ClaimJoined
import GoSem.ClaimMapViews
import Derived.JoinedTies
import Derived.KernelRfl
namespace Go.Proofs.Ytebpkdolmlloaaa
/- THE CELL 'sum', in the pinned program and in every row, IS THE sha256 OF THE DUMP (.gsa) THAT YtebpkdolmlloaaaProg.lean LOADS. Nothing in Lean hashes anything: it is a label: what it is worth is what the hold of that sum in a sandbox is worth. -/
noncomputable def Try.pinned : Pinned := { name := "ytebpkdolmlloaaa", sum := "c09724e5769d83391bc8c1ef3063be843ebc984e512e3f80f34165fb9145f1b9", checked := Try.checked }
namespace Rows
def none {H : Type} : Left H := { results := [], args := [] }

/-- 'laws.FnExactRunAndDry': WHATEVER THE INPUT: true; the input reads as it did. -/
def fnExactRunAndDrySpec : ChangeSpec := { name := "fnExactRunAndDry", fn := fun _ => fun
  | [d] => { results := [.lit (.bool true)], args := [d] }
  | _ => none }
def fnExactRunAndDryRow : OpenClaim := { program := "ytebpkdolmlloaaa", sum := "c09724e5769d83391bc8c1ef3063be843ebc984e512e3f80f34165fb9145f1b9", func := "loop.example/g01360/laws.FnExactRunAndDry", spec := "fnExactRunAndDry", unfollowed := true, recurses := true, apart := false }
def FnExactRunAndDrySaid : Prop := fnExactRunAndDryRow.holds Try.pinned (OpenSpec.ofChange fnExactRunAndDrySpec)

/-- ITS FALSE NEIGHBOUR: 'it returns false'. Refute it at one input. -/
def fnExactRunAndDryWrong : ChangeSpec := { name := "fnExactRunAndDry", fn := fun _ => fun
  | [d] => { results := [.lit (.bool false)], args := [d] }
  | _ => none }
def FnExactRunAndDryWrongFalsely : Prop := fnExactRunAndDryRow.holds Try.pinned (OpenSpec.ofChange fnExactRunAndDryWrong)

/-- 'laws.FnExactDipsFor': WHATEVER THE INPUT: true; the input reads as it did. -/
def fnExactDipsForSpec : ChangeSpec := { name := "fnExactDipsFor", fn := fun _ => fun
  | [d1, d2, d3, d4] => { results := [.lit (.bool true)], args := [d1, d2, d3, d4] }
  | _ => none }
def fnExactDipsForRow : OpenClaim := { program := "ytebpkdolmlloaaa", sum := "c09724e5769d83391bc8c1ef3063be843ebc984e512e3f80f34165fb9145f1b9", func := "loop.example/g01360/laws.FnExactDipsFor", spec := "fnExactDipsFor", unfollowed := true, recurses := true, apart := false }
def FnExactDipsForSaid : Prop := fnExactDipsForRow.holds Try.pinned (OpenSpec.ofChange fnExactDipsForSpec)

/-- ITS FALSE NEIGHBOUR: 'it returns false'. Refute it at one input. -/
def fnExactDipsForWrong : ChangeSpec := { name := "fnExactDipsFor", fn := fun _ => fun
  | [d1, d2, d3, d4] => { results := [.lit (.bool false)], args := [d1, d2, d3, d4] }
  | _ => none }
def FnExactDipsForWrongFalsely : Prop := fnExactDipsForRow.holds Try.pinned (OpenSpec.ofChange fnExactDipsForWrong)

/-- 'laws.FnExactSeenThrough': WHATEVER THE INPUT: true; the input reads as it did. -/
def fnExactSeenThroughSpec : ChangeSpec := { name := "fnExactSeenThrough", fn := fun _ => fun
  | [d1, d2] => { results := [.lit (.bool true)], args := [d1, d2] }
  | _ => none }
def fnExactSeenThroughRow : OpenClaim := { program := "ytebpkdolmlloaaa", sum := "c09724e5769d83391bc8c1ef3063be843ebc984e512e3f80f34165fb9145f1b9", func := "loop.example/g01360/laws.FnExactSeenThrough", spec := "fnExactSeenThrough", inPlace := ["internal/abi.NoEscape", "internal/bytealg.MakeNoZero"], unfollowed := true, recurses := true, apart := false }
def FnExactSeenThroughSaid : Prop := fnExactSeenThroughRow.holds Try.pinned (OpenSpec.ofChange fnExactSeenThroughSpec)

/-- ITS FALSE NEIGHBOUR: 'it returns false'. Refute it at one input. -/
def fnExactSeenThroughWrong : ChangeSpec := { name := "fnExactSeenThrough", fn := fun _ => fun
  | [d1, d2] => { results := [.lit (.bool false)], args := [d1, d2] }
  | _ => none }
def FnExactSeenThroughWrongFalsely : Prop := fnExactSeenThroughRow.holds Try.pinned (OpenSpec.ofChange fnExactSeenThroughWrong)

/-- 'laws.FnExactStrokePath': WHATEVER THE INPUT: true; the input reads as it did. -/
def fnExactStrokePathSpec : ChangeSpec := { name := "fnExactStrokePath", fn := fun _ => fun
  | [d1, d2, d3] => { results := [.lit (.bool true)], args := [d1, d2, d3] }
  | _ => none }
def fnExactStrokePathRow : OpenClaim := { program := "ytebpkdolmlloaaa", sum := "c09724e5769d83391bc8c1ef3063be843ebc984e512e3f80f34165fb9145f1b9", func := "loop.example/g01360/laws.FnExactStrokePath", spec := "fnExactStrokePath", unfollowed := true, recurses := true, apart := false }
def FnExactStrokePathSaid : Prop := fnExactStrokePathRow.holds Try.pinned (OpenSpec.ofChange fnExactStrokePathSpec)

/-- ITS FALSE NEIGHBOUR: 'it returns false'. Refute it at one input. -/
def fnExactStrokePathWrong : ChangeSpec := { name := "fnExactStrokePath", fn := fun _ => fun
  | [d1, d2, d3] => { results := [.lit (.bool false)], args := [d1, d2, d3] }
  | _ => none }
def FnExactStrokePathWrongFalsely : Prop := fnExactStrokePathRow.holds Try.pinned (OpenSpec.ofChange fnExactStrokePathWrong)

/- THE SECOND FORM. 'bulk': how many values and letters a reading holds, each counted each time it is reached (what is shared counts as often as it is met; a slice's spare places count too). A statement '..UptoSaid' is the law's where the arguments, and the package variables that the reading takes, are together of bulk at most 1048576: NARROWER than '..Said'. Prove '..Said' where nothing that the law and all that it calls make is longer than what came in: it says more and counts as full. Else prove '..UptoSaid'. A law counts once. -/
mutual
def uptoBulk {H : Type} : DataW H → Nat
  | .lit (.string bytes) => bytes.length + 1
  | .lit _ => 1
  | .nil => 1
  | .ptr d => uptoBulk d + 1
  | .slice elems spare => uptoBulkAll elems + uptoBulkAll spare + 1
  | .agg parts => uptoBulkAll parts + 1
  | .iface _ d => uptoBulk d + 1
  | .map entries => uptoBulkEntries entries + 1
  | .held _ => 1
def uptoBulkAll {H : Type} : List (DataW H) → Nat
  | [] => 0
  | d :: r => uptoBulk d + uptoBulkAll r
def uptoBulkEntries {H : Type} : List (Lit × DataW H) → Nat
  | [] => 0
  | x :: r => uptoBulkEntry x + uptoBulkEntries r
def uptoBulkEntry {H : Type} : Lit × DataW H → Nat
  | (.string bytes, d) => bytes.length + uptoBulk d + 1
  | (_, d) => uptoBulk d + 1
 end
def uptoSmall : (H : Type) → List (DataW H) → Bool := fun _ ds => decide (uptoBulkAll ds ≤ 1048576)
def OpenSpec.upto (s : _root_.Go.ChangeSpec) : _root_.Go.OpenSpec := { _root_.Go.OpenSpec.ofChange s with cond := some uptoSmall }

/-- 'laws.FnExactRunAndDry', WHERE WHAT IT READS IS OF BULK AT MOST 1048576: true; the input reads as it did. -/
def fnExactRunAndDryUptoRow : OpenClaim := { program := "ytebpkdolmlloaaa", sum := "c09724e5769d83391bc8c1ef3063be843ebc984e512e3f80f34165fb9145f1b9", func := "loop.example/g01360/laws.FnExactRunAndDry", spec := "fnExactRunAndDry", unfollowed := true, recurses := true, apart := false, narrowed := true }
def FnExactRunAndDryUptoSaid : Prop := fnExactRunAndDryUptoRow.holds Try.pinned (OpenSpec.upto fnExactRunAndDrySpec)

/-- 'laws.FnExactDipsFor', WHERE WHAT IT READS IS OF BULK AT MOST 1048576: true; the input reads as it did. -/
def fnExactDipsForUptoRow : OpenClaim := { program := "ytebpkdolmlloaaa", sum := "c09724e5769d83391bc8c1ef3063be843ebc984e512e3f80f34165fb9145f1b9", func := "loop.example/g01360/laws.FnExactDipsFor", spec := "fnExactDipsFor", unfollowed := true, recurses := true, apart := false, narrowed := true }
def FnExactDipsForUptoSaid : Prop := fnExactDipsForUptoRow.holds Try.pinned (OpenSpec.upto fnExactDipsForSpec)

/-- 'laws.FnExactSeenThrough', WHERE WHAT IT READS IS OF BULK AT MOST 1048576: true; the input reads as it did. -/
def fnExactSeenThroughUptoRow : OpenClaim := { program := "ytebpkdolmlloaaa", sum := "c09724e5769d83391bc8c1ef3063be843ebc984e512e3f80f34165fb9145f1b9", func := "loop.example/g01360/laws.FnExactSeenThrough", spec := "fnExactSeenThrough", inPlace := ["internal/abi.NoEscape", "internal/bytealg.MakeNoZero"], unfollowed := true, recurses := true, apart := false, narrowed := true }
def FnExactSeenThroughUptoSaid : Prop := fnExactSeenThroughUptoRow.holds Try.pinned (OpenSpec.upto fnExactSeenThroughSpec)

/-- 'laws.FnExactStrokePath', WHERE WHAT IT READS IS OF BULK AT MOST 1048576: true; the input reads as it did. -/
def fnExactStrokePathUptoRow : OpenClaim := { program := "ytebpkdolmlloaaa", sum := "c09724e5769d83391bc8c1ef3063be843ebc984e512e3f80f34165fb9145f1b9", func := "loop.example/g01360/laws.FnExactStrokePath", spec := "fnExactStrokePath", unfollowed := true, recurses := true, apart := false, narrowed := true }
def FnExactStrokePathUptoSaid : Prop := fnExactStrokePathUptoRow.holds Try.pinned (OpenSpec.upto fnExactStrokePathSpec)

end Rows
end Go.Proofs.Ytebpkdolmlloaaa
