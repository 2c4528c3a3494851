/-
  No cell of these rows narrows 'for every input' (looked for: loops, veiled, ifaces, maps, wideKeys, modest, calm, conditions, laid).
  DERIVED. THE GIVEN ROWS OF THIS SEAT. 2 by the template 'for every input the law returns true; each argument reads behind the call as it read before'; 0 by the template 'total and deterministic' (their statements: YtddnnodkkdjniaaTotals.lean).
  GIVEN WITH THE SEED: the statements are not yours to turn. If you find one false, say at which input.
  Laid BY PROGRAM, IN A SANDBOX (cutbox-rows.mjs): the forced cells as the released guide's own fill.sh prints them over the translation 516db3cef67f020b… (all of the seat's roots in one cut). By AI agents, Wed Nov 11 2026. No macro, syntax, notation, axiom, sorry.
-/
import Derived.Test.YtddnnodkkdjniaaChecked
import GoSem.Claim
import GoSem.ClaimJoined
import GoSem.ClaimMapViews
import Derived.JoinedTies
import Derived.KernelRfl
namespace Go.Proofs.Ytddnnodkkdjniaa
/- THE CELL 'sum', in the pinned program and in every row, IS THE sha256 OF THE DUMP (.gsa) THAT YtddnnodkkdjniaaProg.lean LOADS. Nothing in Lean hashes anything: it is a label: what it is worth is what the hold of that sum in a sandbox is worth. -/
noncomputable def Try.pinned : Pinned := { name := "ytddnnodkkdjniaa", sum := "516db3cef67f020b320c72a822a8f5cdf7926fc803a6e7f4c85453f7758cf81e", checked := Try.checked }
namespace Rows
def none {H : Type} : Left H := { results := [], args := [] }

/-- 'laws.FnExactPuddlesOf': WHATEVER THE INPUT: true; the input reads as it did. -/
def fnExactPuddlesOfSpec : ChangeSpec := { name := "fnExactPuddlesOf", fn := fun _ => fun
  | [d] => { results := [.lit (.bool true)], args := [d] }
  | _ => none }
def fnExactPuddlesOfRow : OpenClaim := { program := "ytddnnodkkdjniaa", sum := "516db3cef67f020b320c72a822a8f5cdf7926fc803a6e7f4c85453f7758cf81e", func := "loop.example/g01360/laws.FnExactPuddlesOf", spec := "fnExactPuddlesOf", unfollowed := true, recurses := true, plainKeys := false, apart := false }
def FnExactPuddlesOfSaid : Prop := fnExactPuddlesOfRow.holds Try.pinned (OpenSpec.ofChange fnExactPuddlesOfSpec)

/-- ITS FALSE NEIGHBOUR: 'it returns false'. Refute it at one input. -/
def fnExactPuddlesOfWrong : ChangeSpec := { name := "fnExactPuddlesOf", fn := fun _ => fun
  | [d] => { results := [.lit (.bool false)], args := [d] }
  | _ => none }
def FnExactPuddlesOfWrongFalsely : Prop := fnExactPuddlesOfRow.holds Try.pinned (OpenSpec.ofChange fnExactPuddlesOfWrong)

/-- 'laws.FnExactBlotsOf': WHATEVER THE INPUT: true; the input reads as it did. -/
def fnExactBlotsOfSpec : ChangeSpec := { name := "fnExactBlotsOf", fn := fun _ => fun
  | [d1, d2] => { results := [.lit (.bool true)], args := [d1, d2] }
  | _ => none }
def fnExactBlotsOfRow : OpenClaim := { program := "ytddnnodkkdjniaa", sum := "516db3cef67f020b320c72a822a8f5cdf7926fc803a6e7f4c85453f7758cf81e", func := "loop.example/g01360/laws.FnExactBlotsOf", spec := "fnExactBlotsOf", unfollowed := true, recurses := true, plainKeys := false, apart := false }
def FnExactBlotsOfSaid : Prop := fnExactBlotsOfRow.holds Try.pinned (OpenSpec.ofChange fnExactBlotsOfSpec)

/-- ITS FALSE NEIGHBOUR: 'it returns false'. Refute it at one input. -/
def fnExactBlotsOfWrong : ChangeSpec := { name := "fnExactBlotsOf", fn := fun _ => fun
  | [d1, d2] => { results := [.lit (.bool false)], args := [d1, d2] }
  | _ => none }
def FnExactBlotsOfWrongFalsely : Prop := fnExactBlotsOfRow.holds Try.pinned (OpenSpec.ofChange fnExactBlotsOfWrong)

/- THE SECOND FORM. 'bulk': how many values and letters a reading holds, each counted each time it is reached (what is shared counts as often as it is met; a slice's spare places count too). A statement '..UptoSaid' is the law's where the arguments, and the package variables that the reading takes, are together of bulk at most 1048576: NARROWER than '..Said'. Prove '..Said' where nothing that the law and all that it calls make is longer than what came in: it says more and counts as full. Else prove '..UptoSaid'. A law counts once. -/
mutual
def uptoBulk {H : Type} : DataW H → Nat
  | .lit (.string bytes) => bytes.length + 1
  | .lit _ => 1
  | .nil => 1
  | .ptr d => uptoBulk d + 1
  | .slice elems spare => uptoBulkAll elems + uptoBulkAll spare + 1
  | .agg parts => uptoBulkAll parts + 1
  | .iface _ d => uptoBulk d + 1
  | .map entries => uptoBulkEntries entries + 1
  | .held _ => 1
def uptoBulkAll {H : Type} : List (DataW H) → Nat
  | [] => 0
  | d :: r => uptoBulk d + uptoBulkAll r
def uptoBulkEntries {H : Type} : List (Lit × DataW H) → Nat
  | [] => 0
  | x :: r => uptoBulkEntry x + uptoBulkEntries r
def uptoBulkEntry {H : Type} : Lit × DataW H → Nat
  | (.string bytes, d) => bytes.length + uptoBulk d + 1
  | (_, d) => uptoBulk d + 1
 end
def uptoSmall : (H : Type) → List (DataW H) → Bool := fun _ ds => decide (uptoBulkAll ds ≤ 1048576)
def OpenSpec.upto (s : _root_.Go.ChangeSpec) : _root_.Go.OpenSpec := { _root_.Go.OpenSpec.ofChange s with cond := some uptoSmall }

/-- 'laws.FnExactPuddlesOf', WHERE WHAT IT READS IS OF BULK AT MOST 1048576: true; the input reads as it did. -/
def fnExactPuddlesOfUptoRow : OpenClaim := { program := "ytddnnodkkdjniaa", sum := "516db3cef67f020b320c72a822a8f5cdf7926fc803a6e7f4c85453f7758cf81e", func := "loop.example/g01360/laws.FnExactPuddlesOf", spec := "fnExactPuddlesOf", unfollowed := true, recurses := true, plainKeys := false, apart := false, narrowed := true }
def FnExactPuddlesOfUptoSaid : Prop := fnExactPuddlesOfUptoRow.holds Try.pinned (OpenSpec.upto fnExactPuddlesOfSpec)

/-- 'laws.FnExactBlotsOf', WHERE WHAT IT READS IS OF BULK AT MOST 1048576: true; the input reads as it did. -/
def fnExactBlotsOfUptoRow : OpenClaim := { program := "ytddnnodkkdjniaa", sum := "516db3cef67f020b320c72a822a8f5cdf7926fc803a6e7f4c85453f7758cf81e", func := "loop.example/g01360/laws.FnExactBlotsOf", spec := "fnExactBlotsOf", unfollowed := true, recurses := true, plainKeys := false, apart := false, narrowed := true }
def FnExactBlotsOfUptoSaid : Prop := fnExactBlotsOfUptoRow.holds Try.pinned (OpenSpec.upto fnExactBlotsOfSpec)

end Rows
end Go.Proofs.Ytddnnodkkdjniaa
