/-
  No cell of these rows narrows 'for every input' (looked for: loops, veiled, ifaces, maps, wideKeys, modest, calm, conditions, laid).
  DERIVED. THE GIVEN ROWS OF THIS SEAT. 9 by the template 'for every input the law returns true; each argument reads behind the call as it read before'; 0 by the template 'total and deterministic' (their statements: YtodgbpkdanefaaaTotals.lean).
  GIVEN WITH THE SEED: the statements are not yours to turn. If you find one false, say at which input.
  Laid BY PROGRAM, IN A SANDBOX (cutbox-rows.mjs): the forced cells as the released guide's own fill.sh prints them over the translation 54548f69ce936a98… (all of the seat's roots in one cut). By AI agents, Wed Nov 11 2026. No macro, syntax, notation, axiom, sorry.
-/
import Derived.Test.YtodgbpkdanefaaaChecked
import GoSem.Claim
import GoSem.ClaimJoined
import GoSem.ClaimMapViews
import Derived.JoinedTies
import Derived.KernelRfl
namespace Go.Proofs.Ytodgbpkdanefaaa
/- THE CELL 'sum', in the pinned program and in every row, IS THE sha256 OF THE DUMP (.gsa) THAT YtodgbpkdanefaaaProg.lean LOADS. Nothing in Lean hashes anything: it is a label: what it is worth is what the hold of that sum in a sandbox is worth. -/
noncomputable def Try.pinned : Pinned := { name := "ytodgbpkdanefaaa", sum := "54548f69ce936a98e038642cf83bf553f7e89cfb46acdec8517ba2b28f70715f", checked := Try.checked }
namespace Rows
def none {H : Type} : Left H := { results := [], args := [] }

/-- 'laws.FnExactCoveredBy': WHATEVER THE INPUT: true; the input reads as it did. -/
def fnExactCoveredBySpec : ChangeSpec := { name := "fnExactCoveredBy", fn := fun _ => fun
  | [d1, d2] => { results := [.lit (.bool true)], args := [d1, d2] }
  | _ => none }
def fnExactCoveredByRow : OpenClaim := { program := "ytodgbpkdanefaaa", sum := "54548f69ce936a98e038642cf83bf553f7e89cfb46acdec8517ba2b28f70715f", func := "loop.example/g01360/laws.FnExactCoveredBy", spec := "fnExactCoveredBy", unfollowed := true, recurses := true, apart := false }
def FnExactCoveredBySaid : Prop := fnExactCoveredByRow.holds Try.pinned (OpenSpec.ofChange fnExactCoveredBySpec)

/-- ITS FALSE NEIGHBOUR: 'it returns false'. Refute it at one input. -/
def fnExactCoveredByWrong : ChangeSpec := { name := "fnExactCoveredBy", fn := fun _ => fun
  | [d1, d2] => { results := [.lit (.bool false)], args := [d1, d2] }
  | _ => none }
def FnExactCoveredByWrongFalsely : Prop := fnExactCoveredByRow.holds Try.pinned (OpenSpec.ofChange fnExactCoveredByWrong)

/-- 'laws.FnExactCanBeLast': WHATEVER THE INPUT: true; the input reads as it did. -/
def fnExactCanBeLastSpec : ChangeSpec := { name := "fnExactCanBeLast", fn := fun _ => fun
  | [d1, d2] => { results := [.lit (.bool true)], args := [d1, d2] }
  | _ => none }
def fnExactCanBeLastRow : OpenClaim := { program := "ytodgbpkdanefaaa", sum := "54548f69ce936a98e038642cf83bf553f7e89cfb46acdec8517ba2b28f70715f", func := "loop.example/g01360/laws.FnExactCanBeLast", spec := "fnExactCanBeLast", unfollowed := true, recurses := true, apart := false }
def FnExactCanBeLastSaid : Prop := fnExactCanBeLastRow.holds Try.pinned (OpenSpec.ofChange fnExactCanBeLastSpec)

/-- ITS FALSE NEIGHBOUR: 'it returns false'. Refute it at one input. -/
def fnExactCanBeLastWrong : ChangeSpec := { name := "fnExactCanBeLast", fn := fun _ => fun
  | [d1, d2] => { results := [.lit (.bool false)], args := [d1, d2] }
  | _ => none }
def FnExactCanBeLastWrongFalsely : Prop := fnExactCanBeLastRow.holds Try.pinned (OpenSpec.ofChange fnExactCanBeLastWrong)

/-- 'laws.FnExactDropOn': WHATEVER THE INPUT: true; the input reads as it did. -/
def fnExactDropOnSpec : ChangeSpec := { name := "fnExactDropOn", fn := fun _ => fun
  | [d1, d2] => { results := [.lit (.bool true)], args := [d1, d2] }
  | _ => none }
def fnExactDropOnRow : OpenClaim := { program := "ytodgbpkdanefaaa", sum := "54548f69ce936a98e038642cf83bf553f7e89cfb46acdec8517ba2b28f70715f", func := "loop.example/g01360/laws.FnExactDropOn", spec := "fnExactDropOn", unfollowed := true, recurses := true, apart := false }
def FnExactDropOnSaid : Prop := fnExactDropOnRow.holds Try.pinned (OpenSpec.ofChange fnExactDropOnSpec)

/-- ITS FALSE NEIGHBOUR: 'it returns false'. Refute it at one input. -/
def fnExactDropOnWrong : ChangeSpec := { name := "fnExactDropOn", fn := fun _ => fun
  | [d1, d2] => { results := [.lit (.bool false)], args := [d1, d2] }
  | _ => none }
def FnExactDropOnWrongFalsely : Prop := fnExactDropOnRow.holds Try.pinned (OpenSpec.ofChange fnExactDropOnWrong)

/-- 'laws.FnExactCheckDrops': WHATEVER THE INPUT: true; the input reads as it did. -/
def fnExactCheckDropsSpec : ChangeSpec := { name := "fnExactCheckDrops", fn := fun _ => fun
  | [d1, d2] => { results := [.lit (.bool true)], args := [d1, d2] }
  | _ => none }
def fnExactCheckDropsRow : OpenClaim := { program := "ytodgbpkdanefaaa", sum := "54548f69ce936a98e038642cf83bf553f7e89cfb46acdec8517ba2b28f70715f", func := "loop.example/g01360/laws.FnExactCheckDrops", spec := "fnExactCheckDrops", unfollowed := true, recurses := true, apart := false }
def FnExactCheckDropsSaid : Prop := fnExactCheckDropsRow.holds Try.pinned (OpenSpec.ofChange fnExactCheckDropsSpec)

/-- ITS FALSE NEIGHBOUR: 'it returns false'. Refute it at one input. -/
def fnExactCheckDropsWrong : ChangeSpec := { name := "fnExactCheckDrops", fn := fun _ => fun
  | [d1, d2] => { results := [.lit (.bool false)], args := [d1, d2] }
  | _ => none }
def FnExactCheckDropsWrongFalsely : Prop := fnExactCheckDropsRow.holds Try.pinned (OpenSpec.ofChange fnExactCheckDropsWrong)

/-- 'laws.FnExactDropAll': WHATEVER THE INPUT: true; the input reads as it did. -/
def fnExactDropAllSpec : ChangeSpec := { name := "fnExactDropAll", fn := fun _ => fun
  | [d1, d2] => { results := [.lit (.bool true)], args := [d1, d2] }
  | _ => none }
def fnExactDropAllRow : OpenClaim := { program := "ytodgbpkdanefaaa", sum := "54548f69ce936a98e038642cf83bf553f7e89cfb46acdec8517ba2b28f70715f", func := "loop.example/g01360/laws.FnExactDropAll", spec := "fnExactDropAll", unfollowed := true, recurses := true, apart := false }
def FnExactDropAllSaid : Prop := fnExactDropAllRow.holds Try.pinned (OpenSpec.ofChange fnExactDropAllSpec)

/-- ITS FALSE NEIGHBOUR: 'it returns false'. Refute it at one input. -/
def fnExactDropAllWrong : ChangeSpec := { name := "fnExactDropAll", fn := fun _ => fun
  | [d1, d2] => { results := [.lit (.bool false)], args := [d1, d2] }
  | _ => none }
def FnExactDropAllWrongFalsely : Prop := fnExactDropAllRow.holds Try.pinned (OpenSpec.ofChange fnExactDropAllWrong)

/-- 'laws.FnExactLastDrops': WHATEVER THE INPUT: true; the input reads as it did. -/
def fnExactLastDropsSpec : ChangeSpec := { name := "fnExactLastDrops", fn := fun _ => fun
  | [d] => { results := [.lit (.bool true)], args := [d] }
  | _ => none }
def fnExactLastDropsRow : OpenClaim := { program := "ytodgbpkdanefaaa", sum := "54548f69ce936a98e038642cf83bf553f7e89cfb46acdec8517ba2b28f70715f", func := "loop.example/g01360/laws.FnExactLastDrops", spec := "fnExactLastDrops", unfollowed := true, recurses := true, apart := false }
def FnExactLastDropsSaid : Prop := fnExactLastDropsRow.holds Try.pinned (OpenSpec.ofChange fnExactLastDropsSpec)

/-- ITS FALSE NEIGHBOUR: 'it returns false'. Refute it at one input. -/
def fnExactLastDropsWrong : ChangeSpec := { name := "fnExactLastDrops", fn := fun _ => fun
  | [d] => { results := [.lit (.bool false)], args := [d] }
  | _ => none }
def FnExactLastDropsWrongFalsely : Prop := fnExactLastDropsRow.holds Try.pinned (OpenSpec.ofChange fnExactLastDropsWrong)

/-- 'laws.FnExactUselessDrops': WHATEVER THE INPUT: true; the input reads as it did. -/
def fnExactUselessDropsSpec : ChangeSpec := { name := "fnExactUselessDrops", fn := fun _ => fun
  | [d1, d2] => { results := [.lit (.bool true)], args := [d1, d2] }
  | _ => none }
def fnExactUselessDropsRow : OpenClaim := { program := "ytodgbpkdanefaaa", sum := "54548f69ce936a98e038642cf83bf553f7e89cfb46acdec8517ba2b28f70715f", func := "loop.example/g01360/laws.FnExactUselessDrops", spec := "fnExactUselessDrops", unfollowed := true, recurses := true, apart := false }
def FnExactUselessDropsSaid : Prop := fnExactUselessDropsRow.holds Try.pinned (OpenSpec.ofChange fnExactUselessDropsSpec)

/-- ITS FALSE NEIGHBOUR: 'it returns false'. Refute it at one input. -/
def fnExactUselessDropsWrong : ChangeSpec := { name := "fnExactUselessDrops", fn := fun _ => fun
  | [d1, d2] => { results := [.lit (.bool false)], args := [d1, d2] }
  | _ => none }
def FnExactUselessDropsWrongFalsely : Prop := fnExactUselessDropsRow.holds Try.pinned (OpenSpec.ofChange fnExactUselessDropsWrong)

/-- 'laws.FnExactPeelAll': WHATEVER THE INPUT: true; the input reads as it did. -/
def fnExactPeelAllSpec : ChangeSpec := { name := "fnExactPeelAll", fn := fun _ => fun
  | [d] => { results := [.lit (.bool true)], args := [d] }
  | _ => none }
def fnExactPeelAllRow : OpenClaim := { program := "ytodgbpkdanefaaa", sum := "54548f69ce936a98e038642cf83bf553f7e89cfb46acdec8517ba2b28f70715f", func := "loop.example/g01360/laws.FnExactPeelAll", spec := "fnExactPeelAll", unfollowed := true, recurses := true, apart := false }
def FnExactPeelAllSaid : Prop := fnExactPeelAllRow.holds Try.pinned (OpenSpec.ofChange fnExactPeelAllSpec)

/-- ITS FALSE NEIGHBOUR: 'it returns false'. Refute it at one input. -/
def fnExactPeelAllWrong : ChangeSpec := { name := "fnExactPeelAll", fn := fun _ => fun
  | [d] => { results := [.lit (.bool false)], args := [d] }
  | _ => none }
def FnExactPeelAllWrongFalsely : Prop := fnExactPeelAllRow.holds Try.pinned (OpenSpec.ofChange fnExactPeelAllWrong)

/-- 'laws.FnExactFewestDrops': WHATEVER THE INPUT: true; the input reads as it did. -/
def fnExactFewestDropsSpec : ChangeSpec := { name := "fnExactFewestDrops", fn := fun _ => fun
  | [d1, d2] => { results := [.lit (.bool true)], args := [d1, d2] }
  | _ => none }
def fnExactFewestDropsRow : OpenClaim := { program := "ytodgbpkdanefaaa", sum := "54548f69ce936a98e038642cf83bf553f7e89cfb46acdec8517ba2b28f70715f", func := "loop.example/g01360/laws.FnExactFewestDrops", spec := "fnExactFewestDrops", unfollowed := true, recurses := true, apart := false }
def FnExactFewestDropsSaid : Prop := fnExactFewestDropsRow.holds Try.pinned (OpenSpec.ofChange fnExactFewestDropsSpec)

/-- ITS FALSE NEIGHBOUR: 'it returns false'. Refute it at one input. -/
def fnExactFewestDropsWrong : ChangeSpec := { name := "fnExactFewestDrops", fn := fun _ => fun
  | [d1, d2] => { results := [.lit (.bool false)], args := [d1, d2] }
  | _ => none }
def FnExactFewestDropsWrongFalsely : Prop := fnExactFewestDropsRow.holds Try.pinned (OpenSpec.ofChange fnExactFewestDropsWrong)

/- THE SECOND FORM. 'bulk': how many values and letters a reading holds, each counted each time it is reached (what is shared counts as often as it is met; a slice's spare places count too). A statement '..UptoSaid' is the law's where the arguments, and the package variables that the reading takes, are together of bulk at most 1048576: NARROWER than '..Said'. Prove '..Said' where nothing that the law and all that it calls make is longer than what came in: it says more and counts as full. Else prove '..UptoSaid'. A law counts once. -/
mutual
def uptoBulk {H : Type} : DataW H → Nat
  | .lit (.string bytes) => bytes.length + 1
  | .lit _ => 1
  | .nil => 1
  | .ptr d => uptoBulk d + 1
  | .slice elems spare => uptoBulkAll elems + uptoBulkAll spare + 1
  | .agg parts => uptoBulkAll parts + 1
  | .iface _ d => uptoBulk d + 1
  | .map entries => uptoBulkEntries entries + 1
  | .held _ => 1
def uptoBulkAll {H : Type} : List (DataW H) → Nat
  | [] => 0
  | d :: r => uptoBulk d + uptoBulkAll r
def uptoBulkEntries {H : Type} : List (Lit × DataW H) → Nat
  | [] => 0
  | x :: r => uptoBulkEntry x + uptoBulkEntries r
def uptoBulkEntry {H : Type} : Lit × DataW H → Nat
  | (.string bytes, d) => bytes.length + uptoBulk d + 1
  | (_, d) => uptoBulk d + 1
 end
def uptoSmall : (H : Type) → List (DataW H) → Bool := fun _ ds => decide (uptoBulkAll ds ≤ 1048576)
def OpenSpec.upto (s : _root_.Go.ChangeSpec) : _root_.Go.OpenSpec := { _root_.Go.OpenSpec.ofChange s with cond := some uptoSmall }

/-- 'laws.FnExactCoveredBy', WHERE WHAT IT READS IS OF BULK AT MOST 1048576: true; the input reads as it did. -/
def fnExactCoveredByUptoRow : OpenClaim := { program := "ytodgbpkdanefaaa", sum := "54548f69ce936a98e038642cf83bf553f7e89cfb46acdec8517ba2b28f70715f", func := "loop.example/g01360/laws.FnExactCoveredBy", spec := "fnExactCoveredBy", unfollowed := true, recurses := true, apart := false, narrowed := true }
def FnExactCoveredByUptoSaid : Prop := fnExactCoveredByUptoRow.holds Try.pinned (OpenSpec.upto fnExactCoveredBySpec)

/-- 'laws.FnExactCanBeLast', WHERE WHAT IT READS IS OF BULK AT MOST 1048576: true; the input reads as it did. -/
def fnExactCanBeLastUptoRow : OpenClaim := { program := "ytodgbpkdanefaaa", sum := "54548f69ce936a98e038642cf83bf553f7e89cfb46acdec8517ba2b28f70715f", func := "loop.example/g01360/laws.FnExactCanBeLast", spec := "fnExactCanBeLast", unfollowed := true, recurses := true, apart := false, narrowed := true }
def FnExactCanBeLastUptoSaid : Prop := fnExactCanBeLastUptoRow.holds Try.pinned (OpenSpec.upto fnExactCanBeLastSpec)

/-- 'laws.FnExactDropOn', WHERE WHAT IT READS IS OF BULK AT MOST 1048576: true; the input reads as it did. -/
def fnExactDropOnUptoRow : OpenClaim := { program := "ytodgbpkdanefaaa", sum := "54548f69ce936a98e038642cf83bf553f7e89cfb46acdec8517ba2b28f70715f", func := "loop.example/g01360/laws.FnExactDropOn", spec := "fnExactDropOn", unfollowed := true, recurses := true, apart := false, narrowed := true }
def FnExactDropOnUptoSaid : Prop := fnExactDropOnUptoRow.holds Try.pinned (OpenSpec.upto fnExactDropOnSpec)

/-- 'laws.FnExactCheckDrops', WHERE WHAT IT READS IS OF BULK AT MOST 1048576: true; the input reads as it did. -/
def fnExactCheckDropsUptoRow : OpenClaim := { program := "ytodgbpkdanefaaa", sum := "54548f69ce936a98e038642cf83bf553f7e89cfb46acdec8517ba2b28f70715f", func := "loop.example/g01360/laws.FnExactCheckDrops", spec := "fnExactCheckDrops", unfollowed := true, recurses := true, apart := false, narrowed := true }
def FnExactCheckDropsUptoSaid : Prop := fnExactCheckDropsUptoRow.holds Try.pinned (OpenSpec.upto fnExactCheckDropsSpec)

/-- 'laws.FnExactDropAll', WHERE WHAT IT READS IS OF BULK AT MOST 1048576: true; the input reads as it did. -/
def fnExactDropAllUptoRow : OpenClaim := { program := "ytodgbpkdanefaaa", sum := "54548f69ce936a98e038642cf83bf553f7e89cfb46acdec8517ba2b28f70715f", func := "loop.example/g01360/laws.FnExactDropAll", spec := "fnExactDropAll", unfollowed := true, recurses := true, apart := false, narrowed := true }
def FnExactDropAllUptoSaid : Prop := fnExactDropAllUptoRow.holds Try.pinned (OpenSpec.upto fnExactDropAllSpec)

/-- 'laws.FnExactLastDrops', WHERE WHAT IT READS IS OF BULK AT MOST 1048576: true; the input reads as it did. -/
def fnExactLastDropsUptoRow : OpenClaim := { program := "ytodgbpkdanefaaa", sum := "54548f69ce936a98e038642cf83bf553f7e89cfb46acdec8517ba2b28f70715f", func := "loop.example/g01360/laws.FnExactLastDrops", spec := "fnExactLastDrops", unfollowed := true, recurses := true, apart := false, narrowed := true }
def FnExactLastDropsUptoSaid : Prop := fnExactLastDropsUptoRow.holds Try.pinned (OpenSpec.upto fnExactLastDropsSpec)

/-- 'laws.FnExactUselessDrops', WHERE WHAT IT READS IS OF BULK AT MOST 1048576: true; the input reads as it did. -/
def fnExactUselessDropsUptoRow : OpenClaim := { program := "ytodgbpkdanefaaa", sum := "54548f69ce936a98e038642cf83bf553f7e89cfb46acdec8517ba2b28f70715f", func := "loop.example/g01360/laws.FnExactUselessDrops", spec := "fnExactUselessDrops", unfollowed := true, recurses := true, apart := false, narrowed := true }
def FnExactUselessDropsUptoSaid : Prop := fnExactUselessDropsUptoRow.holds Try.pinned (OpenSpec.upto fnExactUselessDropsSpec)

/-- 'laws.FnExactPeelAll', WHERE WHAT IT READS IS OF BULK AT MOST 1048576: true; the input reads as it did. -/
def fnExactPeelAllUptoRow : OpenClaim := { program := "ytodgbpkdanefaaa", sum := "54548f69ce936a98e038642cf83bf553f7e89cfb46acdec8517ba2b28f70715f", func := "loop.example/g01360/laws.FnExactPeelAll", spec := "fnExactPeelAll", unfollowed := true, recurses := true, apart := false, narrowed := true }
def FnExactPeelAllUptoSaid : Prop := fnExactPeelAllUptoRow.holds Try.pinned (OpenSpec.upto fnExactPeelAllSpec)

/-- 'laws.FnExactFewestDrops', WHERE WHAT IT READS IS OF BULK AT MOST 1048576: true; the input reads as it did. -/
def fnExactFewestDropsUptoRow : OpenClaim := { program := "ytodgbpkdanefaaa", sum := "54548f69ce936a98e038642cf83bf553f7e89cfb46acdec8517ba2b28f70715f", func := "loop.example/g01360/laws.FnExactFewestDrops", spec := "fnExactFewestDrops", unfollowed := true, recurses := true, apart := false, narrowed := true }
def FnExactFewestDropsUptoSaid : Prop := fnExactFewestDropsUptoRow.holds Try.pinned (OpenSpec.upto fnExactFewestDropsSpec)

end Rows
end Go.Proofs.Ytodgbpkdanefaaa
