/- Part 4 of the texts that this proof stands on: a symbolic walk over the program, what its functions and the reference's do, plain laws. -/
import Derived.Test.YtddnnodkkdjniaaZpuc
import Derived.Test.YtddnnodkkdjniaaV18
import Derived.Test.YtddnnodkkdjniaaZpub
set_option linter.all false

/- Arguments of a law, one by one. -/
namespace Go.Proofs.Ytddnnodkkdjniaa.V
open Go.ChangeShapes Go.RowKit
section
variable {H : Type} {enc : TypeId × Value → H} {P : Program} {w : World} {base : Nat} {spare : Nat → Bool} {held : Bool} {args : Array Value} {ds : List (DataW H)} {ps : List MemPlace}
theorem trodA1 {t0 : TypeId} (h : DataW.TrodAll enc P w base spare held [t0] args.toList ds ps) :
    ∃ v0 d0 p0, args = #[v0] ∧ ds = [d0] ∧ ps = p0 ∧ DataW.Trod enc P w base spare held t0 v0 d0 p0 := by
  obtain ⟨v0, vs0, d0, ds0, p0, q0, hargs, rfl, rfl, h0, hr0⟩ := trodAll_cons h
  obtain ⟨rfl, rfl, rfl⟩ := trodAll_nil hr0
  exact ⟨v0, d0, p0, by cases args; simp_all, rfl, by simp, h0⟩
end
end Go.Proofs.Ytddnnodkkdjniaa.V

/- A spot that came in; four and five arguments. -/
namespace Go.Proofs.Ytddnnodkkdjniaa.V
open Go.ChangeShapes Go.RowKit

section
variable {H : Type} {enc : TypeId × Value → H} {P : Program} {w : World} {base : Nat} {spare : Nat → Bool} {held : Bool} {args : Array Value} {ds : List (DataW H)} {ps : List MemPlace}
end
end Go.Proofs.Ytddnnodkkdjniaa.V
