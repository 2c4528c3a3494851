/- Part 4 of the texts that this proof stands on: a symbolic walk over the program, what its functions and the reference's do, plain laws. -/
import Derived.Test.YtkanbbfddlhlcaaGreatDoorZrkc
import Derived.Test.YtkanbbfddlhlcaaGreatDoorV18
import Derived.Test.YtkanbbfddlhlcaaGreatDoorTi
import Derived.ChangeMaps5
set_option linter.all false

/- Arguments of a law, one by one. -/
namespace Go.Proofs.YtkanbbfddlhlcaaGreatDoor.V
open Go.ChangeShapes Go.RowKit
section
variable {H : Type} {enc : TypeId × Value → H} {P : Program} {w : World} {base : Nat} {spare : Nat → Bool} {held : Bool} {args : Array Value} {ds : List (DataW H)} {ps : List MemPlace}
theorem trodA1 {t0 : TypeId} (h : DataW.TrodAll enc P w base spare held [t0] args.toList ds ps) :
    ∃ v0 d0 p0, args = #[v0] ∧ ds = [d0] ∧ ps = p0 ∧ DataW.Trod enc P w base spare held t0 v0 d0 p0 := by
  obtain ⟨v0, vs0, d0, ds0, p0, q0, hargs, rfl, rfl, h0, hr0⟩ := trodAll_cons h
  obtain ⟨rfl, rfl, rfl⟩ := trodAll_nil hr0
  exact ⟨v0, d0, p0, by cases args; simp_all, rfl, by simp, h0⟩
end
end Go.Proofs.YtkanbbfddlhlcaaGreatDoor.V

/- A string that came in. -/
namespace Go.Proofs.YtkanbbfddlhlcaaGreatDoor.V
open Go.ChangeShapes Go.RowKit
set_option maxRecDepth 20000 in
theorem str_arg {H : Type} {enc : TypeId × Value → H} {w : World} {base b0 : Nat} {spare : Nat → Bool} {held : Bool} {r : Reach} {v : Value} {d : DataW H} {ps : List MemPlace}
    (hval : Value.okWide Tryz.prog w r b0 9 v) (hd : DataW.Trod enc Tryz.prog w base spare held 9 v d ps) : ∃ s, v = .string s ∧ s.size ≤ 9223372036854775807 := by
  obtain ⟨s, h1, _, _, h4⟩ := Go.ChangeMaps.open_string (P := Tryz.prog) Tryz.underlying9 hval hd
  exact ⟨s, h1, by simp [maxLen] at h4; omega⟩
end Go.Proofs.YtkanbbfddlhlcaaGreatDoor.V
