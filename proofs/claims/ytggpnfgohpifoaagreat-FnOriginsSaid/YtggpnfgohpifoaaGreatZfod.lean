/- Part 4 of the texts that this proof stands on: a symbolic walk over the program, what its functions and the reference's do, plain laws. -/
import Derived.Test.YtggpnfgohpifoaaGreatZfoc
import Derived.Test.YtggpnfgohpifoaaGreatV18
import Derived.Test.YtggpnfgohpifoaaGreatZfob
set_option linter.all false

/- Arguments of a law, one by one. -/
namespace Go.Proofs.YtggpnfgohpifoaaGreat.V
open Go.ChangeShapes Go.RowKit
section
variable {H : Type} {enc : TypeId × Value → H} {P : Program} {w : World} {base : Nat} {spare : Nat → Bool} {held : Bool} {args : Array Value} {ds : List (DataW H)} {ps : List MemPlace}
end
end Go.Proofs.YtggpnfgohpifoaaGreat.V

/- Two slices of bytes that came in. -/
namespace Go.Proofs.YtggpnfgohpifoaaGreat.V
open Go.ChangeShapes Go.RowKit
/-- A slice of bytes that came in. -/
def ByArg (h : List (Nat × Seg)) (n : Nat) (A : SV) (len : Nat) : Prop :=
  (A = .nils ∧ len = 0) ∨ ∃ j cap s, A = .sl j 0 len cap ∧ j < n ∧ hget h j = some s ∧ len ≤ s.n ∧ ∀ k, k < len → ∃ v : Int, s.c k = .int .u8 v ∧ 0 ≤ v ∧ v < 256
theorem ByArg.lt {h : List (Nat × Seg)} {n : Nat} {A : SV} {len : Nat} (hA : ByArg h n A len) : A.lt n := by
  rcases hA with ⟨rfl, _⟩ | ⟨j, cap, s, rfl, hj, _⟩
  · trivial
  · exact hj
theorem ByArg.up {h h' : List (Nat × Seg)} {n n' : Nat} {A : SV} {len : Nat} (hA : ByArg h n A len) (hn : n ≤ n') (hx : HExt n h h') : ByArg h' n' A len := by
  rcases hA with ⟨rfl, e⟩ | ⟨j, cap, s, rfl, hj, hg, hr⟩
  · exact .inl ⟨rfl, e⟩
  · exact .inr ⟨j, cap, s, rfl, by omega, hx j hj _ hg, hr⟩
end Go.Proofs.YtggpnfgohpifoaaGreat.V
