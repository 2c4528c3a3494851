/- Part 4 of the texts that this proof stands on: a symbolic walk over the program, what its functions and the reference's do, plain laws. -/
import Derived.Test.YtnbpgkidphdcdaaZbac
import Derived.Test.YtnbpgkidphdcdaaV18
import Derived.Test.YtnbpgkidphdcdaaZbab
set_option linter.all false

/- Arguments of a law, one by one. -/
namespace Go.Proofs.Ytnbpgkidphdcdaa.V
open Go.ChangeShapes Go.RowKit
section
variable {H : Type} {enc : TypeId × Value → H} {P : Program} {w : World} {base : Nat} {spare : Nat → Bool} {held : Bool} {args : Array Value} {ds : List (DataW H)} {ps : List MemPlace}
theorem trodA3 {t0 t1 t2 : TypeId} (h : DataW.TrodAll enc P w base spare held [t0, t1, t2] args.toList ds ps) :
    ∃ v0 v1 v2 d0 d1 d2 p0 p1 p2, args = #[v0, v1, v2] ∧ ds = [d0, d1, d2] ∧ ps = p0 ++ p1 ++ p2 ∧ DataW.Trod enc P w base spare held t0 v0 d0 p0 ∧ DataW.Trod enc P w base spare held t1 v1 d1 p1 ∧ DataW.Trod enc P w base spare held t2 v2 d2 p2 := by
  obtain ⟨v0, vs0, d0, ds0, p0, q0, hargs, rfl, rfl, h0, hr0⟩ := trodAll_cons h
  obtain ⟨v1, vs1, d1, ds1, p1, q1, rfl, rfl, rfl, h1, hr1⟩ := trodAll_cons hr0
  obtain ⟨v2, vs2, d2, ds2, p2, q2, rfl, rfl, rfl, h2, hr2⟩ := trodAll_cons hr1
  obtain ⟨rfl, rfl, rfl⟩ := trodAll_nil hr2
  exact ⟨v0, v1, v2, d0, d1, d2, p0, p1, p2, by cases args; simp_all, rfl, by simp, h0, h1, h2⟩
end
end Go.Proofs.Ytnbpgkidphdcdaa.V

/- A spot that came in; four and five arguments. -/
namespace Go.Proofs.Ytnbpgkidphdcdaa.V
open Go.ChangeShapes Go.RowKit

theorem spot_cells {c : Nat → Value} (h : flatC ti 9 33 c 0) : (∀ j, j < 2 → svOf (c j) = cl [.int .i8 (ivOf (c 0)), .int .i8 (ivOf (c 1))] j) ∧ (-128 ≤ ivOf (c 0) ∧ ivOf (c 0) < 128) ∧ -128 ≤ ivOf (c 1) ∧ ivOf (c 1) < 128 := by
  simp only [flatC_succ, go_sem, flatK_st, flatL_cons, flatL_nil, flatK_int, flatK_arr, Nat.zero_add, and_true, Nat.mul_one] at h
  have h0 := iv_i8 h.1
  have h1 := iv_i8 h.2
  refine ⟨fun j hj => ?_, h0.2, h1.2⟩
  rcases (by omega : j = 0 ∨ j = 1) with rfl | rfl
  · exact h0.1
  · exact h1.1
theorem den_spot {cs : Array Value} (hsz : cs.size = 2) (h : flatC ti 9 33 (V.cells cs) 0) (ρ : Rho) : den ρ (spot (ivOf (V.cells cs 0)) (ivOf (V.cells cs 1))) = .agg cs := by
  rw [← den_agg hsz ρ]; exact (den_aggF (fun j hj => (spot_cells h).1 j hj) ρ).symm
section
variable {H : Type} {enc : TypeId × Value → H} {P : Program} {w : World} {base : Nat} {spare : Nat → Bool} {held : Bool} {args : Array Value} {ds : List (DataW H)} {ps : List MemPlace}
end
end Go.Proofs.Ytnbpgkidphdcdaa.V
