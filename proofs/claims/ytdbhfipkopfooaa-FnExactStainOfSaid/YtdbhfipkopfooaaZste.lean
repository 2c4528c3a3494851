/- Part 5 of the texts that this proof stands on: a symbolic walk over the program, what its functions and the reference's do, plain laws. -/
import Derived.Test.YtdbhfipkopfooaaZstd
import Derived.Test.YtdbhfipkopfooaaV18
import Derived.Test.YtdbhfipkopfooaaZstc
set_option linter.all false

/- A spot that came in; four and five arguments. -/
namespace Go.Proofs.Ytdbhfipkopfooaa.V
open Go.ChangeShapes Go.RowKit

theorem spot_cells {c : Nat → Value} (h : flatC ti 9 33 c 0) : (∀ j, j < 2 → svOf (c j) = cl [.int .i8 (ivOf (c 0)), .int .i8 (ivOf (c 1))] j) ∧ (-128 ≤ ivOf (c 0) ∧ ivOf (c 0) < 128) ∧ -128 ≤ ivOf (c 1) ∧ ivOf (c 1) < 128 := by
  simp only [flatC_succ, go_sem, flatK_st, flatL_cons, flatL_nil, flatK_int, flatK_arr, Nat.zero_add, and_true, Nat.mul_one] at h
  have h0 := iv_i8 h.1
  have h1 := iv_i8 h.2
  refine ⟨fun j hj => ?_, h0.2, h1.2⟩
  rcases (by omega : j = 0 ∨ j = 1) with rfl | rfl
  · exact h0.1
  · exact h1.1
theorem den_spot {cs : Array Value} (hsz : cs.size = 2) (h : flatC ti 9 33 (V.cells cs) 0) (ρ : Rho) : den ρ (spot (ivOf (V.cells cs 0)) (ivOf (V.cells cs 1))) = .agg cs := by
  rw [← den_agg hsz ρ]; exact (den_aggF (fun j hj => (spot_cells h).1 j hj) ρ).symm
section
variable {H : Type} {enc : TypeId × Value → H} {P : Program} {w : World} {base : Nat} {spare : Nat → Bool} {held : Bool} {args : Array Value} {ds : List (DataW H)} {ps : List MemPlace}
theorem trodAll_five {t0 t1 t2 t3 t4 : TypeId} (h : DataW.TrodAll enc P w base spare held [t0, t1, t2, t3, t4] args.toList ds ps) :
    ∃ v0 v1 v2 v3 v4 d0 d1 d2 d3 d4 p0 p1 p2 p3 p4, args = #[v0, v1, v2, v3, v4] ∧ ds = [d0, d1, d2, d3, d4] ∧ ps = p0 ++ p1 ++ p2 ++ p3 ++ p4 ∧ DataW.Trod enc P w base spare held t0 v0 d0 p0 ∧ DataW.Trod enc P w base spare held t1 v1 d1 p1 ∧ DataW.Trod enc P w base spare held t2 v2 d2 p2 ∧ DataW.Trod enc P w base spare held t3 v3 d3 p3 ∧ DataW.Trod enc P w base spare held t4 v4 d4 p4 := by
  obtain ⟨v0, vs0, d0, ds0, p0, q0, hargs, rfl, rfl, h0, hr0⟩ := trodAll_cons h
  obtain ⟨v1, vs1, d1, ds1, p1, q1, rfl, rfl, rfl, h1, hr1⟩ := trodAll_cons hr0
  obtain ⟨v2, vs2, d2, ds2, p2, q2, rfl, rfl, rfl, h2, hr2⟩ := trodAll_cons hr1
  obtain ⟨v3, vs3, d3, ds3, p3, q3, rfl, rfl, rfl, h3, hr3⟩ := trodAll_cons hr2
  obtain ⟨v4, vs4, d4, ds4, p4, q4, rfl, rfl, rfl, h4, hr4⟩ := trodAll_cons hr3
  obtain ⟨rfl, rfl, rfl⟩ := trodAll_nil hr4
  exact ⟨v0, v1, v2, v3, v4, d0, d1, d2, d3, d4, p0, p1, p2, p3, p4, by cases args; simp_all, rfl, by simp, h0, h1, h2, h3, h4⟩
end
end Go.Proofs.Ytdbhfipkopfooaa.V
