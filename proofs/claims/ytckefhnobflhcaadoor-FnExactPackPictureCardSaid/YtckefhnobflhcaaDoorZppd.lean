/- Part 4 of the texts that this proof stands on: a symbolic walk over the program, what its functions and the reference's do, plain laws. -/
import Derived.Test.YtckefhnobflhcaaDoorV18
import Derived.Test.YtckefhnobflhcaaDoorZppb
import Derived.Test.YtckefhnobflhcaaDoorZppc
set_option linter.all false

/- Arguments of a law, one by one. -/
namespace Go.Proofs.YtckefhnobflhcaaDoor.V
open Go.ChangeShapes Go.RowKit
section
variable {H : Type} {enc : TypeId × Value → H} {P : Program} {w : World} {base : Nat} {spare : Nat → Bool} {held : Bool} {args : Array Value} {ds : List (DataW H)} {ps : List MemPlace}
theorem trodA1 {t0 : TypeId} (h : DataW.TrodAll enc P w base spare held [t0] args.toList ds ps) :
    ∃ v0 d0 p0, args = #[v0] ∧ ds = [d0] ∧ ps = p0 ∧ DataW.Trod enc P w base spare held t0 v0 d0 p0 := by
  obtain ⟨v0, vs0, d0, ds0, p0, q0, hargs, rfl, rfl, h0, hr0⟩ := trodAll_cons h
  obtain ⟨rfl, rfl, rfl⟩ := trodAll_nil hr0
  exact ⟨v0, d0, p0, by cases args; simp_all, rfl, by simp, h0⟩
end
end Go.Proofs.YtckefhnobflhcaaDoor.V

/- A spot that came in; four and five arguments. -/
namespace Go.Proofs.YtckefhnobflhcaaDoor.V
open Go.ChangeShapes Go.RowKit

section
variable {H : Type} {enc : TypeId × Value → H} {P : Program} {w : World} {base : Nat} {spare : Nat → Bool} {held : Bool} {args : Array Value} {ds : List (DataW H)} {ps : List MemPlace}
end
end Go.Proofs.YtckefhnobflhcaaDoor.V

/- A picture, a drop that came in. -/
namespace Go.Proofs.YtckefhnobflhcaaDoor.V
open Go.ChangeShapes Go.RowKit
def pcOf (c : Nat → Value) : Pc := ⟨ivOf (c 0), ivOf (c 1), fun y x => if 0 ≤ y ∧ y < 8 ∧ 0 ≤ x ∧ x < 8 then ivOf (c (2 + y.toNat * 8 + x.toNat)) else 0⟩
theorem pic_cells {c : Nat → Value} (h : flatC ti 9 38 c 0) : PcR (pcOf c) ∧ ∀ j, j < 66 → svOf (c j) = pcC (pcOf c) j := by
  simp only [flatC_succ, go_sem, flatK_st, flatL_cons, flatL_nil, flatK_int, flatK_arr, Nat.zero_add, and_true, Nat.mul_one] at h
  obtain ⟨h0, h1, hw⟩ := h
  have ew : ∀ y x : Int, 0 ≤ y ∧ y < 8 ∧ 0 ≤ x ∧ x < 8 → _ := fun y x ⟨a, b, e, f⟩ => iv_u8 (hw y.toNat (by omega) x.toNat (by omega))
  refine ⟨⟨(iv_i8 h0).2, (iv_i8 h1).2, fun y x => ?_⟩, fun j hj => ?_⟩
  · simp only [pcOf]
    split
    · rename_i hc; exact (ew y x hc).2
    · omega
  · rcases (by omega : j = 0 ∨ j = 1 ∨ 2 ≤ j) with rfl | rfl | h2
    · exact (iv_i8 h0).1
    · exact (iv_i8 h1).1
    · have := (ew (((j - 2) / 8 : Nat) : Int) (((j - 2) % 8 : Nat) : Int) ⟨by omega, by omega, by omega, by omega⟩).1
      simp only [Int.toNat_natCast] at this
      rw [show 2 + (j - 2) / 8 * 8 + (j - 2) % 8 = j by omega] at this
      rw [this]
      unfold pcC
      rw [if_neg (by omega)]
      simp only [pcOf, if_pos (show (0 : Int) ≤ (((j - 2) / 8 : Nat) : Int) ∧ (((j - 2) / 8 : Nat) : Int) < 8 ∧ (0 : Int) ≤ (((j - 2) % 8 : Nat) : Int) ∧ (((j - 2) % 8 : Nat) : Int) < 8 by omega), Int.toNat_natCast]
      rw [show 2 + (j - 2) / 8 * 8 + (j - 2) % 8 = j by omega]
theorem den_pic {cs : Array Value} (hsz : cs.size = 66) (h : flatC ti 9 38 (V.cells cs) 0) (ρ : Rho) : den ρ (.agg 66 (pcC (pcOf (V.cells cs)))) = .agg cs := by
  rw [← den_agg hsz ρ]; exact (den_aggF (fun j hj => (pic_cells h).2 j hj) ρ).symm
end Go.Proofs.YtckefhnobflhcaaDoor.V
