/- Part 6 of the texts that this proof stands on: a symbolic walk over the program, what its functions and the reference's do, plain laws. -/
import Derived.Test.YtodgbpkdanefaaaZfde
import Derived.Test.YtodgbpkdanefaaaV18
import Derived.Test.YtodgbpkdanefaaaZfdb
import Derived.Test.YtodgbpkdanefaaaZfdc
set_option linter.all false

/- Arguments of a law, one by one. -/
namespace Go.Proofs.Ytodgbpkdanefaaa.V
open Go.ChangeShapes Go.RowKit
section
variable {H : Type} {enc : TypeId × Value → H} {P : Program} {w : World} {base : Nat} {spare : Nat → Bool} {held : Bool} {args : Array Value} {ds : List (DataW H)} {ps : List MemPlace}
theorem trodA1 {t0 : TypeId} (h : DataW.TrodAll enc P w base spare held [t0] args.toList ds ps) :
    ∃ v0 d0 p0, args = #[v0] ∧ ds = [d0] ∧ ps = p0 ∧ DataW.Trod enc P w base spare held t0 v0 d0 p0 := by
  obtain ⟨v0, vs0, d0, ds0, p0, q0, hargs, rfl, rfl, h0, hr0⟩ := trodAll_cons h
  obtain ⟨rfl, rfl, rfl⟩ := trodAll_nil hr0
  exact ⟨v0, d0, p0, by cases args; simp_all, rfl, by simp, h0⟩
theorem trodA2 {t0 t1 : TypeId} (h : DataW.TrodAll enc P w base spare held [t0, t1] args.toList ds ps) :
    ∃ v0 v1 d0 d1 p0 p1, args = #[v0, v1] ∧ ds = [d0, d1] ∧ ps = p0 ++ p1 ∧ DataW.Trod enc P w base spare held t0 v0 d0 p0 ∧ DataW.Trod enc P w base spare held t1 v1 d1 p1 := by
  obtain ⟨v0, vs0, d0, ds0, p0, q0, hargs, rfl, rfl, h0, hr0⟩ := trodAll_cons h
  obtain ⟨v1, vs1, d1, ds1, p1, q1, rfl, rfl, rfl, h1, hr1⟩ := trodAll_cons hr0
  obtain ⟨rfl, rfl, rfl⟩ := trodAll_nil hr1
  exact ⟨v0, v1, d0, d1, p0, p1, by cases args; simp_all, rfl, by simp, h0, h1⟩
theorem trodA3 {t0 t1 t2 : TypeId} (h : DataW.TrodAll enc P w base spare held [t0, t1, t2] args.toList ds ps) :
    ∃ v0 v1 v2 d0 d1 d2 p0 p1 p2, args = #[v0, v1, v2] ∧ ds = [d0, d1, d2] ∧ ps = p0 ++ p1 ++ p2 ∧ DataW.Trod enc P w base spare held t0 v0 d0 p0 ∧ DataW.Trod enc P w base spare held t1 v1 d1 p1 ∧ DataW.Trod enc P w base spare held t2 v2 d2 p2 := by
  obtain ⟨v0, vs0, d0, ds0, p0, q0, hargs, rfl, rfl, h0, hr0⟩ := trodAll_cons h
  obtain ⟨v1, vs1, d1, ds1, p1, q1, rfl, rfl, rfl, h1, hr1⟩ := trodAll_cons hr0
  obtain ⟨v2, vs2, d2, ds2, p2, q2, rfl, rfl, rfl, h2, hr2⟩ := trodAll_cons hr1
  obtain ⟨rfl, rfl, rfl⟩ := trodAll_nil hr2
  exact ⟨v0, v1, v2, d0, d1, d2, p0, p1, p2, by cases args; simp_all, rfl, by simp, h0, h1, h2⟩
theorem trodA4 {t0 t1 t2 t3 : TypeId} (h : DataW.TrodAll enc P w base spare held [t0, t1, t2, t3] args.toList ds ps) :
    ∃ v0 v1 v2 v3 d0 d1 d2 d3 p0 p1 p2 p3, args = #[v0, v1, v2, v3] ∧ ds = [d0, d1, d2, d3] ∧ ps = p0 ++ p1 ++ p2 ++ p3 ∧ DataW.Trod enc P w base spare held t0 v0 d0 p0 ∧ DataW.Trod enc P w base spare held t1 v1 d1 p1 ∧ DataW.Trod enc P w base spare held t2 v2 d2 p2 ∧ DataW.Trod enc P w base spare held t3 v3 d3 p3 := by
  obtain ⟨v0, vs0, d0, ds0, p0, q0, hargs, rfl, rfl, h0, hr0⟩ := trodAll_cons h
  obtain ⟨v1, vs1, d1, ds1, p1, q1, rfl, rfl, rfl, h1, hr1⟩ := trodAll_cons hr0
  obtain ⟨v2, vs2, d2, ds2, p2, q2, rfl, rfl, rfl, h2, hr2⟩ := trodAll_cons hr1
  obtain ⟨v3, vs3, d3, ds3, p3, q3, rfl, rfl, rfl, h3, hr3⟩ := trodAll_cons hr2
  obtain ⟨rfl, rfl, rfl⟩ := trodAll_nil hr3
  exact ⟨v0, v1, v2, v3, d0, d1, d2, d3, p0, p1, p2, p3, by cases args; simp_all, rfl, by simp, h0, h1, h2, h3⟩
theorem trodA5 {t0 t1 t2 t3 t4 : TypeId} (h : DataW.TrodAll enc P w base spare held [t0, t1, t2, t3, t4] args.toList ds ps) :
    ∃ v0 v1 v2 v3 v4 d0 d1 d2 d3 d4 p0 p1 p2 p3 p4, args = #[v0, v1, v2, v3, v4] ∧ ds = [d0, d1, d2, d3, d4] ∧ ps = p0 ++ p1 ++ p2 ++ p3 ++ p4 ∧ DataW.Trod enc P w base spare held t0 v0 d0 p0 ∧ DataW.Trod enc P w base spare held t1 v1 d1 p1 ∧ DataW.Trod enc P w base spare held t2 v2 d2 p2 ∧ DataW.Trod enc P w base spare held t3 v3 d3 p3 ∧ DataW.Trod enc P w base spare held t4 v4 d4 p4 := by
  obtain ⟨v0, vs0, d0, ds0, p0, q0, hargs, rfl, rfl, h0, hr0⟩ := trodAll_cons h
  obtain ⟨v1, vs1, d1, ds1, p1, q1, rfl, rfl, rfl, h1, hr1⟩ := trodAll_cons hr0
  obtain ⟨v2, vs2, d2, ds2, p2, q2, rfl, rfl, rfl, h2, hr2⟩ := trodAll_cons hr1
  obtain ⟨v3, vs3, d3, ds3, p3, q3, rfl, rfl, rfl, h3, hr3⟩ := trodAll_cons hr2
  obtain ⟨v4, vs4, d4, ds4, p4, q4, rfl, rfl, rfl, h4, hr4⟩ := trodAll_cons hr3
  obtain ⟨rfl, rfl, rfl⟩ := trodAll_nil hr4
  exact ⟨v0, v1, v2, v3, v4, d0, d1, d2, d3, d4, p0, p1, p2, p3, p4, by cases args; simp_all, rfl, by simp, h0, h1, h2, h3, h4⟩
theorem trodA6 {t0 t1 t2 t3 t4 t5 : TypeId} (h : DataW.TrodAll enc P w base spare held [t0, t1, t2, t3, t4, t5] args.toList ds ps) :
    ∃ v0 v1 v2 v3 v4 v5 d0 d1 d2 d3 d4 d5 p0 p1 p2 p3 p4 p5, args = #[v0, v1, v2, v3, v4, v5] ∧ ds = [d0, d1, d2, d3, d4, d5] ∧ ps = p0 ++ p1 ++ p2 ++ p3 ++ p4 ++ p5 ∧ DataW.Trod enc P w base spare held t0 v0 d0 p0 ∧ DataW.Trod enc P w base spare held t1 v1 d1 p1 ∧ DataW.Trod enc P w base spare held t2 v2 d2 p2 ∧ DataW.Trod enc P w base spare held t3 v3 d3 p3 ∧ DataW.Trod enc P w base spare held t4 v4 d4 p4 ∧ DataW.Trod enc P w base spare held t5 v5 d5 p5 := by
  obtain ⟨v0, vs0, d0, ds0, p0, q0, hargs, rfl, rfl, h0, hr0⟩ := trodAll_cons h
  obtain ⟨v1, vs1, d1, ds1, p1, q1, rfl, rfl, rfl, h1, hr1⟩ := trodAll_cons hr0
  obtain ⟨v2, vs2, d2, ds2, p2, q2, rfl, rfl, rfl, h2, hr2⟩ := trodAll_cons hr1
  obtain ⟨v3, vs3, d3, ds3, p3, q3, rfl, rfl, rfl, h3, hr3⟩ := trodAll_cons hr2
  obtain ⟨v4, vs4, d4, ds4, p4, q4, rfl, rfl, rfl, h4, hr4⟩ := trodAll_cons hr3
  obtain ⟨v5, vs5, d5, ds5, p5, q5, rfl, rfl, rfl, h5, hr5⟩ := trodAll_cons hr4
  obtain ⟨rfl, rfl, rfl⟩ := trodAll_nil hr5
  exact ⟨v0, v1, v2, v3, v4, v5, d0, d1, d2, d3, d4, d5, p0, p1, p2, p3, p4, p5, by cases args; simp_all, rfl, by simp, h0, h1, h2, h3, h4, h5⟩
theorem trodA7 {t0 t1 t2 t3 t4 t5 t6 : TypeId} (h : DataW.TrodAll enc P w base spare held [t0, t1, t2, t3, t4, t5, t6] args.toList ds ps) :
    ∃ v0 v1 v2 v3 v4 v5 v6 d0 d1 d2 d3 d4 d5 d6 p0 p1 p2 p3 p4 p5 p6, args = #[v0, v1, v2, v3, v4, v5, v6] ∧ ds = [d0, d1, d2, d3, d4, d5, d6] ∧ ps = p0 ++ p1 ++ p2 ++ p3 ++ p4 ++ p5 ++ p6 ∧ DataW.Trod enc P w base spare held t0 v0 d0 p0 ∧ DataW.Trod enc P w base spare held t1 v1 d1 p1 ∧ DataW.Trod enc P w base spare held t2 v2 d2 p2 ∧ DataW.Trod enc P w base spare held t3 v3 d3 p3 ∧ DataW.Trod enc P w base spare held t4 v4 d4 p4 ∧ DataW.Trod enc P w base spare held t5 v5 d5 p5 ∧ DataW.Trod enc P w base spare held t6 v6 d6 p6 := by
  obtain ⟨v0, vs0, d0, ds0, p0, q0, hargs, rfl, rfl, h0, hr0⟩ := trodAll_cons h
  obtain ⟨v1, vs1, d1, ds1, p1, q1, rfl, rfl, rfl, h1, hr1⟩ := trodAll_cons hr0
  obtain ⟨v2, vs2, d2, ds2, p2, q2, rfl, rfl, rfl, h2, hr2⟩ := trodAll_cons hr1
  obtain ⟨v3, vs3, d3, ds3, p3, q3, rfl, rfl, rfl, h3, hr3⟩ := trodAll_cons hr2
  obtain ⟨v4, vs4, d4, ds4, p4, q4, rfl, rfl, rfl, h4, hr4⟩ := trodAll_cons hr3
  obtain ⟨v5, vs5, d5, ds5, p5, q5, rfl, rfl, rfl, h5, hr5⟩ := trodAll_cons hr4
  obtain ⟨v6, vs6, d6, ds6, p6, q6, rfl, rfl, rfl, h6, hr6⟩ := trodAll_cons hr5
  obtain ⟨rfl, rfl, rfl⟩ := trodAll_nil hr6
  exact ⟨v0, v1, v2, v3, v4, v5, v6, d0, d1, d2, d3, d4, d5, d6, p0, p1, p2, p3, p4, p5, p6, by cases args; simp_all, rfl, by simp, h0, h1, h2, h3, h4, h5, h6⟩
end
end Go.Proofs.Ytodgbpkdanefaaa.V

/- A spot that came in; four and five arguments. -/
namespace Go.Proofs.Ytodgbpkdanefaaa.V
open Go.ChangeShapes Go.RowKit

theorem spot_cells {c : Nat → Value} (h : flatC ti 9 28 c 0) : (∀ j, j < 2 → svOf (c j) = cl [.int .i8 (ivOf (c 0)), .int .i8 (ivOf (c 1))] j) ∧ (-128 ≤ ivOf (c 0) ∧ ivOf (c 0) < 128) ∧ -128 ≤ ivOf (c 1) ∧ ivOf (c 1) < 128 := by
  simp only [flatC_succ, go_sem, flatK_st, flatL_cons, flatL_nil, flatK_int, flatK_arr, Nat.zero_add, and_true, Nat.mul_one] at h
  have h0 := iv_i8 h.1
  have h1 := iv_i8 h.2
  refine ⟨fun j hj => ?_, h0.2, h1.2⟩
  rcases (by omega : j = 0 ∨ j = 1) with rfl | rfl
  · exact h0.1
  · exact h1.1
theorem den_spot {cs : Array Value} (hsz : cs.size = 2) (h : flatC ti 9 28 (V.cells cs) 0) (ρ : Rho) : den ρ (spot (ivOf (V.cells cs 0)) (ivOf (V.cells cs 1))) = .agg cs := by
  rw [← den_agg hsz ρ]; exact (den_aggF (fun j hj => (spot_cells h).1 j hj) ρ).symm
section
variable {H : Type} {enc : TypeId × Value → H} {P : Program} {w : World} {base : Nat} {spare : Nat → Bool} {held : Bool} {args : Array Value} {ds : List (DataW H)} {ps : List MemPlace}
theorem trodAll_five {t0 t1 t2 t3 t4 : TypeId} (h : DataW.TrodAll enc P w base spare held [t0, t1, t2, t3, t4] args.toList ds ps) :
    ∃ v0 v1 v2 v3 v4 d0 d1 d2 d3 d4 p0 p1 p2 p3 p4, args = #[v0, v1, v2, v3, v4] ∧ ds = [d0, d1, d2, d3, d4] ∧ ps = p0 ++ p1 ++ p2 ++ p3 ++ p4 ∧ DataW.Trod enc P w base spare held t0 v0 d0 p0 ∧ DataW.Trod enc P w base spare held t1 v1 d1 p1 ∧ DataW.Trod enc P w base spare held t2 v2 d2 p2 ∧ DataW.Trod enc P w base spare held t3 v3 d3 p3 ∧ DataW.Trod enc P w base spare held t4 v4 d4 p4 := by
  obtain ⟨v0, vs0, d0, ds0, p0, q0, hargs, rfl, rfl, h0, hr0⟩ := trodAll_cons h
  obtain ⟨v1, vs1, d1, ds1, p1, q1, rfl, rfl, rfl, h1, hr1⟩ := trodAll_cons hr0
  obtain ⟨v2, vs2, d2, ds2, p2, q2, rfl, rfl, rfl, h2, hr2⟩ := trodAll_cons hr1
  obtain ⟨v3, vs3, d3, ds3, p3, q3, rfl, rfl, rfl, h3, hr3⟩ := trodAll_cons hr2
  obtain ⟨v4, vs4, d4, ds4, p4, q4, rfl, rfl, rfl, h4, hr4⟩ := trodAll_cons hr3
  obtain ⟨rfl, rfl, rfl⟩ := trodAll_nil hr4
  exact ⟨v0, v1, v2, v3, v4, d0, d1, d2, d3, d4, p0, p1, p2, p3, p4, by cases args; simp_all, rfl, by simp, h0, h1, h2, h3, h4⟩
end
end Go.Proofs.Ytodgbpkdanefaaa.V

/- A picture, a drop that came in. -/
namespace Go.Proofs.Ytodgbpkdanefaaa.V
open Go.ChangeShapes Go.RowKit
def pcOf (c : Nat → Value) : Pc := ⟨ivOf (c 0), ivOf (c 1), fun y x => if 0 ≤ y ∧ y < 8 ∧ 0 ≤ x ∧ x < 8 then ivOf (c (2 + y.toNat * 8 + x.toNat)) else 0⟩
theorem pic_cells {c : Nat → Value} (h : flatC ti 9 26 c 0) : PcR (pcOf c) ∧ ∀ j, j < 66 → svOf (c j) = pcC (pcOf c) j := by
  simp only [flatC_succ, go_sem, flatK_st, flatL_cons, flatL_nil, flatK_int, flatK_arr, Nat.zero_add, and_true, Nat.mul_one] at h
  obtain ⟨h0, h1, hw⟩ := h
  have ew : ∀ y x : Int, 0 ≤ y ∧ y < 8 ∧ 0 ≤ x ∧ x < 8 → _ := fun y x ⟨a, b, e, f⟩ => iv_u8 (hw y.toNat (by omega) x.toNat (by omega))
  refine ⟨⟨(iv_i8 h0).2, (iv_i8 h1).2, fun y x => ?_⟩, fun j hj => ?_⟩
  · simp only [pcOf]
    split
    · rename_i hc; exact (ew y x hc).2
    · omega
  · rcases (by omega : j = 0 ∨ j = 1 ∨ 2 ≤ j) with rfl | rfl | h2
    · exact (iv_i8 h0).1
    · exact (iv_i8 h1).1
    · have := (ew (((j - 2) / 8 : Nat) : Int) (((j - 2) % 8 : Nat) : Int) ⟨by omega, by omega, by omega, by omega⟩).1
      simp only [Int.toNat_natCast] at this
      rw [show 2 + (j - 2) / 8 * 8 + (j - 2) % 8 = j by omega] at this
      rw [this]
      unfold pcC
      rw [if_neg (by omega)]
      simp only [pcOf, if_pos (show (0 : Int) ≤ (((j - 2) / 8 : Nat) : Int) ∧ (((j - 2) / 8 : Nat) : Int) < 8 ∧ (0 : Int) ≤ (((j - 2) % 8 : Nat) : Int) ∧ (((j - 2) % 8 : Nat) : Int) < 8 by omega), Int.toNat_natCast]
      rw [show 2 + (j - 2) / 8 * 8 + (j - 2) % 8 = j by omega]
theorem den_pic {cs : Array Value} (hsz : cs.size = 66) (h : flatC ti 9 26 (V.cells cs) 0) (ρ : Rho) : den ρ (.agg 66 (pcC (pcOf (V.cells cs)))) = .agg cs := by
  rw [← den_agg hsz ρ]; exact (den_aggF (fun j hj => (pic_cells h).2 j hj) ρ).symm
theorem drop_cells {c : Nat → Value} (h : flatC ti 9 40 c 0) : (∀ j, j < 3 → svOf (c j) = cl [.int .i8 (ivOf (c 0)), .int .i8 (ivOf (c 1)), .int .u8 (ivOf (c 2))] j) ∧ (-128 ≤ ivOf (c 0) ∧ ivOf (c 0) < 128) ∧ (-128 ≤ ivOf (c 1) ∧ ivOf (c 1) < 128) ∧ 0 ≤ ivOf (c 2) ∧ ivOf (c 2) < 256 := by
  simp only [flatC_succ, go_sem, flatK_st, flatL_cons, flatL_nil, flatK_int, flatK_arr, Nat.zero_add, and_true, Nat.mul_one] at h
  obtain ⟨⟨a, b⟩, c'⟩ := h
  have h0 := iv_i8 a
  have h1 := iv_i8 b
  have h2 := iv_u8 c'
  refine ⟨fun j hj => ?_, h0.2, h1.2, h2.2⟩
  rcases (by omega : j = 0 ∨ j = 1 ∨ j = 2) with rfl | rfl | rfl
  · exact h0.1
  · exact h1.1
  · exact h2.1
theorem den_drop {cs : Array Value} (hsz : cs.size = 3) (h : flatC ti 9 40 (V.cells cs) 0) (ρ : Rho) : den ρ (dropV (ivOf (V.cells cs 0)) (ivOf (V.cells cs 1)) (ivOf (V.cells cs 2))) = .agg cs := by
  rw [← den_agg hsz ρ]; exact (den_aggF (fun j hj => (drop_cells h).1 j hj) ρ).symm
end Go.Proofs.Ytodgbpkdanefaaa.V
