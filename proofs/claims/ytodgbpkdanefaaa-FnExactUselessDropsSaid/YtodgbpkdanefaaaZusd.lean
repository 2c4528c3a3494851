/- Part 4 of the texts that this proof stands on: a symbolic walk over the program, what its functions and the reference's do, plain laws. -/
import Derived.Test.YtodgbpkdanefaaaV18
import Derived.Test.YtodgbpkdanefaaaZusb
import Derived.Test.YtodgbpkdanefaaaZusc
set_option linter.all false

/- Arguments of a law, one by one. -/
namespace Go.Proofs.Ytodgbpkdanefaaa.V
open Go.ChangeShapes Go.RowKit
section
variable {H : Type} {enc : TypeId × Value → H} {P : Program} {w : World} {base : Nat} {spare : Nat → Bool} {held : Bool} {args : Array Value} {ds : List (DataW H)} {ps : List MemPlace}
theorem trodA2 {t0 t1 : TypeId} (h : DataW.TrodAll enc P w base spare held [t0, t1] args.toList ds ps) :
    ∃ v0 v1 d0 d1 p0 p1, args = #[v0, v1] ∧ ds = [d0, d1] ∧ ps = p0 ++ p1 ∧ DataW.Trod enc P w base spare held t0 v0 d0 p0 ∧ DataW.Trod enc P w base spare held t1 v1 d1 p1 := by
  obtain ⟨v0, vs0, d0, ds0, p0, q0, hargs, rfl, rfl, h0, hr0⟩ := trodAll_cons h
  obtain ⟨v1, vs1, d1, ds1, p1, q1, rfl, rfl, rfl, h1, hr1⟩ := trodAll_cons hr0
  obtain ⟨rfl, rfl, rfl⟩ := trodAll_nil hr1
  exact ⟨v0, v1, d0, d1, p0, p1, by cases args; simp_all, rfl, by simp, h0, h1⟩
end
end Go.Proofs.Ytodgbpkdanefaaa.V

/- A spot that came in; four and five arguments. -/
namespace Go.Proofs.Ytodgbpkdanefaaa.V
open Go.ChangeShapes Go.RowKit

section
variable {H : Type} {enc : TypeId × Value → H} {P : Program} {w : World} {base : Nat} {spare : Nat → Bool} {held : Bool} {args : Array Value} {ds : List (DataW H)} {ps : List MemPlace}
end
end Go.Proofs.Ytodgbpkdanefaaa.V

/- A picture, a drop that came in. -/
namespace Go.Proofs.Ytodgbpkdanefaaa.V
open Go.ChangeShapes Go.RowKit
def pcOf (c : Nat → Value) : Pc := ⟨ivOf (c 0), ivOf (c 1), fun y x => if 0 ≤ y ∧ y < 8 ∧ 0 ≤ x ∧ x < 8 then ivOf (c (2 + y.toNat * 8 + x.toNat)) else 0⟩
theorem pic_cells {c : Nat → Value} (h : flatC ti 9 26 c 0) : PcR (pcOf c) ∧ ∀ j, j < 66 → svOf (c j) = pcC (pcOf c) j := by
  simp only [flatC_succ, go_sem, flatK_st, flatL_cons, flatL_nil, flatK_int, flatK_arr, Nat.zero_add, and_true, Nat.mul_one] at h
  obtain ⟨h0, h1, hw⟩ := h
  have ew : ∀ y x : Int, 0 ≤ y ∧ y < 8 ∧ 0 ≤ x ∧ x < 8 → _ := fun y x ⟨a, b, e, f⟩ => iv_u8 (hw y.toNat (by omega) x.toNat (by omega))
  refine ⟨⟨(iv_i8 h0).2, (iv_i8 h1).2, fun y x => ?_⟩, fun j hj => ?_⟩
  · simp only [pcOf]
    split
    · rename_i hc; exact (ew y x hc).2
    · omega
  · rcases (by omega : j = 0 ∨ j = 1 ∨ 2 ≤ j) with rfl | rfl | h2
    · exact (iv_i8 h0).1
    · exact (iv_i8 h1).1
    · have := (ew (((j - 2) / 8 : Nat) : Int) (((j - 2) % 8 : Nat) : Int) ⟨by omega, by omega, by omega, by omega⟩).1
      simp only [Int.toNat_natCast] at this
      rw [show 2 + (j - 2) / 8 * 8 + (j - 2) % 8 = j by omega] at this
      rw [this]
      unfold pcC
      rw [if_neg (by omega)]
      simp only [pcOf, if_pos (show (0 : Int) ≤ (((j - 2) / 8 : Nat) : Int) ∧ (((j - 2) / 8 : Nat) : Int) < 8 ∧ (0 : Int) ≤ (((j - 2) % 8 : Nat) : Int) ∧ (((j - 2) % 8 : Nat) : Int) < 8 by omega), Int.toNat_natCast]
      rw [show 2 + (j - 2) / 8 * 8 + (j - 2) % 8 = j by omega]
theorem den_pic {cs : Array Value} (hsz : cs.size = 66) (h : flatC ti 9 26 (V.cells cs) 0) (ρ : Rho) : den ρ (.agg 66 (pcC (pcOf (V.cells cs)))) = .agg cs := by
  rw [← den_agg hsz ρ]; exact (den_aggF (fun j hj => (pic_cells h).2 j hj) ρ).symm
theorem drop_cells {c : Nat → Value} (h : flatC ti 9 40 c 0) : (∀ j, j < 3 → svOf (c j) = cl [.int .i8 (ivOf (c 0)), .int .i8 (ivOf (c 1)), .int .u8 (ivOf (c 2))] j) ∧ (-128 ≤ ivOf (c 0) ∧ ivOf (c 0) < 128) ∧ (-128 ≤ ivOf (c 1) ∧ ivOf (c 1) < 128) ∧ 0 ≤ ivOf (c 2) ∧ ivOf (c 2) < 256 := by
  simp only [flatC_succ, go_sem, flatK_st, flatL_cons, flatL_nil, flatK_int, flatK_arr, Nat.zero_add, and_true, Nat.mul_one] at h
  obtain ⟨⟨a, b⟩, c'⟩ := h
  have h0 := iv_i8 a
  have h1 := iv_i8 b
  have h2 := iv_u8 c'
  refine ⟨fun j hj => ?_, h0.2, h1.2, h2.2⟩
  rcases (by omega : j = 0 ∨ j = 1 ∨ j = 2) with rfl | rfl | rfl
  · exact h0.1
  · exact h1.1
  · exact h2.1
end Go.Proofs.Ytodgbpkdanefaaa.V

/- Brushes and lists of spots that came in. -/
namespace Go.Proofs.Ytodgbpkdanefaaa.V
open Go.ChangeShapes Go.RowKit

end Go.Proofs.Ytodgbpkdanefaaa.V

/- Lists of drops that came in. -/
namespace Go.Proofs.Ytodgbpkdanefaaa.V
open Go.ChangeShapes Go.RowKit
def dropsOf (c : Nat → Value) (len : Nat) : List Dr := (List.range len).map fun i => (ivOf (c (i * 3)), ivOf (c (i * 3 + 1)), ivOf (c (i * 3 + 2)))
theorem dropsOf_len (c : Nat → Value) (len : Nat) : (dropsOf c len).length = len := by simp [dropsOf]
theorem dropsOf_get (c : Nat → Value) (len i : Nat) (h : i < len) : (dropsOf c len).getD i (0, 0, 0) = (ivOf (c (i * 3)), ivOf (c (i * 3 + 1)), ivOf (c (i * 3 + 2))) := by simp [dropsOf, List.getD_eq_getElem?_getD, h]
theorem dropsOf_cells {c : Nat → Value} {len : Nat} (h : ∀ i, i < len → flatC ti 9 40 (fun j => c (i * 3 + j)) 0) :
    DrAt ⟨len * 3, fun j => svOf (c j), false, none⟩ (dropsOf c len) ∧ DrR (dropsOf c len) := by
  have each := fun i hi => drop_cells (h i hi)
  refine ⟨⟨by simp [dropsOf_len], fun k hk => ?_⟩, fun k hk => ?_⟩
  · rw [dropsOf_len] at hk
    have hd := (each (k / 3) (by omega)).1
    show svOf (c k) = dropsC (dropsOf c len) k
    unfold dropsC
    rw [dropsOf_get c len (k / 3) (by omega)]
    by_cases e : k % 3 = 0
    · rw [if_pos e]
      have : k = k / 3 * 3 := by omega
      exact (congrArg svOf (congrArg c this)).trans (hd 0 (by omega))
    · rw [if_neg e]
      by_cases e1 : k % 3 = 1
      · rw [if_pos e1]
        have : k = k / 3 * 3 + 1 := by omega
        exact (congrArg svOf (congrArg c this)).trans (hd 1 (by omega))
      · rw [if_neg e1]
        have : k = k / 3 * 3 + 2 := by omega
        exact (congrArg svOf (congrArg c this)).trans (hd 2 (by omega))
  · rw [dropsOf_len] at hk
    rw [dropsOf_get c len k hk]
    exact ⟨(each k hk).2.1, (each k hk).2.2.1, (each k hk).2.2.2⟩
set_option maxRecDepth 100000 in
/-- A list of drops that came in: its memory, its value. -/
theorem drops_arg {H : Type} {enc : TypeId × Value → H} {W : World} {b0 : Nat} {v : Value} {d : DataW H} {ps : List MemPlace} {base : Nat} {sp : Nat → Bool} {hd : Bool}
    (hval : Value.okWide Try.prog W .any b0 50 v) (h : DataW.Trod enc Try.prog W base sp hd 50 v d ps) :
    ∃ (ρ : Rho) (h : List (Nat × Seg)) (A : SV) (L : List Dr), SatH (cx0 W) ρ h 1 W ∧ DrArg h 1 A L ∧ DrR L ∧ L.length ≤ 9223372036854775807 ∧ den ρ A = v := by
  have hk : (ti 50).k = .sl 40 := by simp only [go_sem]
  have hfb : flatB ti 9 40 = true := by kernel_rfl
  rcases slice_arg hti hk hfb hval h with rfl | ⟨b, off, len, cap, c, rfl, hb, hlc, hcm, hcell, hflat⟩
  · exact ⟨fun _ => (0, 0), [], .nils, [], ⟨Keeps.refl _ _, fun i s h => (by cases h), fun i j s t _ h => (by cases h), fun i s h => (by cases h)⟩, .inl ⟨rfl, rfl⟩, fun k hk => by simp at hk, by simp, rfl⟩
  · have hsz : (ti 40).sz = 3 := by simp only [go_sem]
    rw [hsz] at hcell hflat
    obtain ⟨h1, h2⟩ := dropsOf_cells hflat
    have hml : maxLen ≤ 9223372036854775807 := by simp only [Go.maxLen]; omega
    refine ⟨fun _ => (b, off), _, .sl 0 0 (dropsOf c len).length cap, dropsOf c len, sat1 W b off (len * 3) c hb hcell, .inr ⟨0, cap, _, rfl, by omega, rfl, h1⟩, h2, by rw [dropsOf_len]; omega, ?_⟩
    simp only [den, dropsOf_len, Nat.add_zero]
end Go.Proofs.Ytodgbpkdanefaaa.V
