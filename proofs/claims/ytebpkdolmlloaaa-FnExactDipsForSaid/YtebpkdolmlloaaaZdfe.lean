/- Part 5 of the texts that this proof stands on: a symbolic walk over the program, what its functions and the reference's do, plain laws. -/
import Derived.Test.YtebpkdolmlloaaaV18
import Derived.Test.YtebpkdolmlloaaaZdfc
import Derived.Test.YtebpkdolmlloaaaZdfd
set_option linter.all false

/- Brushes and lists of spots that came in. -/
namespace Go.Proofs.Ytebpkdolmlloaaa.V
open Go.ChangeShapes Go.RowKit

def brOf (c : Nat → Value) : Br := ⟨ivOf (c 0), ivOf (c 1), ivOf (c 2), ivOf (c 3), ivOf (c 4)⟩
theorem brOf_cells {c : Nat → Value} (h : flatC ti 9 39 c 0) : (∀ j, j < 5 → svOf (c j) = brC (brOf c) j) ∧ BrR (brOf c) := by
  simp only [flatC_succ, go_sem, flatK_st, flatL_cons, flatL_nil, flatK_int, flatK_arr, Nat.zero_add, and_true, Nat.mul_one] at h
  obtain ⟨hd, hw, hs⟩ := h
  have h0 := iv_i16 (hd 0 (by omega))
  have h1 := iv_i16 (hd 1 (by omega))
  have h2 := iv_i16 (hd 2 (by omega))
  have h3 := iv_i16 hw
  have h4 := iv_i8 hs
  refine ⟨fun j hj => ?_, h0.2, h1.2, h2.2, h3.2, h4.2⟩
  rcases (by omega : j = 0 ∨ j = 1 ∨ j = 2 ∨ j = 3 ∨ j = 4) with rfl | rfl | rfl | rfl | rfl
  · exact h0.1
  · exact h1.1
  · exact h2.1
  · exact h3.1
  · exact h4.1
theorem den_brush {cs : Array Value} (hsz : cs.size = 5) (h : flatC ti 9 39 (V.cells cs) 0) (ρ : Rho) : den ρ (.agg 5 (brC (brOf (V.cells cs)))) = .agg cs := by
  rw [← den_agg hsz ρ]; exact (den_aggF (fun j hj => (brOf_cells h).1 j hj) ρ).symm

def spotsOf (c : Nat → Value) (len : Nat) : List (Int × Int) := (List.range len).map fun i => (ivOf (c (i * 2)), ivOf (c (i * 2 + 1)))
theorem spotsOf_len (c : Nat → Value) (len : Nat) : (spotsOf c len).length = len := by simp [spotsOf]
theorem spotsOf_get (c : Nat → Value) (len i : Nat) (h : i < len) : (spotsOf c len).getD i (0, 0) = (ivOf (c (i * 2)), ivOf (c (i * 2 + 1))) := by simp [spotsOf, List.getD_eq_getElem?_getD, h]
theorem spotsOf_cells {c : Nat → Value} {len : Nat} (h : ∀ i, i < len → flatC ti 9 91 (fun j => c (i * 2 + j)) 0) :
    SpsAt ⟨len * 2, fun j => svOf (c j), false, none⟩ (spotsOf c len) ∧ SpotsR (spotsOf c len) := by
  have each : ∀ i, i < len → (svOf (c (i * 2)) = .int .i8 (ivOf (c (i * 2))) ∧ -128 ≤ ivOf (c (i * 2)) ∧ ivOf (c (i * 2)) < 128) ∧ (svOf (c (i * 2 + 1)) = .int .i8 (ivOf (c (i * 2 + 1))) ∧ -128 ≤ ivOf (c (i * 2 + 1)) ∧ ivOf (c (i * 2 + 1)) < 128) := by
    intro i hi
    have h1 := h i hi
    simp only [flatC_succ, go_sem, flatK_st, flatL_cons, flatL_nil, flatK_int, flatK_arr, Nat.zero_add, and_true, Nat.mul_one] at h1
    exact ⟨iv_i8 h1.1, iv_i8 h1.2⟩
  refine ⟨⟨by simp [spotsOf_len], fun k hk => ?_⟩, fun k hk => ?_⟩
  · rw [spotsOf_len] at hk
    have hd := each (k / 2) (by omega)
    show svOf (c k) = spotsC (spotsOf c len) k
    unfold spotsC
    rw [spotsOf_get c len (k / 2) (by omega)]
    by_cases e : k % 2 = 0
    · rw [if_pos e]
      have : k = k / 2 * 2 := by omega
      exact (congrArg svOf (congrArg c this)).trans hd.1.1
    · rw [if_neg e]
      have : k = k / 2 * 2 + 1 := by omega
      exact (congrArg svOf (congrArg c this)).trans hd.2.1
  · rw [spotsOf_len] at hk
    rw [spotsOf_get c len k hk]
    exact ⟨(each k hk).1.2, (each k hk).2.2⟩
set_option maxRecDepth 100000 in
/-- A list of spots that came in: its memory, its value. -/
theorem spots_arg {H : Type} {enc : TypeId × Value → H} {W : World} {b0 : Nat} {v : Value} {d : DataW H} {ps : List MemPlace} {base : Nat} {sp : Nat → Bool} {hd : Bool}
    (hval : Value.okWide Try.prog W .any b0 40 v) (h : DataW.Trod enc Try.prog W base sp hd 40 v d ps) :
    ∃ (ρ : Rho) (h : List (Nat × Seg)) (A : SV) (L : List (Int × Int)), SatH (cx0 W) ρ h 1 W ∧ SpsArg h 1 A L ∧ SpotsR L ∧ L.length ≤ 9223372036854775807 ∧ den ρ A = v := by
  have hk : (ti 40).k = .sl 91 := by simp only [go_sem]
  have hfb : flatB ti 9 91 = true := by kernel_rfl
  rcases slice_arg hti hk hfb hval h with rfl | ⟨b, off, len, cap, c, rfl, hb, hlc, hcm, hcell, hflat⟩
  · exact ⟨fun _ => (0, 0), [], .nils, [], ⟨Keeps.refl _ _, fun i s h => (by cases h), fun i j s t _ h => (by cases h), fun i s h => (by cases h)⟩, .inl ⟨rfl, rfl⟩, fun k hk => by simp at hk, by simp, rfl⟩
  · have hsz : (ti 91).sz = 2 := by simp only [go_sem]
    rw [hsz] at hcell hflat
    obtain ⟨h1, h2⟩ := spotsOf_cells hflat
    have hml : maxLen ≤ 9223372036854775807 := by simp only [Go.maxLen]; omega
    refine ⟨fun _ => (b, off), _, .sl 0 0 (spotsOf c len).length cap, spotsOf c len, sat1 W b off (len * 2) c hb hcell, .inr ⟨0, cap, _, rfl, by omega, rfl, h1⟩, h2, by rw [spotsOf_len]; omega, ?_⟩
    simp only [den, spotsOf_len, Nat.add_zero]
end Go.Proofs.Ytebpkdolmlloaaa.V
