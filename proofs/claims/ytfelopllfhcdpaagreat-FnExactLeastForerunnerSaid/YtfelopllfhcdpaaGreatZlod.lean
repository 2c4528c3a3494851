/- Part 4 of the texts that this proof stands on: a symbolic walk over the program, what its functions and the reference's do, plain laws. -/
import Derived.Test.YtfelopllfhcdpaaGreatV18
import Derived.Test.YtfelopllfhcdpaaGreatZlob
import Derived.Test.YtfelopllfhcdpaaGreatZloc
set_option linter.all false

/- Arguments of a law, one by one. -/
namespace Go.Proofs.YtfelopllfhcdpaaGreat.V
open Go.ChangeShapes Go.RowKit
section
variable {H : Type} {enc : TypeId × Value → H} {P : Program} {w : World} {base : Nat} {spare : Nat → Bool} {held : Bool} {args : Array Value} {ds : List (DataW H)} {ps : List MemPlace}
theorem trodA2 {t0 t1 : TypeId} (h : DataW.TrodAll enc P w base spare held [t0, t1] args.toList ds ps) :
    ∃ v0 v1 d0 d1 p0 p1, args = #[v0, v1] ∧ ds = [d0, d1] ∧ ps = p0 ++ p1 ∧ DataW.Trod enc P w base spare held t0 v0 d0 p0 ∧ DataW.Trod enc P w base spare held t1 v1 d1 p1 := by
  obtain ⟨v0, vs0, d0, ds0, p0, q0, hargs, rfl, rfl, h0, hr0⟩ := trodAll_cons h
  obtain ⟨v1, vs1, d1, ds1, p1, q1, rfl, rfl, rfl, h1, hr1⟩ := trodAll_cons hr0
  obtain ⟨rfl, rfl, rfl⟩ := trodAll_nil hr1
  exact ⟨v0, v1, d0, d1, p0, p1, by cases args; simp_all, rfl, by simp, h0, h1⟩
end
end Go.Proofs.YtfelopllfhcdpaaGreat.V

/- Brushes and lists of spots that came in. -/
namespace Go.Proofs.YtfelopllfhcdpaaGreat.V
open Go.ChangeShapes Go.RowKit

def spotsOf (c : Nat → Value) (len : Nat) : List (Int × Int) := (List.range len).map fun i => (ivOf (c (i * 2)), ivOf (c (i * 2 + 1)))
theorem spotsOf_len (c : Nat → Value) (len : Nat) : (spotsOf c len).length = len := by simp [spotsOf]
theorem spotsOf_get (c : Nat → Value) (len i : Nat) (h : i < len) : (spotsOf c len).getD i (0, 0) = (ivOf (c (i * 2)), ivOf (c (i * 2 + 1))) := by simp [spotsOf, List.getD_eq_getElem?_getD, h]
theorem spotsOf_cells {c : Nat → Value} {len : Nat} (h : ∀ i, i < len → flatC ti 9 68 (fun j => c (i * 2 + j)) 0) :
    SpsAt ⟨len * 2, fun j => svOf (c j), false, none⟩ (spotsOf c len) ∧ SpotsR (spotsOf c len) := by
  have each : ∀ i, i < len → (svOf (c (i * 2)) = .int .i8 (ivOf (c (i * 2))) ∧ -128 ≤ ivOf (c (i * 2)) ∧ ivOf (c (i * 2)) < 128) ∧ (svOf (c (i * 2 + 1)) = .int .i8 (ivOf (c (i * 2 + 1))) ∧ -128 ≤ ivOf (c (i * 2 + 1)) ∧ ivOf (c (i * 2 + 1)) < 128) := by
    intro i hi
    have h1 := h i hi
    simp only [flatC_succ, go_sem, flatK_st, flatL_cons, flatL_nil, flatK_int, flatK_arr, Nat.zero_add, and_true, Nat.mul_one] at h1
    exact ⟨iv_i8 h1.1, iv_i8 h1.2⟩
  refine ⟨⟨by simp [spotsOf_len], fun k hk => ?_⟩, fun k hk => ?_⟩
  · rw [spotsOf_len] at hk
    have hd := each (k / 2) (by omega)
    show svOf (c k) = spotsC (spotsOf c len) k
    unfold spotsC
    rw [spotsOf_get c len (k / 2) (by omega)]
    by_cases e : k % 2 = 0
    · rw [if_pos e]
      have : k = k / 2 * 2 := by omega
      exact (congrArg svOf (congrArg c this)).trans hd.1.1
    · rw [if_neg e]
      have : k = k / 2 * 2 + 1 := by omega
      exact (congrArg svOf (congrArg c this)).trans hd.2.1
  · rw [spotsOf_len] at hk
    rw [spotsOf_get c len k hk]
    exact ⟨(each k hk).1.2, (each k hk).2.2⟩
set_option maxRecDepth 100000 in
/-- A list of spots that came in: its memory, its value. -/
theorem spots_arg {H : Type} {enc : TypeId × Value → H} {W : World} {b0 : Nat} {v : Value} {d : DataW H} {ps : List MemPlace} {base : Nat} {sp : Nat → Bool} {hd : Bool}
    (hval : Value.okWide Tryz.prog W .any b0 32 v) (h : DataW.Trod enc Tryz.prog W base sp hd 32 v d ps) :
    ∃ (ρ : Rho) (h : List (Nat × Seg)) (A : SV) (L : List (Int × Int)), SatH (cx0 W) ρ h 1 W ∧ SpsArg h 1 A L ∧ SpotsR L ∧ L.length ≤ 9223372036854775807 ∧ den ρ A = v := by
  have hk : (ti 32).k = .sl 68 := by simp only [go_sem]
  have hfb : flatB ti 9 68 = true := by kernel_rfl
  rcases slice_arg hti hk hfb hval h with rfl | ⟨b, off, len, cap, c, rfl, hb, hlc, hcm, hcell, hflat⟩
  · exact ⟨fun _ => (0, 0), [], .nils, [], ⟨Keeps.refl _ _, fun i s h => (by cases h), fun i j s t _ h => (by cases h), fun i s h => (by cases h)⟩, .inl ⟨rfl, rfl⟩, fun k hk => by simp at hk, by simp, rfl⟩
  · have hsz : (ti 68).sz = 2 := by simp only [go_sem]
    rw [hsz] at hcell hflat
    obtain ⟨h1, h2⟩ := spotsOf_cells hflat
    have hml : maxLen ≤ 9223372036854775807 := by simp only [Go.maxLen]; omega
    refine ⟨fun _ => (b, off), _, .sl 0 0 (spotsOf c len).length cap, spotsOf c len, sat1 W b off (len * 2) c hb hcell, .inr ⟨0, cap, _, rfl, by omega, rfl, h1⟩, h2, by rw [spotsOf_len]; omega, ?_⟩
    simp only [den, spotsOf_len, Nat.add_zero]
end Go.Proofs.YtfelopllfhcdpaaGreat.V
