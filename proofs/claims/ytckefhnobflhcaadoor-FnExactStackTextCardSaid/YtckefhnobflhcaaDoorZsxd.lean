/- Part 4 of the texts that this proof stands on: a symbolic walk over the program, what its functions and the reference's do, plain laws. -/
import Derived.Test.YtckefhnobflhcaaDoorZsxc
import Derived.Test.YtckefhnobflhcaaDoorV18
import Derived.Test.YtckefhnobflhcaaDoorZsxb
set_option linter.all false

/- Arguments of a law, one by one. -/
namespace Go.Proofs.YtckefhnobflhcaaDoor.V
open Go.ChangeShapes Go.RowKit
section
variable {H : Type} {enc : TypeId × Value → H} {P : Program} {w : World} {base : Nat} {spare : Nat → Bool} {held : Bool} {args : Array Value} {ds : List (DataW H)} {ps : List MemPlace}
theorem trodA1 {t0 : TypeId} (h : DataW.TrodAll enc P w base spare held [t0] args.toList ds ps) :
    ∃ v0 d0 p0, args = #[v0] ∧ ds = [d0] ∧ ps = p0 ∧ DataW.Trod enc P w base spare held t0 v0 d0 p0 := by
  obtain ⟨v0, vs0, d0, ds0, p0, q0, hargs, rfl, rfl, h0, hr0⟩ := trodAll_cons h
  obtain ⟨rfl, rfl, rfl⟩ := trodAll_nil hr0
  exact ⟨v0, d0, p0, by cases args; simp_all, rfl, by simp, h0⟩
end
end Go.Proofs.YtckefhnobflhcaaDoor.V

/- A stack that came in. -/
namespace Go.Proofs.YtckefhnobflhcaaDoor.V
open Go.ChangeShapes Go.RowKit

def stackOf (c : Nat → Value) (len : Nat) : List Sh := (List.range len).map fun i => shOf fun j => c (i * 266 + j)
theorem stackOf_len (c : Nat → Value) (len : Nat) : (stackOf c len).length = len := by simp [stackOf]
theorem stackOf_get (c : Nat → Value) (len i : Nat) (h : i < len) : (stackOf c len).getD i sh0 = shOf fun j => c (i * 266 + j) := by simp [stackOf, List.getD_eq_getElem?_getD, h]
theorem stackOf_cells {c : Nat → Value} {len : Nat} (h : ∀ i, i < len → flatC ti 9 31 (fun j => c (i * 266 + j)) 0) :
    StAt ⟨len * 266, fun j => svOf (c j), false, none⟩ (stackOf c len) ∧ StR (stackOf c len) := by
  have each : ∀ i, i < len → ShF (fun j => svOf (c (i * 266 + j))) (shOf fun j => c (i * 266 + j)) := fun i hi => shF_of (h i hi)
  refine ⟨⟨by rw [stackOf_len]; exact Nat.le_refl _, fun k hk => ?_⟩, fun i hi => ?_⟩
  · rw [stackOf_len] at hk
    have hk1 : k / 266 < len := (Nat.div_lt_iff_lt_mul (by decide)).2 hk
    have hk2 : k % 266 < 266 := Nat.mod_lt _ (by decide)
    have e := (each (k / 266) hk1).eqC hk2
    show svOf (c k) = stC (stackOf c len) k
    unfold stC
    rw [stackOf_get c len _ hk1, ← e]
    show svOf (c k) = svOf (c (k / 266 * 266 + k % 266))
    rw [Nat.div_add_mod' k 266]
  · rw [stackOf_len] at hi
    rw [stackOf_get c len i hi]
    exact (each i hi).R
set_option maxRecDepth 100000 in
/-- A stack that came in: its memory, its value. -/
theorem stack_arg {H : Type} {enc : TypeId × Value → H} {W : World} {b0 : Nat} {v : Value} {d : DataW H} {ps : List MemPlace} {base : Nat} {sp : Nat → Bool} {hd : Bool}
    (hval : Value.okWide Tryd.prog W .any b0 44 v) (h : DataW.Trod enc Tryd.prog W base sp hd 44 v d ps) :
    ∃ (ρ : Rho) (h : List (Nat × Seg)) (A : SV) (L : List Sh), SatH (cx0 W) ρ h 1 W ∧ StArg h 1 A L ∧ StR L ∧ L.length ≤ 9223372036854775807 ∧ den ρ A = v := by
  have hk : (ti 44).k = .sl 31 := by simp only [go_sem]
  have hfb : flatB ti 9 31 = true := by kernel_rfl
  rcases slice_arg hti hk hfb hval h with rfl | ⟨b, off, len, cap, c, rfl, hb, hlc, hcm, hcell, hflat⟩
  · exact ⟨fun _ => (0, 0), [], .nils, [], ⟨Keeps.refl _ _, fun i s h => (by cases h), fun i j s t _ h => (by cases h), fun i s h => (by cases h)⟩, .inl ⟨rfl, rfl⟩, fun k hk => by simp at hk, by simp, rfl⟩
  · have hsz : (ti 31).sz = 266 := by simp only [go_sem]
    rw [hsz] at hcell hflat
    obtain ⟨h1, h2⟩ := stackOf_cells hflat
    have hml : maxLen ≤ 9223372036854775807 := by simp only [Go.maxLen]; omega
    refine ⟨fun _ => (b, off), _, .sl 0 0 (stackOf c len).length cap, stackOf c len, sat1 W b off (len * 266) c hb hcell, .inr ⟨0, cap, _, rfl, by omega, rfl, h1⟩, h2, by rw [stackOf_len]; omega, ?_⟩
    simp only [den, stackOf_len, Nat.add_zero]
end Go.Proofs.YtckefhnobflhcaaDoor.V
