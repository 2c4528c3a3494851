/- Part 2 of the texts that this proof stands on: a symbolic walk over the program, what its functions and the reference's do, plain laws. -/
import Derived.Test.YtodgbpkdanefaaaZfda
import Derived.Test.YtodgbpkdanefaaaV16
import Derived.Test.YtodgbpkdanefaaaV14
set_option linter.all false

/- The law's copy of three numbers: the walk. -/
namespace Go.Proofs.Ytodgbpkdanefaaa.V
section
variable (cx : Cx) (h : List (Nat × Seg)) (n : Nat)
end
end Go.Proofs.Ytodgbpkdanefaaa.V

/- The law's copies of arrays of three numbers: the walk. -/
namespace Go.Proofs.Ytodgbpkdanefaaa.V
section
variable (cx : Cx) (h : List (Nat × Seg)) (n : Nat)

end
end Go.Proofs.Ytodgbpkdanefaaa.V

/- The law's copy of a sheet: the walk. -/
namespace Go.Proofs.Ytodgbpkdanefaaa.V
theorem ShF.congr {F F' : Nat → SV} {S : Sh} (h : ShF F S) (he : ∀ j, j < 266 → F' j = F j) : ShF F' S :=
  ⟨h.R, (he 0 (by omega)).trans h.wide, (he 1 (by omega)).trans h.high, fun y x a b c d => (he _ (by omega)).trans (h.wet y x a b c d), fun y x i a b c d e f => (he _ (by omega)).trans (h.dye y x i a b c d e f), fun y a b => (he _ (by omega)).trans (h.wax y a b)⟩
theorem ShF.wetC {F : Nat → SV} {S : Sh} (h : ShF F S) (j : Nat) (hj : j < 64) : ∃ v, F (2 + j) = .int .i16 v := by
  have := h.wet ((j / 8 : Nat) : Int) ((j % 8 : Nat) : Int) (by omega) (by omega) (by omega) (by omega)
  simp only [Int.toNat_natCast] at this
  exact ⟨_, by rw [show 2 + j = 2 + j / 8 * 8 + j % 8 by omega]; exact this⟩
theorem ShF.dyeC {F : Nat → SV} {S : Sh} (h : ShF F S) (j : Nat) (hj : j < 192) : ∃ v, F (66 + j) = .int .i16 v := by
  have := h.dye ((j / 24 : Nat) : Int) ((j % 24 / 3 : Nat) : Int) ((j % 3 : Nat) : Int) (by omega) (by omega) (by omega) (by omega) (by omega) (by omega)
  simp only [Int.toNat_natCast] at this
  exact ⟨_, by rw [show 66 + j = 66 + j / 24 * 24 + j % 24 / 3 * 3 + j % 3 by omega]; exact this⟩
theorem ShF.waxC {F : Nat → SV} {S : Sh} (h : ShF F S) (j : Nat) (hj : j < 8) : ∃ v, F (258 + j) = .int .u8 v := by
  have := h.wax (j : Int) (by omega) (by omega)
  simp only [Int.toNat_natCast] at this
  exact ⟨_, this⟩
theorem ShF.wetS {F : Nat → SV} {S : Sh} (h : ShF F S) (j : Nat) (hj : j < 64) : F (2 + j) = .int .i16 (S.wet ((j / 8 : Nat) : Int) ((j % 8 : Nat) : Int)) := by
  have := h.wet ((j / 8 : Nat) : Int) ((j % 8 : Nat) : Int) (by omega) (by omega) (by omega) (by omega)
  simp only [Int.toNat_natCast] at this
  rw [show 2 + j = 2 + j / 8 * 8 + j % 8 by omega]; exact this
theorem ShF.dyeS {F : Nat → SV} {S : Sh} (h : ShF F S) (j : Nat) (hj : j < 192) : F (66 + j) = .int .i16 (S.dye ((j / 24 : Nat) : Int) ((j % 24 / 3 : Nat) : Int) ((j % 3 : Nat) : Int)) := by
  have := h.dye ((j / 24 : Nat) : Int) ((j % 24 / 3 : Nat) : Int) ((j % 3 : Nat) : Int) (by omega) (by omega) (by omega) (by omega) (by omega) (by omega)
  simp only [Int.toNat_natCast] at this
  rw [show 66 + j = 66 + j / 24 * 24 + j % 24 / 3 * 3 + j % 3 by omega]; exact this
theorem ShF.waxS {F : Nat → SV} {S : Sh} (h : ShF F S) (j : Nat) (hj : j < 8) : F (258 + j) = .int .u8 (S.wax (j : Int)) := by
  have := h.wax (j : Int) (by omega) (by omega)
  simp only [Int.toNat_natCast] at this
  exact this
def sh0 : Sh := ⟨0, 0, fun _ _ => 0, fun _ _ _ => 0, fun _ => 0⟩
theorem ShF.zero {F : Nat → SV} (h : ∀ j, F j = zeroC j) : ShF F sh0 where
  R := ⟨by simp [sh0], by simp [sh0], fun y x => by simp [sh0], fun y x i => by simp [sh0], fun y => by simp [sh0]⟩
  wide := h 0
  high := h 1
  wet := fun y x a b c d => by rw [h]; unfold zeroC; rw [if_neg (by omega), if_pos (by omega)]; rfl
  dye := fun y x i a b c d e f => by rw [h]; unfold zeroC; rw [if_neg (by omega), if_pos (by omega)]; rfl
  wax := fun y a b => by rw [h]; unfold zeroC; rw [if_neg (by omega), if_neg (by omega)]; rfl
section
variable (cx : Cx) (h : List (Nat × Seg)) (n : Nat)
end
end Go.Proofs.Ytodgbpkdanefaaa.V

/- A sheet that came in. -/
namespace Go.Proofs.Ytodgbpkdanefaaa.V

theorem wf_i8 {n : Int} (h : (Lit.int .i8 n).wf = true) : -128 ≤ n ∧ n < 128 := by
  simp [Lit.wf, IntKind.min, IntKind.max, IntKind.signed, IntKind.bits] at h; omega
theorem wf_i16 {n : Int} (h : (Lit.int .i16 n).wf = true) : -32768 ≤ n ∧ n < 32768 := by
  simp [Lit.wf, IntKind.min, IntKind.max, IntKind.signed, IntKind.bits] at h; omega
theorem wf_u8 {n : Int} (h : (Lit.int .u8 n).wf = true) : 0 ≤ n ∧ n < 256 := by
  simp [Lit.wf, IntKind.min, IntKind.max, IntKind.signed, IntKind.bits] at h; omega

/-- The sheet that cells tell. -/
def shOf (c : Nat → Value) : Sh :=
  ⟨ivOf (c 0), ivOf (c 1), fun y x => if 0 ≤ y ∧ y < 8 ∧ 0 ≤ x ∧ x < 8 then ivOf (c (2 + y.toNat * 8 + x.toNat)) else 0,
    fun y x i => if 0 ≤ y ∧ y < 8 ∧ 0 ≤ x ∧ x < 8 ∧ 0 ≤ i ∧ i < 3 then ivOf (c (66 + y.toNat * 24 + x.toNat * 3 + i.toNat)) else 0,
    fun y => if 0 ≤ y ∧ y < 8 then ivOf (c (258 + y.toNat)) else 0⟩
theorem iv_i8 {v : Value} (h : ∃ n, v = .int .i8 n ∧ (Lit.int .i8 n).wf = true) : svOf v = .int .i8 (ivOf v) ∧ -128 ≤ ivOf v ∧ ivOf v < 128 := by
  obtain ⟨n, rfl, h⟩ := h; exact ⟨rfl, wf_i8 h⟩
theorem iv_i16 {v : Value} (h : ∃ n, v = .int .i16 n ∧ (Lit.int .i16 n).wf = true) : svOf v = .int .i16 (ivOf v) ∧ -32768 ≤ ivOf v ∧ ivOf v < 32768 := by
  obtain ⟨n, rfl, h⟩ := h; exact ⟨rfl, wf_i16 h⟩
theorem iv_u8 {v : Value} (h : ∃ n, v = .int .u8 n ∧ (Lit.int .u8 n).wf = true) : svOf v = .int .u8 (ivOf v) ∧ 0 ≤ ivOf v ∧ ivOf v < 256 := by
  obtain ⟨n, rfl, h⟩ := h; exact ⟨rfl, wf_u8 h⟩

theorem ShF.ltF {F : Nat → SV} {S : Sh} (h : ShF F S) (m : Nat) : (SV.agg 266 F).lt m := fun j hj => SV.flat.below (h.flat hj) m
end Go.Proofs.Ytodgbpkdanefaaa.V

/- Sheets told by their numbers alone: canonical cells, loads, stores. -/
namespace Go.Proofs.Ytodgbpkdanefaaa.V

def shC (S : Sh) : Nat → SV := fun j =>
  if j < 2 then (if j < 1 then .int .i8 S.wide else .int .i8 S.high)
  else if j < 258 then (if j < 66 then .int .i16 (S.wet (((j - 2) / 8 : Nat) : Int) (((j - 2) % 8 : Nat) : Int)) else .int .i16 (S.dye (((j - 66) / 24 : Nat) : Int) (((j - 66) % 24 / 3 : Nat) : Int) (((j - 66) % 3 : Nat) : Int)))
  else .int .u8 (S.wax ((j - 258 : Nat) : Int))
def shS (S : Sh) : Seg := ⟨266, shC S, true, none⟩
@[go_sem] theorem shS_eq (S : Sh) : shS S = ⟨266, shC S, true, none⟩ := rfl
theorem shC_flat (S : Sh) (j : Nat) : (shC S j).flat := by unfold shC; (repeat' split) <;> trivial
@[go_sem] theorem shC_ones (S : Sh) : ones (.agg 266 (shC S)) = True := eq_true fun j hj => (shC_flat S j).one
@[go_sem] theorem shC_ones' (S : Sh) : ones (.agg 266 fun j => shC S j) = True := shC_ones S
@[go_sem] theorem shC_0 (S : Sh) : shC S 0 = .int .i8 S.wide := rfl
@[go_sem] theorem shC_1 (S : Sh) : shC S 1 = .int .i8 S.high := rfl
section
variable (S : Sh) (y x i v : Int)
theorem nat_of (h1 : 0 ≤ y) : ((y.toNat : Nat) : Int) = y := Int.toNat_of_nonneg h1
@[go_sem] theorem shC_wet (h1 : 0 ≤ y) (h2 : y < 8) (h3 : 0 ≤ x) (h4 : x < 8) : shC S (2 + y.toNat * 8 + x.toNat) = .int .i16 (S.wet y x) := by
  unfold shC
  rw [if_neg (by omega), if_pos (by omega), if_pos (by omega), show (2 + y.toNat * 8 + x.toNat - 2) / 8 = y.toNat by omega, show (2 + y.toNat * 8 + x.toNat - 2) % 8 = x.toNat by omega, nat_of _ h1, nat_of _ h3]
theorem shC_dyeN (k : Nat) (h1 : 0 ≤ y) (h2 : y < 8) (h3 : 0 ≤ x) (h4 : x < 8) (h5 : k < 3) : shC S (66 + y.toNat * 24 + x.toNat * 3 + k) = .int .i16 (S.dye y x k) := by
  unfold shC
  rw [if_neg (by omega), if_pos (by omega), if_neg (by omega), show (66 + y.toNat * 24 + x.toNat * 3 + k - 66) / 24 = y.toNat by omega, show (66 + y.toNat * 24 + x.toNat * 3 + k - 66) % 24 / 3 = x.toNat by omega,
    show (66 + y.toNat * 24 + x.toNat * 3 + k - 66) % 3 = k by omega, nat_of _ h1, nat_of _ h3]
@[go_sem] theorem shC_dye0 (h1 : 0 ≤ y) (h2 : y < 8) (h3 : 0 ≤ x) (h4 : x < 8) : shC S (66 + y.toNat * 24 + x.toNat * 3) = .int .i16 (S.dye y x 0) := shC_dyeN S y x 0 h1 h2 h3 h4 (by omega)
@[go_sem] theorem shC_dye1 (h1 : 0 ≤ y) (h2 : y < 8) (h3 : 0 ≤ x) (h4 : x < 8) : shC S (66 + y.toNat * 24 + x.toNat * 3 + 1) = .int .i16 (S.dye y x 1) := shC_dyeN S y x 1 h1 h2 h3 h4 (by omega)
@[go_sem] theorem shC_dye2 (h1 : 0 ≤ y) (h2 : y < 8) (h3 : 0 ≤ x) (h4 : x < 8) : shC S (66 + y.toNat * 24 + x.toNat * 3 + 2) = .int .i16 (S.dye y x 2) := shC_dyeN S y x 2 h1 h2 h3 h4 (by omega)
@[go_sem] theorem shC_dyeI (h1 : 0 ≤ y) (h2 : y < 8) (h3 : 0 ≤ x) (h4 : x < 8) (h5 : 0 ≤ i) (h6 : i < 3) : shC S (66 + y.toNat * 24 + x.toNat * 3 + i.toNat) = .int .i16 (S.dye y x i) := by
  rw [shC_dyeN S y x i.toNat h1 h2 h3 h4 (by omega), nat_of _ h5]
@[go_sem] theorem shC_wax (h1 : 0 ≤ y) (h2 : y < 8) : shC S (258 + y.toNat) = .int .u8 (S.wax y) := by
  unfold shC
  rw [if_neg (by omega), if_neg (by omega), show 258 + y.toNat - 258 = y.toNat by omega, nat_of _ h1]

def Sh.setWax (S : Sh) (y v : Int) : Sh := { S with wax := fun y' => if y' = y then v else S.wax y' }
@[go_sem] theorem shC_setWet (h1 : 0 ≤ y) (h2 : y < 8) (h3 : 0 ≤ x) (h4 : x < 8) : upd (shC S) (2 + y.toNat * 8 + x.toNat) (.int .i16 v) = shC (S.setWet y x v) := by
  funext j
  unfold upd shC Sh.setWet
  simp only
  split
  · rename_i hj; subst hj
    rw [if_neg (by omega), if_pos (by omega), if_pos (by omega), if_pos (by omega)]
  · rename_i hj
    split
    · rfl
    · split
      · split
        · rw [if_neg (by omega)]
        · rfl
      · rfl
theorem shC_setDyeN (k : Nat) (h1 : 0 ≤ y) (h2 : y < 8) (h3 : 0 ≤ x) (h4 : x < 8) (h5 : k < 3) : upd (shC S) (66 + y.toNat * 24 + x.toNat * 3 + k) (.int .i16 v) = shC (S.setDye y x k v) := by
  funext j
  unfold upd shC Sh.setDye
  simp only
  split
  · rename_i hj; subst hj
    rw [if_neg (by omega), if_pos (by omega), if_neg (by omega), if_pos (by omega)]
  · rename_i hj
    split
    · rfl
    · split
      · split
        · rfl
        · rw [if_neg (by omega)]
      · rfl
@[go_sem] theorem shC_setDye0 (h1 : 0 ≤ y) (h2 : y < 8) (h3 : 0 ≤ x) (h4 : x < 8) : upd (shC S) (66 + y.toNat * 24 + x.toNat * 3) (.int .i16 v) = shC (S.setDye y x 0 v) := shC_setDyeN S y x v 0 h1 h2 h3 h4 (by omega)
@[go_sem] theorem shC_setDye1 (h1 : 0 ≤ y) (h2 : y < 8) (h3 : 0 ≤ x) (h4 : x < 8) : upd (shC S) (66 + y.toNat * 24 + x.toNat * 3 + 1) (.int .i16 v) = shC (S.setDye y x 1 v) := shC_setDyeN S y x v 1 h1 h2 h3 h4 (by omega)
@[go_sem] theorem shC_setDye2 (h1 : 0 ≤ y) (h2 : y < 8) (h3 : 0 ≤ x) (h4 : x < 8) : upd (shC S) (66 + y.toNat * 24 + x.toNat * 3 + 2) (.int .i16 v) = shC (S.setDye y x 2 v) := shC_setDyeN S y x v 2 h1 h2 h3 h4 (by omega)
@[go_sem] theorem shC_setDyeI (h1 : 0 ≤ y) (h2 : y < 8) (h3 : 0 ≤ x) (h4 : x < 8) (h5 : 0 ≤ i) (h6 : i < 3) : upd (shC S) (66 + y.toNat * 24 + x.toNat * 3 + i.toNat) (.int .i16 v) = shC (S.setDye y x i v) := by
  rw [shC_setDyeN S y x v i.toNat h1 h2 h3 h4 (by omega), nat_of _ h5]
@[go_sem] theorem shC_setWax (h1 : 0 ≤ y) (h2 : y < 8) : upd (shC S) (258 + y.toNat) (.int .u8 v) = shC (S.setWax y v) := by
  funext j
  unfold upd shC Sh.setWax
  simp only
  split
  · rename_i hj; subst hj
    rw [if_neg (by omega), if_neg (by omega), if_pos (by omega)]
  · rename_i hj
    split
    · rfl
    · split
      · rfl
      · rw [if_neg (by omega)]
@[go_sem] theorem shC_setWide : upd (shC S) 0 (.int .i8 v) = shC { S with wide := v } := by
  funext j; unfold upd shC; simp only; split
  · rename_i hj; subst hj; rfl
  · (repeat' split) <;> first | rfl | omega
@[go_sem] theorem shC_setHigh : upd (shC S) 1 (.int .i8 v) = shC { S with high := v } := by
  funext j; unfold upd shC; simp only; split
  · rename_i hj; subst hj; rfl
  · (repeat' split) <;> first | rfl | omega
end
section
variable {y x i : Int}
@[go_sem] theorem le_wet (h1 : 0 ≤ y) (h2 : y < 8) (h3 : 0 ≤ x) (h4 : x < 8) : (2 + y.toNat * 8 + x.toNat ≤ 265) = True := eq_true (by omega)
@[go_sem] theorem le_dye0 (h1 : 0 ≤ y) (h2 : y < 8) (h3 : 0 ≤ x) (h4 : x < 8) : (66 + y.toNat * 24 + x.toNat * 3 ≤ 265) = True := eq_true (by omega)
@[go_sem] theorem le_dye1 (h1 : 0 ≤ y) (h2 : y < 8) (h3 : 0 ≤ x) (h4 : x < 8) : (66 + y.toNat * 24 + x.toNat * 3 ≤ 264) = True := eq_true (by omega)
@[go_sem] theorem le_dye2 (h1 : 0 ≤ y) (h2 : y < 8) (h3 : 0 ≤ x) (h4 : x < 8) : (66 + y.toNat * 24 + x.toNat * 3 ≤ 263) = True := eq_true (by omega)
@[go_sem] theorem le_dyeI (h1 : 0 ≤ y) (h2 : y < 8) (h3 : 0 ≤ x) (h4 : x < 8) (h5 : 0 ≤ i) (h6 : i < 3) : (66 + y.toNat * 24 + x.toNat * 3 + i.toNat ≤ 265) = True := eq_true (by omega)
@[go_sem] theorem le_wax (h1 : 0 ≤ y) (h2 : y < 8) : (258 + y.toNat ≤ 265) = True := eq_true (by omega)
end
@[go_sem] theorem zz_sheet : zz_873988 = shC sh0 := by funext j; unfold zz_873988 shC sh0; (repeat' split) <;> rfl

theorem shF_shC {S : Sh} (hR : ShR S) : ShF (shC S) S :=
  ⟨hR, rfl, rfl, fun y x a b c d => shC_wet S y x a b c d, fun y x i a b c d e f => shC_dyeI S y x i a b c d e f, fun y a b => shC_wax S y a b⟩
theorem shAt_shC {S : Sh} (hR : ShR S) : ShAt (shS S) 0 S := ⟨by simp [shS], by simpa [shS] using shF_shC hR⟩
theorem ShF.eqC {F : Nat → SV} {S : Sh} (h : ShF F S) {j : Nat} (hj : j < 266) : F j = shC S j := by
  unfold shC
  by_cases h1 : j < 2
  · rw [if_pos h1]
    rcases (by omega : j = 0 ∨ j = 1) with rfl | rfl
    · exact h.wide
    · exact h.high
  rw [if_neg h1]
  by_cases h2 : j < 258
  · rw [if_pos h2]
    by_cases h3 : j < 66
    · rw [if_pos h3]
      have := h.wet (((j - 2) / 8 : Nat) : Int) (((j - 2) % 8 : Nat) : Int) (by omega) (by omega) (by omega) (by omega)
      simp only [Int.toNat_natCast] at this
      rw [← this]; exact congrArg F (by omega)
    · rw [if_neg h3]
      have := h.dye (((j - 66) / 24 : Nat) : Int) (((j - 66) % 24 / 3 : Nat) : Int) (((j - 66) % 3 : Nat) : Int) (by omega) (by omega) (by omega) (by omega) (by omega) (by omega)
      simp only [Int.toNat_natCast] at this
      rw [← this]; exact congrArg F (by omega)
  · rw [if_neg h2]
    have := h.wax ((j - 258 : Nat) : Int) (by omega) (by omega)
    simp only [Int.toNat_natCast] at this
    rw [← this]; exact congrArg F (by omega)
theorem ShF.denC {F : Nat → SV} {S : Sh} (h : ShF F S) (ρ : Rho) : den ρ (.agg 266 F) = den ρ (.agg 266 (shC S)) := den_aggF (fun j hj => h.eqC hj) ρ
theorem shC_lt (S : Sh) (m : Nat) : (SV.agg 266 (shC S)).lt m := fun j hj => (shC_flat S j).below m
@[go_sem high] theorem shC_ltT (S : Sh) (m : Nat) : (SV.agg 266 (shC S)).lt m = True := eq_true (shC_lt S m)

section
variable (S : Sh) (y x i v y' x' i' : Int)
@[go_sem] theorem setDye_dye : (S.setDye y x i v).dye y' x' i' = if y' = y ∧ x' = x ∧ i' = i then v else S.dye y' x' i' := rfl
@[go_sem] theorem setDye_wet : (S.setDye y x i v).wet = S.wet := rfl
@[go_sem] theorem setDye_wax : (S.setDye y x i v).wax = S.wax := rfl
@[go_sem] theorem setDye_wide : (S.setDye y x i v).wide = S.wide := rfl
@[go_sem] theorem setDye_high : (S.setDye y x i v).high = S.high := rfl
@[go_sem] theorem setWet_wet : (S.setWet y x v).wet y' x' = if y' = y ∧ x' = x then v else S.wet y' x' := rfl
@[go_sem] theorem setWet_dye : (S.setWet y x v).dye = S.dye := rfl
@[go_sem] theorem setWet_wax : (S.setWet y x v).wax = S.wax := rfl
@[go_sem] theorem setWet_wide : (S.setWet y x v).wide = S.wide := rfl
@[go_sem] theorem setWet_high : (S.setWet y x v).high = S.high := rfl
end
theorem ShR.setWet {S : Sh} (h : ShR S) {y x v : Int} (hv : -32768 ≤ v ∧ v < 32768) : ShR (S.setWet y x v) :=
  ⟨h.wide, h.high, fun y' x' => by simp only [Sh.setWet]; split; exact hv; exact h.wet y' x', h.dye, h.wax⟩
theorem ShR.setDye {S : Sh} (h : ShR S) {y x i v : Int} (hv : -32768 ≤ v ∧ v < 32768) : ShR (S.setDye y x i v) :=
  ⟨h.wide, h.high, h.wet, fun y' x' i' => by simp only [Sh.setDye]; split; exact hv; exact h.dye y' x' i', h.wax⟩
theorem ShR.setWax {S : Sh} (h : ShR S) {y v : Int} (hv : 0 ≤ v ∧ v < 256) : ShR (S.setWax y v) :=
  ⟨h.wide, h.high, h.wet, h.dye, fun y' => by simp only [Sh.setWax]; split; exact hv; exact h.wax y'⟩
theorem ShR.sh0 : ShR sh0 := ⟨by simp [V.sh0], by simp [V.sh0], fun y x => by simp [V.sh0], fun y x i => by simp [V.sh0], fun y => by simp [V.sh0]⟩

section
variable {cx : Cx} {h : List (Nat × Seg)} {n : Nat}
/-- A callee that changes a sheet in place: its cells are the canonical ones. -/
theorem CallE.canon {P : Program} {f : Nat} {args : List SV} {i : Nat} {S S' : Sh} {r : SV} (hs : hget h i = some (shS S)) (hr : r.lt n)
    (hc : ∀ K : HK, (∀ c' : Nat → SV, ShAt ⟨266, c', true, none⟩ 0 S' → K r (hset h i ⟨266, c', true, none⟩) n) → CallE P cx f args h n K) (K : HK) (hK : K r (hset h i (shS S')) n) : CallE P cx f args h n K := by
  refine (hc (fun r' h' n' => r' = r ∧ n' = n ∧ ∃ c', ShAt ⟨266, c', true, none⟩ 0 S' ∧ h' = hset h i ⟨266, c', true, none⟩) (fun c' hc' => ⟨rfl, rfl, c', hc', rfl⟩)).imp0 ?_
  rintro hok r' h1 n1 ⟨rfl, rfl, c', hS, rfl⟩
  refine ⟨r', hset h i (shS S'), n1, Nat.le_refl _, by rw [ren_nil], hr, impH.set0 hok (Nat.le_refl _) hs (HBut.set i n1 h _) (hget_hset_self hs _) (SegLe.flat (Nat.le_refl _) id (.inr rfl) fun k hk => ⟨?_, shC_flat S' k⟩), hK⟩
  have := (show ShF c' S' from by simpa using hS.2).eqC hk
  exact this
variable (cx) (h) (n)
end
end Go.Proofs.Ytodgbpkdanefaaa.V

/- Pictures as plain data, and as they lie in memory. -/
namespace Go.Proofs.Ytodgbpkdanefaaa.V

/-- A picture: sides, what each cell shows. -/
structure Pc where
  wide : Int
  high : Int
  ink : Int → Int → Int
structure PcR (P : Pc) : Prop where
  wide : -128 ≤ P.wide ∧ P.wide < 128
  high : -128 ≤ P.high ∧ P.high < 128
  ink : ∀ y x, 0 ≤ P.ink y x ∧ P.ink y x < 256
def pcC (P : Pc) : Nat → SV := fun j =>
  if j < 2 then (if j < 1 then .int .i8 P.wide else .int .i8 P.high) else .int .u8 (P.ink (((j - 2) / 8 : Nat) : Int) (((j - 2) % 8 : Nat) : Int))
def pcS (P : Pc) : Seg := ⟨66, pcC P, true, none⟩
@[go_sem] theorem pcS_eq (P : Pc) : pcS P = ⟨66, pcC P, true, none⟩ := rfl
theorem pcC_flat (P : Pc) (j : Nat) : (pcC P j).flat := by unfold pcC; (repeat' split) <;> trivial
@[go_sem] theorem pcC_ones (P : Pc) : ones (.agg 66 (pcC P)) = True := eq_true fun j hj => (pcC_flat P j).one
@[go_sem] theorem pcC_ones' (P : Pc) : ones (.agg 66 fun j => pcC P j) = True := pcC_ones P
@[go_sem] theorem mkAgg_66 (F : Nat → SV) : mkAgg 66 F = .agg 66 F := rfl
@[go_sem] theorem pcC_0 (P : Pc) : pcC P 0 = .int .i8 P.wide := rfl
@[go_sem] theorem pcC_1 (P : Pc) : pcC P 1 = .int .i8 P.high := rfl
def Pc.setInk (P : Pc) (y x v : Int) : Pc := { P with ink := fun y' x' => if y' = y ∧ x' = x then v else P.ink y' x' }
section
variable (P : Pc) (y x v : Int)
@[go_sem] theorem pcC_ink (h1 : 0 ≤ y) (h2 : y < 8) (h3 : 0 ≤ x) (h4 : x < 8) : pcC P (2 + y.toNat * 8 + x.toNat) = .int .u8 (P.ink y x) := by
  unfold pcC
  rw [if_neg (by omega), show (2 + y.toNat * 8 + x.toNat - 2) / 8 = y.toNat by omega, show (2 + y.toNat * 8 + x.toNat - 2) % 8 = x.toNat by omega, nat_of _ h1, nat_of _ h3]
@[go_sem] theorem pcC_setInk (h1 : 0 ≤ y) (h2 : y < 8) (h3 : 0 ≤ x) (h4 : x < 8) : upd (pcC P) (2 + y.toNat * 8 + x.toNat) (.int .u8 v) = pcC (P.setInk y x v) := by
  funext j
  unfold upd pcC Pc.setInk
  simp only
  split
  · rename_i hj; subst hj
    rw [if_neg (by omega), if_pos (by omega)]
  · rename_i hj
    split
    · rfl
    · rw [if_neg (by omega)]
@[go_sem] theorem pcC_setWide : upd (pcC P) 0 (.int .i8 v) = pcC { P with wide := v } := by
  funext j; unfold upd pcC; simp only; split
  · rename_i hj; subst hj; rfl
  · (repeat' split) <;> first | rfl | omega
@[go_sem] theorem pcC_setHigh : upd (pcC P) 1 (.int .i8 v) = pcC { P with high := v } := by
  funext j; unfold upd pcC; simp only; split
  · rename_i hj; subst hj; rfl
  · (repeat' split) <;> first | rfl | omega
end
section
variable {y x : Int}
@[go_sem] theorem le_ink (h1 : 0 ≤ y) (h2 : y < 8) (h3 : 0 ≤ x) (h4 : x < 8) : (2 + y.toNat * 8 + x.toNat ≤ 65) = True := eq_true (by omega)
@[go_sem] theorem le_ink' (h1 : 0 ≤ y) (h2 : y < 8) (h3 : 0 ≤ x) (h4 : x < 8) : (2 + y.toNat * 8 + x.toNat + 1 ≤ 66) = True := eq_true (by omega)
end
def pc0 : Pc := ⟨0, 0, fun _ _ => 0⟩
/-- The zero of the type 32. -/
@[go_sem] theorem zz_pic : zz_3d8e88 = pcC pc0 := by funext j; unfold zz_3d8e88 pcC pc0; (repeat' split) <;> rfl
theorem pcC_lt (P : Pc) (m : Nat) : (SV.agg 66 (pcC P)).lt m := fun j hj => (pcC_flat P j).below m
@[go_sem high] theorem pcC_ltT (P : Pc) (m : Nat) : (SV.agg 66 (pcC P)).lt m = True := eq_true (pcC_lt P m)
/-- A picture is valid. -/
def PcOk (P : Pc) : Prop := (1 ≤ P.wide ∧ P.wide ≤ 8 ∧ 1 ≤ P.high ∧ P.high ≤ 8) ∧ ∀ y x : Int, 0 ≤ y → y < 8 → 0 ≤ x → x < 8 → P.ink y x ≤ 3 ∧ (0 < P.ink y x → x < P.wide ∧ y < P.high)
open Classical in
noncomputable def pcokB (P : Pc) : Bool := decide (PcOk P)
theorem pcokB_t {P : Pc} (h : PcOk P) : pcokB P = true := by simp [pcokB, h]
theorem pcokB_f {P : Pc} (h : ¬ PcOk P) : pcokB P = false := by simp [pcokB, h]
/-- The sheet with a picture's cells. -/
def psh (P : Pc) : Sh := ⟨P.wide, P.high, fun _ _ => 0, fun _ _ _ => 0, fun _ => 0⟩
theorem psh_R {P : Pc} (h : PcR P) : ShR (psh P) := ⟨h.wide, h.high, fun _ _ => by show -32768 ≤ (0 : Int) ∧ (0 : Int) < 32768; omega, fun _ _ _ => by show -32768 ≤ (0 : Int) ∧ (0 : Int) < 32768; omega, fun _ => by show 0 ≤ (0 : Int) ∧ (0 : Int) < 256; omega⟩
theorem psh_small {P : Pc} (h : PcOk P) : Small (psh P) := h.1
theorem psh_wax (P : Pc) (x y : Int) : waxB (psh P) x y = false := by
  unfold waxB psh
  simp only
  rw [decide_eq_false_iff_not]
  intro h
  have : bitsI .and .u8 (shrI .u8 0 x) 1 = 0 := by
    unfold shrI
    rw [Int.zero_fdiv]
    rfl
  rw [this] at h
  cases h
theorem psh_has {P : Pc} {x y : Int} : hasB (psh P) x y = ((decide (0 ≤ x) && decide (x < P.wide)) && decide (0 ≤ y) && decide (y < P.high)) := rfl
end Go.Proofs.Ytodgbpkdanefaaa.V

/- The law's comparisons of arrays that are alike: the walk. -/
namespace Go.Proofs.Ytodgbpkdanefaaa.V
section
variable (cx : Cx) (h : List (Nat × Seg)) (n : Nat)

theorem eqByteA8_Q (F G : Nat → SV) (hF : ∀ j, j < 8 → ∃ v, F j = .int .u8 v) (hG : ∀ j, j < 8 → G j = F j) : CallQ Try.prog cx 89 [.agg 8 F, .agg 8 G] h n (.bool true) := by
  have hfl : Flat 8 F := fun j hj => by obtain ⟨v, hv⟩ := hF j hj; rw [hv]; trivial
  have hfG : Flat 8 G := fun j hj => by rw [hG j hj]; exact hfl j hj
  refine callQ_of_T (P := Try.prog) hti (nt := 17) (rs := [.tmp 4]) rfl rfl Try.call89 Try.func89 rfl _ (by simp only [go_sem, and_self]) (Nat.le_of_ble_eq_true rfl) _ (by first | exact trivial | (refine lt_flat rfl ?_; simp [SV.flat]; done) | simp only [go_sem]) fun hok => ?_
  simp only [go_sem, Nat.reduceBEq, Nat.reduceLT, Nat.reduceLeDiff, Nat.reduceAdd, Nat.reduceMul, Nat.reduceSub, Nat.reduceMod, Nat.reduceDiv, Nat.reduceEqDiff, Int.reduceToNat, reduceIte, reduceCtorEq, Int.reduceLE, Int.reduceLT, Int.reduceEq, Int.reduceNeg, Int.reduceAdd, Int.reduceSub, Int.reduceMul]
  refine T_lp (ι := { q : Nat // q ≤ 8 })
    (fun q => ([(2, .ptr n 0), (3, .ptr (n + 1) 0), (4, .bool false), (5, .int .i64 q.1)], (n + 1, ⟨8, G, true, none⟩) :: (n, ⟨8, F, true, none⟩) :: h, n + 2)) (fun q => 8 - q.1) ⟨0, by omega⟩ ?_ ?_
  · refine Imp.id (by simp) ?_ ?_
    · simp only [go_sem, Nat.reduceBEq, Nat.reduceLT, Nat.reduceLeDiff, Nat.reduceAdd, Nat.reduceMul, Nat.reduceSub, Nat.reduceMod, Nat.reduceDiv, Nat.reduceEqDiff, Int.reduceToNat, reduceIte, reduceCtorEq, Int.reduceLE, Int.reduceLT, Int.reduceEq, Int.reduceNeg, Int.reduceAdd, Int.reduceSub, Int.reduceMul]
      omega
    · exact impH.cons0 (hget_hit _ _ _) (by simp) (SegLe.flat (Nat.le_refl _) id (.inr rfl) fun z hz => ⟨rfl, hfG z hz⟩) (impH.cons0 ((hget_miss _ _ _ _ (by simp)).trans (hget_hit _ _ _)) (by simp) (SegLe.flat (Nat.le_refl _) id (.inr rfl) fun z hz => ⟨rfl, hfl z hz⟩)
          (impH.base0 hok (by simp) ((HExt.rfl.cons (Nat.le_refl n)).cons (by simp))))
  · rintro ⟨k, hk⟩
    simp only [go_sem, Nat.reduceBEq, Nat.reduceLT, Nat.reduceLeDiff, Nat.reduceAdd, Nat.reduceMul, Nat.reduceSub, Nat.reduceMod, Nat.reduceDiv, Nat.reduceEqDiff, Int.reduceToNat, reduceIte, reduceCtorEq, Int.reduceLE, Int.reduceLT, Int.reduceEq, Int.reduceNeg, Int.reduceAdd, Int.reduceSub, Int.reduceMul, decide_eq_true_eq, decide_eq_false_iff_not]
    refine ⟨fun h1 => ?_, fun h1 => ?_⟩
    · have hkr : (0 : Int) ≤ k ∧ (k : Int) < 8 := ⟨by omega, h1⟩
      obtain ⟨v, hv⟩ := hF k (by omega)
      have hv' : G k = .int .u8 v := (hG k (by omega)).trans hv
      refine T_draw hti _ _ (by kernel_rfl) (by kernel_rfl) ?_
      simp only [go_sem, Nat.reduceBEq, Nat.reduceLT, Nat.reduceLeDiff, Nat.reduceAdd, Nat.reduceMul, Nat.reduceSub, Nat.reduceMod, Nat.reduceDiv, Nat.reduceEqDiff, Int.reduceToNat, reduceIte, reduceCtorEq, Int.reduceLE, Int.reduceLT, Int.reduceEq, Int.reduceNeg, Int.reduceAdd, Int.reduceSub, Int.reduceMul, hkr, hv, hv']
      refine ⟨by omega, by omega, ⟨k + 1, by omega⟩, by show 8 - (k + 1) < 8 - k; omega, ?_⟩
      refine Imp.id (by simp) ?_ ?_
      · simp only [go_sem, Nat.reduceBEq, Nat.reduceLT, Nat.reduceLeDiff, Nat.reduceAdd, Nat.reduceMul, Nat.reduceSub, Nat.reduceMod, Nat.reduceDiv, Nat.reduceEqDiff, Int.reduceToNat, reduceIte, reduceCtorEq, Int.reduceLE, Int.reduceLT, Int.reduceEq, Int.reduceNeg, Int.reduceAdd, Int.reduceSub, Int.reduceMul, w64 (n := (k : Int) + 1) (by omega), Int.natCast_add, Int.natCast_one]
        omega
      · exact impH.cons0 (hget_hit _ _ _) (by simp) (SegLe.flat (Nat.le_refl _) id (.inr rfl) fun z hz => ⟨rfl, hfG z hz⟩) (impH.cons0 ((hget_miss _ _ _ _ (by simp)).trans (hget_hit _ _ _)) (by simp) (SegLe.flat (Nat.le_refl _) id (.inr rfl) fun z hz => ⟨rfl, hfl z hz⟩)
          (impH.base0 hok (by simp) ((HExt.rfl.cons (Nat.le_refl n)).cons (by simp))))
    · have hk8 : k = 8 := by omega
      subst hk8
      simp only [go_sem, Nat.reduceBEq, Nat.reduceLT, Nat.reduceLeDiff, Nat.reduceAdd, Nat.reduceMul, Nat.reduceSub, Nat.reduceMod, Nat.reduceDiv, Nat.reduceEqDiff, Int.reduceToNat, reduceIte, reduceCtorEq, Int.reduceLE, Int.reduceLT, Int.reduceEq, Int.reduceNeg, Int.reduceAdd, Int.reduceSub, Int.reduceMul]

end
end Go.Proofs.Ytodgbpkdanefaaa.V

/- Brushes: loads, validity, parts. -/
namespace Go.Proofs.Ytodgbpkdanefaaa.V

structure Br where
  a : Int
  b : Int
  c : Int
  w : Int
  s : Int
def brC (B : Br) : Nat → SV := cl [.int .i16 B.a, .int .i16 B.b, .int .i16 B.c, .int .i16 B.w, .int .i8 B.s]
def brS (B : Br) : Seg := ⟨5, brC B, true, none⟩
@[go_sem] theorem brC_eq (B : Br) : brC B = cl [.int .i16 B.a, .int .i16 B.b, .int .i16 B.c, .int .i16 B.w, .int .i8 B.s] := rfl
@[go_sem] theorem brS_eq (B : Br) : brS B = ⟨5, brC B, true, none⟩ := rfl
structure BrR (B : Br) : Prop where
  a : -32768 ≤ B.a ∧ B.a < 32768
  b : -32768 ≤ B.b ∧ B.b < 32768
  c : -32768 ≤ B.c ∧ B.c < 32768
  w : -32768 ≤ B.w ∧ B.w < 32768
  s : -128 ≤ B.s ∧ B.s < 128
/-- A brush as it should be. -/
def BrV (B : Br) : Prop := ((0 ≤ B.a ∧ B.a ≤ 900) ∧ (0 ≤ B.b ∧ B.b ≤ 900) ∧ (0 ≤ B.c ∧ B.c ≤ 900)) ∧ B.a + B.b + B.c ≤ 900 ∧ (0 ≤ B.w ∧ B.w ≤ 200) ∧ (1 ≤ B.s ∧ B.s ≤ 16)
instance (B : Br) : Decidable (BrV B) := by unfold BrV; exact inferInstance
theorem brC_flat (B : Br) {k : Nat} (hk : k < 5) : (brC B k).flat := by
  rcases (by omega : k = 0 ∨ k = 1 ∨ k = 2 ∨ k = 3 ∨ k = 4) with rfl | rfl | rfl | rfl | rfl <;> trivial
theorem brC_lt (B : Br) (m : Nat) : (SV.agg 5 (brC B)).lt m := fun j hj => (brC_flat B hj).below m
@[go_sem] theorem brC_ones (B : Br) : ones (.agg 5 (brC B)) = True := eq_true fun j hj => (brC_flat B hj).one
@[go_sem] theorem ones_5 (a b c d e : SV) : ones (.agg 5 (cl [a, b, c, d, e])) = (a.one ∧ b.one ∧ c.one ∧ d.one ∧ e.one) := by
  apply propext; rw [ones_agg]
  refine ⟨fun h => ⟨h 0 (by omega), h 1 (by omega), h 2 (by omega), h 3 (by omega), h 4 (by omega)⟩, fun h j hj => ?_⟩
  rcases (by omega : j = 0 ∨ j = 1 ∨ j = 2 ∨ j = 3 ∨ j = 4) with rfl | rfl | rfl | rfl | rfl
  · exact h.1
  · exact h.2.1
  · exact h.2.2.1
  · exact h.2.2.2.1
  · exact h.2.2.2.2

section
variable (cx : Cx) (h : List (Nat × Seg)) (n : Nat)
theorem tdiv16 {x : Int} (h : 0 ≤ x) : 0 ≤ (x + 15).tdiv 16 ∧ (x + 15).tdiv 16 ≤ x := by
  rw [Int.tdiv_eq_ediv_of_nonneg (by omega)]; omega
end
end Go.Proofs.Ytodgbpkdanefaaa.V

/- A brush leaves ink, and touches a cell. -/
namespace Go.Proofs.Ytodgbpkdanefaaa.V

/-- What a brush leaves of one thing. -/
def lvOf (s own most has : Int) : Int := min ((own * s + 15).tdiv 16) (most - has)
def lvA (S : Sh) (B : Br) (y x : Int) : Int := if waxB S x y then 0 else lvOf B.s B.a 1000 (S.dye y x 0)
def lvB (S : Sh) (B : Br) (y x : Int) : Int := if waxB S x y then 0 else lvOf B.s B.b 1000 (S.dye y x 1)
def lvC (S : Sh) (B : Br) (y x : Int) : Int := if waxB S x y then 0 else lvOf B.s B.c 1000 (S.dye y x 2)
def lvW (S : Sh) (B : Br) (y x : Int) : Int := if waxB S x y then 0 else lvOf B.s B.w 200 (S.wet y x)
theorem lvOf_in {s own most has : Int} (hs : 1 ≤ s) (hs2 : s ≤ 16) (h1 : 0 ≤ own) (h3 : 0 ≤ has) (h4 : has ≤ most) : 0 ≤ lvOf s own most has ∧ lvOf s own most has ≤ own ∧ lvOf s own most has + has ≤ most := by
  have hm : 0 ≤ own * s := Int.mul_nonneg h1 (by omega)
  have hm2 : own * s ≤ own * 16 := Int.mul_le_mul_of_nonneg_left hs2 h1
  have h : (own * s + 15).tdiv 16 ≤ own ∧ 0 ≤ (own * s + 15).tdiv 16 := by rw [Int.tdiv_eq_ediv_of_nonneg (by omega)]; omega
  unfold lvOf
  omega
section
variable {S : Sh} {B : Br} {y x : Int} (hG : Good S) (hB : BrV B) (hx : 0 ≤ x) (hx8 : x < 8) (hy : 0 ≤ y) (hy8 : y < 8)
include hG hB hx hx8 hy hy8
theorem lvA_in : 0 ≤ lvA S B y x ∧ lvA S B y x ≤ B.a ∧ lvA S B y x + S.dye y x 0 ≤ 1000 := by
  have h1 := hG.dye y x 0 hy hy8 hx hx8 (by omega) (by omega)
  unfold lvA; split
  · exact ⟨by omega, hB.1.1.1, by omega⟩
  · exact lvOf_in hB.2.2.2.1 hB.2.2.2.2 hB.1.1.1 h1.1 h1.2
theorem lvB_in : 0 ≤ lvB S B y x ∧ lvB S B y x ≤ B.b ∧ lvB S B y x + S.dye y x 1 ≤ 1000 := by
  have h1 := hG.dye y x 1 hy hy8 hx hx8 (by omega) (by omega)
  unfold lvB; split
  · exact ⟨by omega, hB.1.2.1.1, by omega⟩
  · exact lvOf_in hB.2.2.2.1 hB.2.2.2.2 hB.1.2.1.1 h1.1 h1.2
theorem lvC_in : 0 ≤ lvC S B y x ∧ lvC S B y x ≤ B.c ∧ lvC S B y x + S.dye y x 2 ≤ 1000 := by
  have h1 := hG.dye y x 2 hy hy8 hx hx8 (by omega) (by omega)
  unfold lvC; split
  · exact ⟨by omega, hB.1.2.2.1, by omega⟩
  · exact lvOf_in hB.2.2.2.1 hB.2.2.2.2 hB.1.2.2.1 h1.1 h1.2
theorem lvW_in : 0 ≤ lvW S B y x ∧ lvW S B y x ≤ B.w ∧ lvW S B y x + S.wet y x ≤ 200 := by
  have h1 := hG.wet y x hy hy8 hx hx8
  unfold lvW; split
  · exact ⟨by omega, hB.2.2.1.1, by omega⟩
  · exact lvOf_in hB.2.2.2.1 hB.2.2.2.2 hB.2.2.1.1 h1.1 h1.2
end
def touchB (S : Sh) (B : Br) (y x : Int) : Br := ⟨B.a - lvA S B y x, B.b - lvB S B y x, B.c - lvC S B y x, B.w - lvW S B y x, B.s⟩
def touchS (S : Sh) (B : Br) (y x : Int) : Sh :=
  (((S.setDye y x 0 (S.dye y x 0 + lvA S B y x)).setDye y x 1 (S.dye y x 1 + lvB S B y x)).setDye y x 2 (S.dye y x 2 + lvC S B y x)).setWet y x (S.wet y x + lvW S B y x)

section
variable (cx : Cx) (h : List (Nat × Seg)) (n : Nat)
variable (i : Nat) (S : Sh) (B : Br) (x y : Int) (hs : hget h i = some (shS S)) (hi : i < n) (hR : ShR S) (hG : Good S) (hB : BrV B) (hx : 0 ≤ x) (hx8 : x < 8) (hy : 0 ≤ y) (hy8 : y < 8)
theorem BrV.R {B : Br} (h : BrV B) : BrR B := by
  obtain ⟨⟨h1, h2, h3⟩, h4, h5, h6⟩ := h
  exact ⟨by omega, by omega, by omega, by omega, by omega⟩
variable (j : Nat) (ht : hget h j = some (brS B)) (hj : j < n) (hij : (i == j) = false)
theorem touchB_V {S : Sh} {B : Br} {x y : Int} (hG : Good S) (hB : BrV B) (hx : 0 ≤ x) (hx8 : x < 8) (hy : 0 ≤ y) (hy8 : y < 8) : BrV (touchB S B y x) := by
  have l0 := lvA_in hG hB hx hx8 hy hy8
  have l1 := lvB_in hG hB hx hx8 hy hy8
  have l2 := lvC_in hG hB hx hx8 hy hy8
  have l3 := lvW_in hG hB hx hx8 hy hy8
  obtain ⟨⟨b1, b2, b3⟩, b4, b5, b6⟩ := id hB
  unfold touchB BrV
  simp only
  omega
theorem touchS_good {S : Sh} {B : Br} {x y : Int} (hG : Good S) (hB : BrV B) (hx : 0 ≤ x) (hx8 : x < 8) (hy : 0 ≤ y) (hy8 : y < 8) : Good (touchS S B y x) := by
  have l0 := lvA_in hG hB hx hx8 hy hy8
  have l1 := lvB_in hG hB hx hx8 hy hy8
  have l2 := lvC_in hG hB hx hx8 hy hy8
  have l3 := lvW_in hG hB hx hx8 hy hy8
  refine ⟨hG.small, fun y' x' a b c d => ?_, fun y' x' i' a b c d e f => ?_⟩
  · have g := hG.wet y' x' a b c d
    have g1 := hG.wet y x hy hy8 hx hx8
    simp only [touchS, setWet_wet, setDye_wet]
    split <;> omega
  · have g := hG.dye y' x' i' a b c d e f
    have g0 := hG.dye y x 0 hy hy8 hx hx8 (by omega) (by omega)
    have g1 := hG.dye y x 1 hy hy8 hx hx8 (by omega) (by omega)
    have g2 := hG.dye y x 2 hy hy8 hx hx8 (by omega) (by omega)
    simp only [touchS, setWet_dye, setDye_dye]
    (repeat' split) <;> omega
theorem touchS_R {S : Sh} {B : Br} {x y : Int} (hR : ShR S) (hG : Good S) (hB : BrV B) (hx : 0 ≤ x) (hx8 : x < 8) (hy : 0 ≤ y) (hy8 : y < 8) : ShR (touchS S B y x) := by
  have l0 := lvA_in hG hB hx hx8 hy hy8
  have l1 := lvB_in hG hB hx hx8 hy hy8
  have l2 := lvC_in hG hB hx hx8 hy hy8
  have l3 := lvW_in hG hB hx hx8 hy hy8
  have g0 := hG.dye y x 0 hy hy8 hx hx8 (by omega) (by omega)
  have g1 := hG.dye y x 1 hy hy8 hx hx8 (by omega) (by omega)
  have g2 := hG.dye y x 2 hy hy8 hx hx8 (by omega) (by omega)
  have g3 := hG.wet y x hy hy8 hx hx8
  exact (((hR.setDye (by omega)).setDye (by omega)).setDye (by omega)).setWet (by omega)
theorem hok_brS {m : Nat} {h0 : List (Nat × Seg)} {j : Nat} {B : Br} (hok : HOk m h0) : HOk m (hset h0 j (brS B)) := hok_set hok fun k hk => brC_flat B hk
theorem hok_shS {m : Nat} {h0 : List (Nat × Seg)} {j : Nat} {S : Sh} (hok : HOk m h0) : HOk m (hset h0 j (shS S)) := hok_set hok fun k hk => shC_flat S k
end
end Go.Proofs.Ytodgbpkdanefaaa.V

/- A brush leaves ink, and touches a cell: the reference's code. -/
namespace Go.Proofs.Ytodgbpkdanefaaa.V
section
variable (cx : Cx) (h : List (Nat × Seg)) (n : Nat)
variable (i j : Nat) (S : Sh) (B : Br) (x y : Int) (hs : hget h i = some (shS S)) (hi : i < n) (ht : hget h j = some (brS B)) (hj : j < n) (hR : ShR S) (hG : Good S) (hB : BrV B) (hx : 0 ≤ x) (hx8 : x < 8) (hy : 0 ≤ y) (hy8 : y < 8)
variable (hij : (i == j) = false)
end
end Go.Proofs.Ytodgbpkdanefaaa.V

/- Steps and paths: both codes. -/
namespace Go.Proofs.Ytodgbpkdanefaaa.V

open Classical in
noncomputable def boolOf (p : Prop) : Bool := decide p
theorem boolOf_t {p : Prop} (h : p) : boolOf p = true := by simp [boolOf, h]
theorem boolOf_f {p : Prop} (h : ¬ p) : boolOf p = false := by simp [boolOf, h]
theorem boolOf_eq {p q : Prop} (h : p ↔ q) : boolOf p = boolOf q := by rw [propext h]

/-- b stands beside a. -/
def StepP (a b : Int × Int) : Prop := ∃ k, k < 4 ∧ (besideL a.1 a.2).getD k (0, 0) = b
def StepsP (L : List (Int × Int)) : Prop := ∀ k, k + 1 < L.length → StepP (L.getD k (0, 0)) (L.getD (k + 1) (0, 0))
def LenP (L : List (Int × Int)) : Prop := 1 ≤ L.length ∧ L.length ≤ 80
def InP (S : Sh) (L : List (Int × Int)) : Prop := ∀ k, k < L.length → hasB S (L.getD k (0, 0)).1 (L.getD k (0, 0)).2 = true
/-- A path of a sheet. -/
def PathP (S : Sh) (L : List (Int × Int)) : Prop := StepsP L ∧ LenP L ∧ InP S L
section
variable (cx : Cx) (h : List (Nat × Seg)) (n : Nat)
end
end Go.Proofs.Ytodgbpkdanefaaa.V
