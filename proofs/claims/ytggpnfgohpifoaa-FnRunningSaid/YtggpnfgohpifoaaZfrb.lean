/- Part 2 of the texts that this proof stands on: a symbolic walk over the program, what its functions and the reference's do, plain laws. -/
import Derived.Test.YtggpnfgohpifoaaZfra
import Derived.Test.YtggpnfgohpifoaaV16
import Derived.Test.YtggpnfgohpifoaaV14
set_option linter.all false

/- The law's copy of three numbers: the walk. -/
namespace Go.Proofs.Ytggpnfgohpifoaa.V
section
variable (cx : Cx) (h : List (Nat × Seg)) (n : Nat)
end
end Go.Proofs.Ytggpnfgohpifoaa.V

/- The law's copies of arrays of three numbers: the walk. -/
namespace Go.Proofs.Ytggpnfgohpifoaa.V
section
variable (cx : Cx) (h : List (Nat × Seg)) (n : Nat)

end
end Go.Proofs.Ytggpnfgohpifoaa.V

/- The law's copy of a sheet: the walk. -/
namespace Go.Proofs.Ytggpnfgohpifoaa.V
theorem ShF.congr {F F' : Nat → SV} {S : Sh} (h : ShF F S) (he : ∀ j, j < 266 → F' j = F j) : ShF F' S :=
  ⟨h.R, (he 0 (by omega)).trans h.wide, (he 1 (by omega)).trans h.high, fun y x a b c d => (he _ (by omega)).trans (h.wet y x a b c d), fun y x i a b c d e f => (he _ (by omega)).trans (h.dye y x i a b c d e f), fun y a b => (he _ (by omega)).trans (h.wax y a b)⟩
theorem ShF.dyeS {F : Nat → SV} {S : Sh} (h : ShF F S) (j : Nat) (hj : j < 192) : F (66 + j) = .int .i16 (S.dye ((j / 24 : Nat) : Int) ((j % 24 / 3 : Nat) : Int) ((j % 3 : Nat) : Int)) := by
  have := h.dye ((j / 24 : Nat) : Int) ((j % 24 / 3 : Nat) : Int) ((j % 3 : Nat) : Int) (by omega) (by omega) (by omega) (by omega) (by omega) (by omega)
  simp only [Int.toNat_natCast] at this
  rw [show 66 + j = 66 + j / 24 * 24 + j % 24 / 3 * 3 + j % 3 by omega]; exact this
def sh0 : Sh := ⟨0, 0, fun _ _ => 0, fun _ _ _ => 0, fun _ => 0⟩
theorem ShF.zero {F : Nat → SV} (h : ∀ j, F j = zeroC j) : ShF F sh0 where
  R := ⟨by simp [sh0], by simp [sh0], fun y x => by simp [sh0], fun y x i => by simp [sh0], fun y => by simp [sh0]⟩
  wide := h 0
  high := h 1
  wet := fun y x a b c d => by rw [h]; unfold zeroC; rw [if_neg (by omega), if_pos (by omega)]; rfl
  dye := fun y x i a b c d e f => by rw [h]; unfold zeroC; rw [if_neg (by omega), if_pos (by omega)]; rfl
  wax := fun y a b => by rw [h]; unfold zeroC; rw [if_neg (by omega), if_neg (by omega)]; rfl
section
variable (cx : Cx) (h : List (Nat × Seg)) (n : Nat)
end
end Go.Proofs.Ytggpnfgohpifoaa.V

/- A sheet that came in. -/
namespace Go.Proofs.Ytggpnfgohpifoaa.V

theorem wf_u8 {n : Int} (h : (Lit.int .u8 n).wf = true) : 0 ≤ n ∧ n < 256 := by
  simp [Lit.wf, IntKind.min, IntKind.max, IntKind.signed, IntKind.bits] at h; omega

end Go.Proofs.Ytggpnfgohpifoaa.V

/- Sheets told by their numbers alone: canonical cells, loads, stores. -/
namespace Go.Proofs.Ytggpnfgohpifoaa.V

def shC (S : Sh) : Nat → SV := fun j =>
  if j < 2 then (if j < 1 then .int .i8 S.wide else .int .i8 S.high)
  else if j < 258 then (if j < 66 then .int .i16 (S.wet (((j - 2) / 8 : Nat) : Int) (((j - 2) % 8 : Nat) : Int)) else .int .i16 (S.dye (((j - 66) / 24 : Nat) : Int) (((j - 66) % 24 / 3 : Nat) : Int) (((j - 66) % 3 : Nat) : Int)))
  else .int .u8 (S.wax ((j - 258 : Nat) : Int))
def shS (S : Sh) : Seg := ⟨266, shC S, true, none⟩
@[go_sem] theorem shS_eq (S : Sh) : shS S = ⟨266, shC S, true, none⟩ := rfl
theorem shC_flat (S : Sh) (j : Nat) : (shC S j).flat := by unfold shC; (repeat' split) <;> trivial
@[go_sem] theorem shC_ones (S : Sh) : ones (.agg 266 (shC S)) = True := eq_true fun j hj => (shC_flat S j).one
@[go_sem] theorem shC_ones' (S : Sh) : ones (.agg 266 fun j => shC S j) = True := shC_ones S
@[go_sem] theorem shC_0 (S : Sh) : shC S 0 = .int .i8 S.wide := rfl
@[go_sem] theorem shC_1 (S : Sh) : shC S 1 = .int .i8 S.high := rfl
section
variable (S : Sh) (y x i v : Int)
theorem nat_of (h1 : 0 ≤ y) : ((y.toNat : Nat) : Int) = y := Int.toNat_of_nonneg h1
@[go_sem] theorem shC_wet (h1 : 0 ≤ y) (h2 : y < 8) (h3 : 0 ≤ x) (h4 : x < 8) : shC S (2 + y.toNat * 8 + x.toNat) = .int .i16 (S.wet y x) := by
  unfold shC
  rw [if_neg (by omega), if_pos (by omega), if_pos (by omega), show (2 + y.toNat * 8 + x.toNat - 2) / 8 = y.toNat by omega, show (2 + y.toNat * 8 + x.toNat - 2) % 8 = x.toNat by omega, nat_of _ h1, nat_of _ h3]
theorem shC_dyeN (k : Nat) (h1 : 0 ≤ y) (h2 : y < 8) (h3 : 0 ≤ x) (h4 : x < 8) (h5 : k < 3) : shC S (66 + y.toNat * 24 + x.toNat * 3 + k) = .int .i16 (S.dye y x k) := by
  unfold shC
  rw [if_neg (by omega), if_pos (by omega), if_neg (by omega), show (66 + y.toNat * 24 + x.toNat * 3 + k - 66) / 24 = y.toNat by omega, show (66 + y.toNat * 24 + x.toNat * 3 + k - 66) % 24 / 3 = x.toNat by omega,
    show (66 + y.toNat * 24 + x.toNat * 3 + k - 66) % 3 = k by omega, nat_of _ h1, nat_of _ h3]
@[go_sem] theorem shC_dye0 (h1 : 0 ≤ y) (h2 : y < 8) (h3 : 0 ≤ x) (h4 : x < 8) : shC S (66 + y.toNat * 24 + x.toNat * 3) = .int .i16 (S.dye y x 0) := shC_dyeN S y x 0 h1 h2 h3 h4 (by omega)
@[go_sem] theorem shC_dye1 (h1 : 0 ≤ y) (h2 : y < 8) (h3 : 0 ≤ x) (h4 : x < 8) : shC S (66 + y.toNat * 24 + x.toNat * 3 + 1) = .int .i16 (S.dye y x 1) := shC_dyeN S y x 1 h1 h2 h3 h4 (by omega)
@[go_sem] theorem shC_dye2 (h1 : 0 ≤ y) (h2 : y < 8) (h3 : 0 ≤ x) (h4 : x < 8) : shC S (66 + y.toNat * 24 + x.toNat * 3 + 2) = .int .i16 (S.dye y x 2) := shC_dyeN S y x 2 h1 h2 h3 h4 (by omega)
@[go_sem] theorem shC_dyeI (h1 : 0 ≤ y) (h2 : y < 8) (h3 : 0 ≤ x) (h4 : x < 8) (h5 : 0 ≤ i) (h6 : i < 3) : shC S (66 + y.toNat * 24 + x.toNat * 3 + i.toNat) = .int .i16 (S.dye y x i) := by
  rw [shC_dyeN S y x i.toNat h1 h2 h3 h4 (by omega), nat_of _ h5]
@[go_sem] theorem shC_wax (h1 : 0 ≤ y) (h2 : y < 8) : shC S (258 + y.toNat) = .int .u8 (S.wax y) := by
  unfold shC
  rw [if_neg (by omega), if_neg (by omega), show 258 + y.toNat - 258 = y.toNat by omega, nat_of _ h1]

def Sh.setWax (S : Sh) (y v : Int) : Sh := { S with wax := fun y' => if y' = y then v else S.wax y' }
@[go_sem] theorem shC_setWet (h1 : 0 ≤ y) (h2 : y < 8) (h3 : 0 ≤ x) (h4 : x < 8) : upd (shC S) (2 + y.toNat * 8 + x.toNat) (.int .i16 v) = shC (S.setWet y x v) := by
  funext j
  unfold upd shC Sh.setWet
  simp only
  split
  · rename_i hj; subst hj
    rw [if_neg (by omega), if_pos (by omega), if_pos (by omega), if_pos (by omega)]
  · rename_i hj
    split
    · rfl
    · split
      · split
        · rw [if_neg (by omega)]
        · rfl
      · rfl
theorem shC_setDyeN (k : Nat) (h1 : 0 ≤ y) (h2 : y < 8) (h3 : 0 ≤ x) (h4 : x < 8) (h5 : k < 3) : upd (shC S) (66 + y.toNat * 24 + x.toNat * 3 + k) (.int .i16 v) = shC (S.setDye y x k v) := by
  funext j
  unfold upd shC Sh.setDye
  simp only
  split
  · rename_i hj; subst hj
    rw [if_neg (by omega), if_pos (by omega), if_neg (by omega), if_pos (by omega)]
  · rename_i hj
    split
    · rfl
    · split
      · split
        · rfl
        · rw [if_neg (by omega)]
      · rfl
@[go_sem] theorem shC_setDye0 (h1 : 0 ≤ y) (h2 : y < 8) (h3 : 0 ≤ x) (h4 : x < 8) : upd (shC S) (66 + y.toNat * 24 + x.toNat * 3) (.int .i16 v) = shC (S.setDye y x 0 v) := shC_setDyeN S y x v 0 h1 h2 h3 h4 (by omega)
@[go_sem] theorem shC_setDye1 (h1 : 0 ≤ y) (h2 : y < 8) (h3 : 0 ≤ x) (h4 : x < 8) : upd (shC S) (66 + y.toNat * 24 + x.toNat * 3 + 1) (.int .i16 v) = shC (S.setDye y x 1 v) := shC_setDyeN S y x v 1 h1 h2 h3 h4 (by omega)
@[go_sem] theorem shC_setDye2 (h1 : 0 ≤ y) (h2 : y < 8) (h3 : 0 ≤ x) (h4 : x < 8) : upd (shC S) (66 + y.toNat * 24 + x.toNat * 3 + 2) (.int .i16 v) = shC (S.setDye y x 2 v) := shC_setDyeN S y x v 2 h1 h2 h3 h4 (by omega)
@[go_sem] theorem shC_setDyeI (h1 : 0 ≤ y) (h2 : y < 8) (h3 : 0 ≤ x) (h4 : x < 8) (h5 : 0 ≤ i) (h6 : i < 3) : upd (shC S) (66 + y.toNat * 24 + x.toNat * 3 + i.toNat) (.int .i16 v) = shC (S.setDye y x i v) := by
  rw [shC_setDyeN S y x v i.toNat h1 h2 h3 h4 (by omega), nat_of _ h5]
@[go_sem] theorem shC_setWax (h1 : 0 ≤ y) (h2 : y < 8) : upd (shC S) (258 + y.toNat) (.int .u8 v) = shC (S.setWax y v) := by
  funext j
  unfold upd shC Sh.setWax
  simp only
  split
  · rename_i hj; subst hj
    rw [if_neg (by omega), if_neg (by omega), if_pos (by omega)]
  · rename_i hj
    split
    · rfl
    · split
      · rfl
      · rw [if_neg (by omega)]
@[go_sem] theorem shC_setWide : upd (shC S) 0 (.int .i8 v) = shC { S with wide := v } := by
  funext j; unfold upd shC; simp only; split
  · rename_i hj; subst hj; rfl
  · (repeat' split) <;> first | rfl | omega
@[go_sem] theorem shC_setHigh : upd (shC S) 1 (.int .i8 v) = shC { S with high := v } := by
  funext j; unfold upd shC; simp only; split
  · rename_i hj; subst hj; rfl
  · (repeat' split) <;> first | rfl | omega
end
section
variable {y x i : Int}
@[go_sem] theorem le_wet (h1 : 0 ≤ y) (h2 : y < 8) (h3 : 0 ≤ x) (h4 : x < 8) : (2 + y.toNat * 8 + x.toNat ≤ 265) = True := eq_true (by omega)
@[go_sem] theorem le_dye0 (h1 : 0 ≤ y) (h2 : y < 8) (h3 : 0 ≤ x) (h4 : x < 8) : (66 + y.toNat * 24 + x.toNat * 3 ≤ 265) = True := eq_true (by omega)
@[go_sem] theorem le_dye1 (h1 : 0 ≤ y) (h2 : y < 8) (h3 : 0 ≤ x) (h4 : x < 8) : (66 + y.toNat * 24 + x.toNat * 3 ≤ 264) = True := eq_true (by omega)
@[go_sem] theorem le_dye2 (h1 : 0 ≤ y) (h2 : y < 8) (h3 : 0 ≤ x) (h4 : x < 8) : (66 + y.toNat * 24 + x.toNat * 3 ≤ 263) = True := eq_true (by omega)
@[go_sem] theorem le_dyeI (h1 : 0 ≤ y) (h2 : y < 8) (h3 : 0 ≤ x) (h4 : x < 8) (h5 : 0 ≤ i) (h6 : i < 3) : (66 + y.toNat * 24 + x.toNat * 3 + i.toNat ≤ 265) = True := eq_true (by omega)
@[go_sem] theorem le_wax (h1 : 0 ≤ y) (h2 : y < 8) : (258 + y.toNat ≤ 265) = True := eq_true (by omega)
end
@[go_sem] theorem zz_sheet : zz_873988 = shC sh0 := by funext j; unfold zz_873988 shC sh0; (repeat' split) <;> rfl

theorem shF_shC {S : Sh} (hR : ShR S) : ShF (shC S) S :=
  ⟨hR, rfl, rfl, fun y x a b c d => shC_wet S y x a b c d, fun y x i a b c d e f => shC_dyeI S y x i a b c d e f, fun y a b => shC_wax S y a b⟩
theorem shAt_shC {S : Sh} (hR : ShR S) : ShAt (shS S) 0 S := ⟨by simp [shS], by simpa [shS] using shF_shC hR⟩
theorem ShF.eqC {F : Nat → SV} {S : Sh} (h : ShF F S) {j : Nat} (hj : j < 266) : F j = shC S j := by
  unfold shC
  by_cases h1 : j < 2
  · rw [if_pos h1]
    rcases (by omega : j = 0 ∨ j = 1) with rfl | rfl
    · exact h.wide
    · exact h.high
  rw [if_neg h1]
  by_cases h2 : j < 258
  · rw [if_pos h2]
    by_cases h3 : j < 66
    · rw [if_pos h3]
      have := h.wet (((j - 2) / 8 : Nat) : Int) (((j - 2) % 8 : Nat) : Int) (by omega) (by omega) (by omega) (by omega)
      simp only [Int.toNat_natCast] at this
      rw [← this]; exact congrArg F (by omega)
    · rw [if_neg h3]
      have := h.dye (((j - 66) / 24 : Nat) : Int) (((j - 66) % 24 / 3 : Nat) : Int) (((j - 66) % 3 : Nat) : Int) (by omega) (by omega) (by omega) (by omega) (by omega) (by omega)
      simp only [Int.toNat_natCast] at this
      rw [← this]; exact congrArg F (by omega)
  · rw [if_neg h2]
    have := h.wax ((j - 258 : Nat) : Int) (by omega) (by omega)
    simp only [Int.toNat_natCast] at this
    rw [← this]; exact congrArg F (by omega)
theorem ShF.denC {F : Nat → SV} {S : Sh} (h : ShF F S) (ρ : Rho) : den ρ (.agg 266 F) = den ρ (.agg 266 (shC S)) := den_aggF (fun j hj => h.eqC hj) ρ
theorem shC_lt (S : Sh) (m : Nat) : (SV.agg 266 (shC S)).lt m := fun j hj => (shC_flat S j).below m
@[go_sem high] theorem shC_ltT (S : Sh) (m : Nat) : (SV.agg 266 (shC S)).lt m = True := eq_true (shC_lt S m)

section
variable (S : Sh) (y x i v y' x' i' : Int)
@[go_sem] theorem setDye_dye : (S.setDye y x i v).dye y' x' i' = if y' = y ∧ x' = x ∧ i' = i then v else S.dye y' x' i' := rfl
@[go_sem] theorem setDye_wet : (S.setDye y x i v).wet = S.wet := rfl
@[go_sem] theorem setDye_wax : (S.setDye y x i v).wax = S.wax := rfl
@[go_sem] theorem setDye_wide : (S.setDye y x i v).wide = S.wide := rfl
@[go_sem] theorem setDye_high : (S.setDye y x i v).high = S.high := rfl
@[go_sem] theorem setWet_wet : (S.setWet y x v).wet y' x' = if y' = y ∧ x' = x then v else S.wet y' x' := rfl
@[go_sem] theorem setWet_dye : (S.setWet y x v).dye = S.dye := rfl
@[go_sem] theorem setWet_wax : (S.setWet y x v).wax = S.wax := rfl
@[go_sem] theorem setWet_wide : (S.setWet y x v).wide = S.wide := rfl
@[go_sem] theorem setWet_high : (S.setWet y x v).high = S.high := rfl
end
theorem ShR.setWet {S : Sh} (h : ShR S) {y x v : Int} (hv : -32768 ≤ v ∧ v < 32768) : ShR (S.setWet y x v) :=
  ⟨h.wide, h.high, fun y' x' => by simp only [Sh.setWet]; split; exact hv; exact h.wet y' x', h.dye, h.wax⟩
theorem ShR.setDye {S : Sh} (h : ShR S) {y x i v : Int} (hv : -32768 ≤ v ∧ v < 32768) : ShR (S.setDye y x i v) :=
  ⟨h.wide, h.high, h.wet, fun y' x' i' => by simp only [Sh.setDye]; split; exact hv; exact h.dye y' x' i', h.wax⟩
theorem ShR.setWax {S : Sh} (h : ShR S) {y v : Int} (hv : 0 ≤ v ∧ v < 256) : ShR (S.setWax y v) :=
  ⟨h.wide, h.high, h.wet, h.dye, fun y' => by simp only [Sh.setWax]; split; exact hv; exact h.wax y'⟩
theorem ShR.sh0 : ShR sh0 := ⟨by simp [V.sh0], by simp [V.sh0], fun y x => by simp [V.sh0], fun y x i => by simp [V.sh0], fun y => by simp [V.sh0]⟩

section
variable {cx : Cx} {h : List (Nat × Seg)} {n : Nat}
variable (cx) (h) (n)
end
end Go.Proofs.Ytggpnfgohpifoaa.V

/- Running until a round gives nothing; sums of dyes; cells with dye. -/
namespace Go.Proofs.Ytggpnfgohpifoaa.V

theorem nbN_mono (x y : Int) (L : List (Int × Int)) (a : Sh × Int) : ∀ q, a.2 ≤ (nbN x y L a q).2 ∧ ((nbN x y L a q).2 = a.2 → (nbN x y L a q).1 = a.1)
  | 0 => ⟨Int.le_refl _, fun _ => rfl⟩
  | q + 1 => by
    obtain ⟨h1, h2⟩ := nbN_mono x y L a q
    simp only [nbN, nbStep]
    split
    · exact ⟨by simp only; omega, fun e => by simp only at e; omega⟩
    · exact ⟨h1, h2⟩
theorem runN_mono (S : Sh) (W : Nat) : ∀ j, 0 ≤ (runN S W j).2 ∧ ((runN S W j).2 = 0 → (runN S W j).1 = S)
  | 0 => ⟨Int.le_refl _, fun _ => rfl⟩
  | j + 1 => by
    obtain ⟨h1, h2⟩ := runN_mono S W j
    simp only [runN, runCell]
    split
    · exact ⟨h1, h2⟩
    · obtain ⟨g1, g2⟩ := nbN_mono ((j % W : Nat) : Int) ((j / W : Nat) : Int) (nb (runN S W j).1 ((j % W : Nat) : Int) ((j / W : Nat) : Int)) (runN S W j) (nb (runN S W j).1 ((j % W : Nat) : Int) ((j / W : Nat) : Int)).length
      refine ⟨by omega, fun e => ?_⟩
      rw [g2 (by omega)]
      exact h2 (by omega)
/-- A round that gives nothing leaves all as it was. -/
theorem runS_still {S : Sh} {W H : Nat} (h : (runS S W H).2 = 0) : (runS S W H).1 = S := (runN_mono S W (H * W)).2 h
/-- Rounds until one gives nothing: the sheet, the number of rounds, and whether there were few enough. -/
def untilN (W H : Nat) : Nat → Nat → Sh → Sh × Nat × Bool
  | 0, k, S => if (runS S W H).2 = 0 then (S, k, true) else ((runS S W H).1, 0, false)
  | f + 1, k, S => if (runS S W H).2 = 0 then (S, k, true) else untilN W H f (k + 1) (runS S W H).1
theorem untilN_stop {W H f k : Nat} {S : Sh} (h : (runS S W H).2 = 0) : untilN W H f k S = (S, k, true) := by
  cases f <;> simp [untilN, h]
theorem untilN_end {W H k : Nat} {S : Sh} (h : (runS S W H).2 ≠ 0) : untilN W H 0 k S = ((runS S W H).1, 0, false) := by simp [untilN, h]
theorem untilN_next {W H f k : Nat} {S : Sh} (h : (runS S W H).2 ≠ 0) : untilN W H (f + 1) k S = untilN W H f (k + 1) (runS S W H).1 := by simp [untilN, h]
theorem runS_good {S : Sh} {W H : Nat} (hG : Good S) (hW : S.wide = W) (hH : S.high = H) : Good (runS S W H).1 ∧ Alike' S (runS S W H).1 ∧ 0 ≤ (runS S W H).2 ∧ (runS S W H).2 ≤ 256 := by
  have hs := hG.small
  unfold Small at hs
  obtain ⟨a, b, c, d⟩ := runN_good hG hW hH (H * W) (Nat.le_refl _)
  have : H * W ≤ 64 := Nat.mul_le_mul (show H ≤ 8 by omega) (show W ≤ 8 by omega)
  exact ⟨a, b, c, by show (runN S W (H * W)).2 ≤ 256; omega⟩
theorem untilN_good {W H : Nat} : ∀ (f k : Nat) (S : Sh), Good S → S.wide = W → S.high = H → Good (untilN W H f k S).1 ∧ Alike' S (untilN W H f k S).1 ∧ (untilN W H f k S).2.1 ≤ k + f
  | 0, k, S, hG, hW, hH => by
    obtain ⟨g1, g2, _⟩ := runS_good hG hW hH
    simp only [untilN]
    split
    · exact ⟨hG, .refl _, Nat.le_refl _⟩
    · exact ⟨g1, g2, Nat.zero_le _⟩
  | f + 1, k, S, hG, hW, hH => by
    simp only [untilN]
    split
    · exact ⟨hG, .refl _, by show k ≤ _; omega⟩
    · obtain ⟨g1, g2, _⟩ := runS_good hG hW hH
      obtain ⟨a, b, c⟩ := untilN_good f (k + 1) _ g1 (by rw [g2.wide, hW]) (by rw [g2.high, hH])
      exact ⟨a, g2.trans b, by omega⟩

theorem giveN_R {w fx fy tx ty : Int} {S : Sh} (h : ShR S) : ∀ k, ShR (giveN w S fx fy tx ty k)
  | 0 => h
  | k + 1 => by
    have ih := giveN_R (w := w) (fx := fx) (fy := fy) (tx := tx) (ty := ty) h k
    unfold giveN giveInk
    exact (ih.setDye (w16_in _)).setDye (w16_in _)
theorem giveS_R {S : Sh} (h : ShR S) (fx fy tx ty : Int) : ShR (giveS S fx fy tx ty) := by
  unfold giveS
  exact ((giveN_R h 3).setWet (w16_in _)).setWet (w16_in _)
theorem nbN_R {x y : Int} {L : List (Int × Int)} {a : Sh × Int} (h : ShR a.1) : ∀ q, ShR (nbN x y L a q).1
  | 0 => h
  | q + 1 => by
    simp only [nbN, nbStep]
    split
    · exact giveS_R (nbN_R h q) _ _ _ _
    · exact nbN_R h q
theorem runN_R {S : Sh} (h : ShR S) (W : Nat) : ∀ j, ShR (runN S W j).1
  | 0 => h
  | j + 1 => by
    simp only [runN, runCell]
    split
    · exact runN_R h W j
    · exact nbN_R (runN_R h W j) _
/-! ### Sums of dyes -/
def dyeAt (S : Sh) (W : Nat) (i : Int) (k : Nat) : Int := S.dye ((k / W : Nat) : Int) ((k % W : Nat) : Int) i
def dyeN (S : Sh) (W : Nat) (i : Int) (j : Nat) : Int := sumN (dyeAt S W i) j
def dyeSum (S : Sh) (W H : Nat) (i : Int) : Int := dyeN S W i (H * W)
theorem sumN_in {f : Nat → Int} {b : Int} : ∀ n : Nat, (∀ k, k < n → 0 ≤ f k ∧ f k ≤ b) → 0 ≤ sumN f n ∧ sumN f n ≤ b * n
  | 0, _ => by simp [sumN]
  | n + 1, h => by
    obtain ⟨h1, h2⟩ := sumN_in (b := b) n fun k hk => h k (by omega)
    obtain ⟨h3, h4⟩ := h n (by omega)
    simp only [sumN]
    rw [show b * ((n + 1 : Nat) : Int) = b * n + b by rw [Int.natCast_add, Int.natCast_one, Int.mul_add, Int.mul_one]]
    omega
theorem dyeN_in {S : Sh} {W H : Nat} (hG : Good S) (hW : S.wide = W) (hH : S.high = H) {i : Int} (h0 : 0 ≤ i) (h3 : i < 3) (j : Nat) (hj : j ≤ H * W) : 0 ≤ dyeN S W i j ∧ dyeN S W i j ≤ 1000 * j :=
  sumN_in j fun k hk => by
    obtain ⟨a, b, c, d⟩ := cell_lt hG.small hW hH (j := k) (by omega)
    exact hG.dye _ _ _ c d a b h0 h3
theorem sumN_rowsF (g : Nat → Nat → Int) {W : Nat} (hW : 0 < W) : ∀ h, sumN (fun k => g (k / W) (k % W)) (h * W) = sumN (fun y => sumN (fun x => g y x) W) h
  | 0 => by simp [sumN]
  | h + 1 => by
    rw [Nat.succ_mul, sumN_split, sumN_rowsF g hW h]
    simp only [sumN]
    congr 1
    apply sumN_congr
    intro x hx
    have h5 : (h * W + x) % W = x := by rw [Nat.mul_comm, Nat.mul_add_mod, Nat.mod_eq_of_lt hx]
    have h6 : (h * W + x) / W = h := by rw [Nat.mul_comm, Nat.mul_add_div hW, Nat.div_eq_of_lt hx, Nat.add_zero]
    simp only [h5, h6]
theorem Valid.outD {S : Sh} (hV : Valid S) {y x i : Int} (a : 0 ≤ y) (b : y < 8) (c : 0 ≤ x) (d : x < 8) (e : 0 ≤ i) (f : i < 3) (hf : hasB S x y = false) : S.dye y x i = 0 :=
  (hV.2 y x a b c d).2.2.2.elim (fun h => by rw [hf] at h; cases h.1) fun h => by
    rcases (by omega : i = 0 ∨ i = 1 ∨ i = 2) with rfl | rfl | rfl
    · exact h.2.1
    · exact h.2.2.1
    · exact h.2.2.2
theorem dye8 {S : Sh} {W H : Nat} (hV : Valid S) (hW : S.wide = W) (hH : S.high = H) {i : Int} (e : 0 ≤ i) (f : i < 3) : dyeN S 8 i 64 = dyeSum S W H i := by
  have hs := hV.1
  unfold Small at hs
  have out : ∀ y x : Nat, y < 8 → x < 8 → (W ≤ x ∨ H ≤ y) → S.dye y x i = 0 := by
    intro y x hy hx ho
    refine hV.outD (by omega) (by omega) (by omega) (by omega) e f ?_
    rw [Bool.eq_false_iff]
    simp only [hasB, ne_eq, Bool.and_eq_true, decide_eq_true_eq, hW, hH]
    omega
  unfold dyeSum dyeN
  have r8 := sumN_rowsF (fun y x => S.dye (y : Int) (x : Int) i) (W := 8) (by omega) 8
  have rW := sumN_rowsF (fun y x => S.dye (y : Int) (x : Int) i) (W := W) (by omega) H
  unfold dyeAt
  rw [show (64 : Nat) = 8 * 8 from rfl, r8, rW]
  rw [sumN_zero _ H 8 (by omega) fun y hy hy8 => ?_]
  · apply sumN_congr
    intro y hy
    exact sumN_zero _ W 8 (by omega) fun x hx hx8 => out y x (by omega) hx8 (.inl hx)
  · have := sumN_zero (fun x => S.dye y x i) 0 8 (by omega) fun x _ hx8 => out y x hy8 hx8 (.inr hy)
    exact this
/-- Neither water nor dye is anywhere. -/
def Blank (S : Sh) (W H : Nat) : Prop := water S W H = 0 ∧ dyeSum S W H 0 = 0 ∧ dyeSum S W H 1 = 0 ∧ dyeSum S W H 2 = 0
theorem sumN_none {f : Nat → Int} : ∀ n : Nat, (∀ k, k < n → 0 ≤ f k) → sumN f n = 0 → ∀ k, k < n → f k = 0
  | 0, _, _, k, hk => absurd hk (Nat.not_lt_zero k)
  | n + 1, h, e, k, hk => by
    have h1 : 0 ≤ sumN f n := by
      have : ∀ m, m ≤ n → 0 ≤ sumN f m := by
        intro m hm
        induction m with
        | zero => exact Int.le_refl _
        | succ m ih => simp only [sumN]; have := ih (by omega); have := h m (by omega); omega
      exact this n (Nat.le_refl _)
    have h2 := h n (by omega)
    simp only [sumN] at e
    by_cases hkn : k = n
    · subst hkn; omega
    · exact sumN_none n (fun k hk => h k (by omega)) (by omega) k (by omega)
theorem at_cell {W : Nat} {x y : Int} (x0 : 0 ≤ x) (y0 : 0 ≤ y) (hx : x < W) : ((((y.toNat * W + x.toNat) / W : Nat) : Int) = y) ∧ ((((y.toNat * W + x.toNat) % W : Nat) : Int) = x) := by
  have hx' : x.toNat < W := by omega
  have hW : 0 < W := by omega
  rw [Nat.mul_comm, Nat.mul_add_mod, Nat.mod_eq_of_lt hx', Nat.mul_add_div hW, Nat.div_eq_of_lt hx', Nat.add_zero]
  omega
theorem Blank.wet {S : Sh} {W H : Nat} (hB : Blank S W H) (hG : Good S) (hW : S.wide = W) (hH : S.high = H) {x y : Int} (hh : hasB S x y = true) : S.wet y x = 0 := by
  simp only [hasB, Bool.and_eq_true, decide_eq_true_eq, hW, hH] at hh
  have hk : y.toNat * W + x.toNat < H * W := by
    have h1 : y.toNat + 1 ≤ H := by omega
    have := Nat.mul_le_mul_right W h1
    rw [Nat.succ_mul] at this
    omega
  obtain ⟨e1, e2⟩ := at_cell hh.1.1.1 hh.1.2 hh.1.1.2
  have := sumN_none (f := wetAt S W) (H * W) (fun k hk => by
    obtain ⟨a, b, c, d⟩ := cell_lt hG.small hW hH hk
    exact (hG.wet _ _ c d a b).1) hB.1 _ hk
  unfold wetAt at this
  rwa [e1, e2] at this
theorem Blank.dye {S : Sh} {W H : Nat} (hB : Blank S W H) (hG : Good S) (hW : S.wide = W) (hH : S.high = H) {x y i : Int} (hh : hasB S x y = true) (h0 : 0 ≤ i) (h3 : i < 3) : S.dye y x i = 0 := by
  simp only [hasB, Bool.and_eq_true, decide_eq_true_eq, hW, hH] at hh
  have hk : y.toNat * W + x.toNat < H * W := by
    have h1 : y.toNat + 1 ≤ H := by omega
    have := Nat.mul_le_mul_right W h1
    rw [Nat.succ_mul] at this
    omega
  obtain ⟨e1, e2⟩ := at_cell hh.1.1.1 hh.1.2 hh.1.1.2
  have hz : dyeSum S W H i = 0 := by
    rcases (by omega : i = 0 ∨ i = 1 ∨ i = 2) with rfl | rfl | rfl
    · exact hB.2.1
    · exact hB.2.2.1
    · exact hB.2.2.2
  have := sumN_none (f := dyeAt S W i) (H * W) (fun k hk => by
    obtain ⟨a, b, c, d⟩ := cell_lt hG.small hW hH hk
    exact (hG.dye _ _ _ c d a b h0 h3).1) hz _ hk
  unfold dyeAt at this
  rwa [e1, e2] at this

/-! ### Cells, in order -/
/-- A sheet upon which a drop has fallen. -/
def Sh.drop (S : Sh) (x y ink amount water : Int) : Sh := (S.setWet y x water).setDye y x ink amount
end Go.Proofs.Ytggpnfgohpifoaa.V

/- Drops, dark cells, sums of dyes: the program's own walks. -/
namespace Go.Proofs.Ytggpnfgohpifoaa.V

section
variable (cx : Cx) (h : List (Nat × Seg)) (n : Nat)
theorem dyes_Q (i o : Nat) (s : Seg) (S : Sh) (W H : Nat) (hs : hget h i = some s) (hi : i < n) (hS : ShAt s o S) (hG : Good S) (hW : S.wide = W) (hH : S.high = H) :
    CallQ Try.prog cx 33 [.ptr i o] h n (.agg 3 (cl [.int .i64 (dyeSum S W H 0), .int .i64 (dyeSum S W H 1), .int .i64 (dyeSum S W H 2)])) := by
  have hsm := hG.small
  have hWH : W ≤ 8 ∧ H ≤ 8 := by unfold Small at hsm; omega
  have hWH2 : H * W ≤ 64 := Nat.mul_le_mul hWH.2 hWH.1
  refine callQ_of_T (P := Try.prog) hti (nt := 33) (rs := [.cell 2 39]) rfl rfl Try.call33 Try.func33 rfl _ (by simp only [go_sem, and_self]) (Nat.le_of_ble_eq_true rfl) _ (by first | exact trivial | (refine lt_flat rfl ?_; simp [SV.flat]; done) | simp only [go_sem]) fun hok => ?_
  simp only [go_sem, Nat.reduceLT, reduceIte]
  refine callA_false (cells_E _ _ _ i o s S W H (by simp only [go_sem, hs, hi]) (by omega) hS hW hH hWH.1 hWH.2 _ fun cap hc1 hc2 => ?_)
  simp only [go_sem, Nat.reduceLT]
  refine T_lp (ι := { j : Nat // j ≤ H * W })
    (fun j => ([(0, .ptr i o), (2, .ptr n 0), (3, .ptr (n + 1) 0), (10, .sl (n + 2) 0 (H * W) cap), (11, .int .i64 ((H * W : Nat) : Int)), (12, .int .i64 j.1)],
      (n + 2, ⟨H * W * 2, cellC W, true, none⟩) :: (n + 1, ⟨3, cl [.int .i64 (dyeN S W 0 j.1), .int .i64 (dyeN S W 1 j.1), .int .i64 (dyeN S W 2 j.1)], true, none⟩) :: (n, ⟨3, cl [.int .i64 0, .int .i64 0, .int .i64 0], true, none⟩) :: h, n + 3)) (fun j => H * W - j.1) ⟨0, by omega⟩ ?_ ?_
  · refine Imp.id (by simp) ?_ ?_
    · simp only [go_sem, Nat.reduceLT, dyeN, sumN]
      omega
    · refine impH.cons0 (hget_hit _ _ _) (by simp) (SegLe.flat (Nat.le_refl _) id (.inl rfl) fun z hz => ⟨rfl, cellC_flat W z⟩) ?_
      (repeat (refine impH.cons0 (by first | (simp only [go_sem, Nat.reduceLT]; done) | (simp only [go_sem, Nat.reduceLT]; rfl)) (by simp) (SegLe.flat (Nat.le_refl _) id (.inr rfl) fun z hz => ⟨rfl, by exact cl_flat (l := [_, _, _]) (by simp [SV.flat]) hz⟩) ?_)); exact impH.base0 hok (by simp) (by simp only [go_sem, HExt_cons])
  · rintro ⟨j, hj⟩
    obtain ⟨a0, a1⟩ := dyeN_in hG hW hH (i := 0) (by omega) (by omega) j hj
    obtain ⟨b0, b1⟩ := dyeN_in hG hW hH (i := 1) (by omega) (by omega) j hj
    obtain ⟨c0, c1⟩ := dyeN_in hG hW hH (i := 2) (by omega) (by omega) j hj
    simp only [go_sem, Nat.reduceLT, reduceIte, hi, cellC_x, cellC_y, decide_eq_true_eq, decide_eq_false_iff_not]
    refine ⟨fun h1 => ⟨⟨by omega, h1⟩, by omega, ?_⟩, fun h1 => ?_⟩
    · obtain ⟨x0, x8, y0, y8⟩ := cell_in hsm hW hH (j := j) (by omega)
      refine (dye_Q _ _ _ i o s S _ _ (by simp only [go_sem, hs, hi]) (by omega) hS x0 x8 y0 y8).A ?_
      have d0 := hG.dye _ _ 0 y0 y8 x0 x8 (by omega) (by omega)
      have d1 := hG.dye _ _ 1 y0 y8 x0 x8 (by omega) (by omega)
      have d2 := hG.dye _ _ 2 y0 y8 x0 x8 (by omega) (by omega)
      simp only [go_sem, Nat.reduceLT, hi]
      refine T_unroll 3 ?_
      simp only [go_sem, Nat.reduceLT, Nat.reduceLeDiff, Nat.reduceEqDiff, Int.reduceToNat, reduceIte, Int.reduceLE, Int.reduceLT, Int.reduceNeg, Int.reduceAdd, hi]
      refine U_step ?_
      simp only [go_sem, Nat.reduceLT, Nat.reduceLeDiff, Nat.reduceEqDiff, Int.reduceToNat, reduceIte, reduceCtorEq, Int.reduceLE, Int.reduceLT, Int.reduceNeg, Int.reduceAdd, hi]
      refine U_step ?_
      simp only [go_sem, Nat.reduceLT, Nat.reduceEqDiff, Int.reduceToNat, reduceIte, reduceCtorEq, Int.reduceLE, Int.reduceLT, Int.reduceNeg, Int.reduceAdd, hi]
      refine U_step ?_
      simp only [go_sem, Nat.reduceLT, Int.reduceLT, hi]
      refine ⟨⟨j + 1, by omega⟩, by show H * W - (j + 1) < H * W - j; omega, ?_⟩
      have e0 : IntKind.i64.wrap (dyeN S W 0 j + IntKind.i64.wrap (S.dye ((j / W : Nat) : Int) ((j % W : Nat) : Int) 0)) = dyeN S W 0 (j + 1) := by rw [w64 (n := S.dye _ _ 0) (by omega), w64 (by omega)]; rfl
      have e1 : IntKind.i64.wrap (dyeN S W 1 j + IntKind.i64.wrap (S.dye ((j / W : Nat) : Int) ((j % W : Nat) : Int) 1)) = dyeN S W 1 (j + 1) := by rw [w64 (n := S.dye _ _ 1) (by omega), w64 (by omega)]; rfl
      have e2 : IntKind.i64.wrap (dyeN S W 2 j + IntKind.i64.wrap (S.dye ((j / W : Nat) : Int) ((j % W : Nat) : Int) 2)) = dyeN S W 2 (j + 1) := by rw [w64 (n := S.dye _ _ 2) (by omega), w64 (by omega)]; rfl
      rw [e0, e1, e2]
      refine Imp.id (by simp) ?_ ?_
      · simp only [go_sem, Nat.reduceLT, w64 (n := (j : Int) + 1) (by omega), Int.natCast_add, Int.natCast_one]
        omega
      · (repeat (refine impH.cons0 (by first | (simp only [go_sem, Nat.reduceLT]; done) | (simp only [go_sem, Nat.reduceBEq, Nat.reduceLT, Nat.reduceLeDiff, Nat.reduceAdd, Nat.reduceMul, Nat.reduceSub, Nat.reduceMod, Nat.reduceDiv, Nat.reduceEqDiff, Int.reduceToNat, reduceIte, reduceCtorEq, Int.reduceLE, Int.reduceLT, Int.reduceEq, Int.reduceNeg, Int.reduceAdd, Int.reduceSub, Int.reduceMul]; rfl)) (by simp) (SegLe.flat (Nat.le_refl _) id (.inr rfl) fun z hz => ⟨rfl, by first | exact cl_flat (l := [_, _, _]) (by simp [SV.flat]) hz | exact cellC_flat W z⟩) ?_)); exact impH.base0 hok (by simp) (by simp only [go_sem, HExt_cons])
    · have hj2 : j = H * W := by omega
      subst hj2
      rfl
end
end Go.Proofs.Ytggpnfgohpifoaa.V
