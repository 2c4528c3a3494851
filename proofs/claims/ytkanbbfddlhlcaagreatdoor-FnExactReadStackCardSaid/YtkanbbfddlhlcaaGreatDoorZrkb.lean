/- Part 2 of the texts that this proof stands on: a symbolic walk over the program, what its functions and the reference's do, plain laws. -/
import Derived.Test.YtkanbbfddlhlcaaGreatDoorZrka
import Derived.Test.YtkanbbfddlhlcaaGreatDoorV16
import Derived.Test.YtkanbbfddlhlcaaGreatDoorV14
set_option linter.all false

/- The law's copy of three numbers: the walk. -/
namespace Go.Proofs.YtkanbbfddlhlcaaGreatDoor.V
section
variable (cx : Cx) (h : List (Nat × Seg)) (n : Nat)
end
end Go.Proofs.YtkanbbfddlhlcaaGreatDoor.V

/- The law's copies of arrays of three numbers: the walk. -/
namespace Go.Proofs.YtkanbbfddlhlcaaGreatDoor.V
section
variable (cx : Cx) (h : List (Nat × Seg)) (n : Nat)

end
end Go.Proofs.YtkanbbfddlhlcaaGreatDoor.V

/- The law's copy of a sheet: the walk. -/
namespace Go.Proofs.YtkanbbfddlhlcaaGreatDoor.V
theorem ShF.congr {F F' : Nat → SV} {S : Sh} (h : ShF F S) (he : ∀ j, j < 266 → F' j = F j) : ShF F' S :=
  ⟨h.R, (he 0 (by omega)).trans h.wide, (he 1 (by omega)).trans h.high, fun y x a b c d => (he _ (by omega)).trans (h.wet y x a b c d), fun y x i a b c d e f => (he _ (by omega)).trans (h.dye y x i a b c d e f), fun y a b => (he _ (by omega)).trans (h.wax y a b)⟩
theorem ShF.wetC {F : Nat → SV} {S : Sh} (h : ShF F S) (j : Nat) (hj : j < 64) : ∃ v, F (2 + j) = .int .i16 v := by
  have := h.wet ((j / 8 : Nat) : Int) ((j % 8 : Nat) : Int) (by omega) (by omega) (by omega) (by omega)
  simp only [Int.toNat_natCast] at this
  exact ⟨_, by rw [show 2 + j = 2 + j / 8 * 8 + j % 8 by omega]; exact this⟩
theorem ShF.dyeC {F : Nat → SV} {S : Sh} (h : ShF F S) (j : Nat) (hj : j < 192) : ∃ v, F (66 + j) = .int .i16 v := by
  have := h.dye ((j / 24 : Nat) : Int) ((j % 24 / 3 : Nat) : Int) ((j % 3 : Nat) : Int) (by omega) (by omega) (by omega) (by omega) (by omega) (by omega)
  simp only [Int.toNat_natCast] at this
  exact ⟨_, by rw [show 66 + j = 66 + j / 24 * 24 + j % 24 / 3 * 3 + j % 3 by omega]; exact this⟩
theorem ShF.waxC {F : Nat → SV} {S : Sh} (h : ShF F S) (j : Nat) (hj : j < 8) : ∃ v, F (258 + j) = .int .u8 v := by
  have := h.wax (j : Int) (by omega) (by omega)
  simp only [Int.toNat_natCast] at this
  exact ⟨_, this⟩
theorem ShF.wetS {F : Nat → SV} {S : Sh} (h : ShF F S) (j : Nat) (hj : j < 64) : F (2 + j) = .int .i16 (S.wet ((j / 8 : Nat) : Int) ((j % 8 : Nat) : Int)) := by
  have := h.wet ((j / 8 : Nat) : Int) ((j % 8 : Nat) : Int) (by omega) (by omega) (by omega) (by omega)
  simp only [Int.toNat_natCast] at this
  rw [show 2 + j = 2 + j / 8 * 8 + j % 8 by omega]; exact this
theorem ShF.dyeS {F : Nat → SV} {S : Sh} (h : ShF F S) (j : Nat) (hj : j < 192) : F (66 + j) = .int .i16 (S.dye ((j / 24 : Nat) : Int) ((j % 24 / 3 : Nat) : Int) ((j % 3 : Nat) : Int)) := by
  have := h.dye ((j / 24 : Nat) : Int) ((j % 24 / 3 : Nat) : Int) ((j % 3 : Nat) : Int) (by omega) (by omega) (by omega) (by omega) (by omega) (by omega)
  simp only [Int.toNat_natCast] at this
  rw [show 66 + j = 66 + j / 24 * 24 + j % 24 / 3 * 3 + j % 3 by omega]; exact this
theorem ShF.waxS {F : Nat → SV} {S : Sh} (h : ShF F S) (j : Nat) (hj : j < 8) : F (258 + j) = .int .u8 (S.wax (j : Int)) := by
  have := h.wax (j : Int) (by omega) (by omega)
  simp only [Int.toNat_natCast] at this
  exact this
def sh0 : Sh := ⟨0, 0, fun _ _ => 0, fun _ _ _ => 0, fun _ => 0⟩
theorem ShF.zero {F : Nat → SV} (h : ∀ j, F j = zeroC j) : ShF F sh0 where
  R := ⟨by simp [sh0], by simp [sh0], fun y x => by simp [sh0], fun y x i => by simp [sh0], fun y => by simp [sh0]⟩
  wide := h 0
  high := h 1
  wet := fun y x a b c d => by rw [h]; unfold zeroC; rw [if_neg (by omega), if_pos (by omega)]; rfl
  dye := fun y x i a b c d e f => by rw [h]; unfold zeroC; rw [if_neg (by omega), if_pos (by omega)]; rfl
  wax := fun y a b => by rw [h]; unfold zeroC; rw [if_neg (by omega), if_neg (by omega)]; rfl
section
variable (cx : Cx) (h : List (Nat × Seg)) (n : Nat)
end
end Go.Proofs.YtkanbbfddlhlcaaGreatDoor.V

/- A sheet that came in. -/
namespace Go.Proofs.YtkanbbfddlhlcaaGreatDoor.V

end Go.Proofs.YtkanbbfddlhlcaaGreatDoor.V

/- Sheets told by their numbers alone: canonical cells, loads, stores. -/
namespace Go.Proofs.YtkanbbfddlhlcaaGreatDoor.V

def shC (S : Sh) : Nat → SV := fun j =>
  if j < 2 then (if j < 1 then .int .i8 S.wide else .int .i8 S.high)
  else if j < 258 then (if j < 66 then .int .i16 (S.wet (((j - 2) / 8 : Nat) : Int) (((j - 2) % 8 : Nat) : Int)) else .int .i16 (S.dye (((j - 66) / 24 : Nat) : Int) (((j - 66) % 24 / 3 : Nat) : Int) (((j - 66) % 3 : Nat) : Int)))
  else .int .u8 (S.wax ((j - 258 : Nat) : Int))
def shS (S : Sh) : Seg := ⟨266, shC S, true, none⟩
@[go_sem] theorem shS_eq (S : Sh) : shS S = ⟨266, shC S, true, none⟩ := rfl
theorem shC_flat (S : Sh) (j : Nat) : (shC S j).flat := by unfold shC; (repeat' split) <;> trivial
@[go_sem] theorem shC_ones (S : Sh) : ones (.agg 266 (shC S)) = True := eq_true fun j hj => (shC_flat S j).one
@[go_sem] theorem shC_ones' (S : Sh) : ones (.agg 266 fun j => shC S j) = True := shC_ones S
@[go_sem] theorem shC_0 (S : Sh) : shC S 0 = .int .i8 S.wide := rfl
@[go_sem] theorem shC_1 (S : Sh) : shC S 1 = .int .i8 S.high := rfl
section
variable (S : Sh) (y x i v : Int)
theorem nat_of (h1 : 0 ≤ y) : ((y.toNat : Nat) : Int) = y := Int.toNat_of_nonneg h1
@[go_sem] theorem shC_wet (h1 : 0 ≤ y) (h2 : y < 8) (h3 : 0 ≤ x) (h4 : x < 8) : shC S (2 + y.toNat * 8 + x.toNat) = .int .i16 (S.wet y x) := by
  unfold shC
  rw [if_neg (by omega), if_pos (by omega), if_pos (by omega), show (2 + y.toNat * 8 + x.toNat - 2) / 8 = y.toNat by omega, show (2 + y.toNat * 8 + x.toNat - 2) % 8 = x.toNat by omega, nat_of _ h1, nat_of _ h3]
theorem shC_dyeN (k : Nat) (h1 : 0 ≤ y) (h2 : y < 8) (h3 : 0 ≤ x) (h4 : x < 8) (h5 : k < 3) : shC S (66 + y.toNat * 24 + x.toNat * 3 + k) = .int .i16 (S.dye y x k) := by
  unfold shC
  rw [if_neg (by omega), if_pos (by omega), if_neg (by omega), show (66 + y.toNat * 24 + x.toNat * 3 + k - 66) / 24 = y.toNat by omega, show (66 + y.toNat * 24 + x.toNat * 3 + k - 66) % 24 / 3 = x.toNat by omega,
    show (66 + y.toNat * 24 + x.toNat * 3 + k - 66) % 3 = k by omega, nat_of _ h1, nat_of _ h3]
@[go_sem] theorem shC_dye0 (h1 : 0 ≤ y) (h2 : y < 8) (h3 : 0 ≤ x) (h4 : x < 8) : shC S (66 + y.toNat * 24 + x.toNat * 3) = .int .i16 (S.dye y x 0) := shC_dyeN S y x 0 h1 h2 h3 h4 (by omega)
@[go_sem] theorem shC_dye1 (h1 : 0 ≤ y) (h2 : y < 8) (h3 : 0 ≤ x) (h4 : x < 8) : shC S (66 + y.toNat * 24 + x.toNat * 3 + 1) = .int .i16 (S.dye y x 1) := shC_dyeN S y x 1 h1 h2 h3 h4 (by omega)
@[go_sem] theorem shC_dye2 (h1 : 0 ≤ y) (h2 : y < 8) (h3 : 0 ≤ x) (h4 : x < 8) : shC S (66 + y.toNat * 24 + x.toNat * 3 + 2) = .int .i16 (S.dye y x 2) := shC_dyeN S y x 2 h1 h2 h3 h4 (by omega)
@[go_sem] theorem shC_dyeI (h1 : 0 ≤ y) (h2 : y < 8) (h3 : 0 ≤ x) (h4 : x < 8) (h5 : 0 ≤ i) (h6 : i < 3) : shC S (66 + y.toNat * 24 + x.toNat * 3 + i.toNat) = .int .i16 (S.dye y x i) := by
  rw [shC_dyeN S y x i.toNat h1 h2 h3 h4 (by omega), nat_of _ h5]
@[go_sem] theorem shC_wax (h1 : 0 ≤ y) (h2 : y < 8) : shC S (258 + y.toNat) = .int .u8 (S.wax y) := by
  unfold shC
  rw [if_neg (by omega), if_neg (by omega), show 258 + y.toNat - 258 = y.toNat by omega, nat_of _ h1]

def Sh.setWax (S : Sh) (y v : Int) : Sh := { S with wax := fun y' => if y' = y then v else S.wax y' }
@[go_sem] theorem shC_setWet (h1 : 0 ≤ y) (h2 : y < 8) (h3 : 0 ≤ x) (h4 : x < 8) : upd (shC S) (2 + y.toNat * 8 + x.toNat) (.int .i16 v) = shC (S.setWet y x v) := by
  funext j
  unfold upd shC Sh.setWet
  simp only
  split
  · rename_i hj; subst hj
    rw [if_neg (by omega), if_pos (by omega), if_pos (by omega), if_pos (by omega)]
  · rename_i hj
    split
    · rfl
    · split
      · split
        · rw [if_neg (by omega)]
        · rfl
      · rfl
theorem shC_setDyeN (k : Nat) (h1 : 0 ≤ y) (h2 : y < 8) (h3 : 0 ≤ x) (h4 : x < 8) (h5 : k < 3) : upd (shC S) (66 + y.toNat * 24 + x.toNat * 3 + k) (.int .i16 v) = shC (S.setDye y x k v) := by
  funext j
  unfold upd shC Sh.setDye
  simp only
  split
  · rename_i hj; subst hj
    rw [if_neg (by omega), if_pos (by omega), if_neg (by omega), if_pos (by omega)]
  · rename_i hj
    split
    · rfl
    · split
      · split
        · rfl
        · rw [if_neg (by omega)]
      · rfl
@[go_sem] theorem shC_setDye0 (h1 : 0 ≤ y) (h2 : y < 8) (h3 : 0 ≤ x) (h4 : x < 8) : upd (shC S) (66 + y.toNat * 24 + x.toNat * 3) (.int .i16 v) = shC (S.setDye y x 0 v) := shC_setDyeN S y x v 0 h1 h2 h3 h4 (by omega)
@[go_sem] theorem shC_setDye1 (h1 : 0 ≤ y) (h2 : y < 8) (h3 : 0 ≤ x) (h4 : x < 8) : upd (shC S) (66 + y.toNat * 24 + x.toNat * 3 + 1) (.int .i16 v) = shC (S.setDye y x 1 v) := shC_setDyeN S y x v 1 h1 h2 h3 h4 (by omega)
@[go_sem] theorem shC_setDye2 (h1 : 0 ≤ y) (h2 : y < 8) (h3 : 0 ≤ x) (h4 : x < 8) : upd (shC S) (66 + y.toNat * 24 + x.toNat * 3 + 2) (.int .i16 v) = shC (S.setDye y x 2 v) := shC_setDyeN S y x v 2 h1 h2 h3 h4 (by omega)
@[go_sem] theorem shC_setDyeI (h1 : 0 ≤ y) (h2 : y < 8) (h3 : 0 ≤ x) (h4 : x < 8) (h5 : 0 ≤ i) (h6 : i < 3) : upd (shC S) (66 + y.toNat * 24 + x.toNat * 3 + i.toNat) (.int .i16 v) = shC (S.setDye y x i v) := by
  rw [shC_setDyeN S y x v i.toNat h1 h2 h3 h4 (by omega), nat_of _ h5]
@[go_sem] theorem shC_setWax (h1 : 0 ≤ y) (h2 : y < 8) : upd (shC S) (258 + y.toNat) (.int .u8 v) = shC (S.setWax y v) := by
  funext j
  unfold upd shC Sh.setWax
  simp only
  split
  · rename_i hj; subst hj
    rw [if_neg (by omega), if_neg (by omega), if_pos (by omega)]
  · rename_i hj
    split
    · rfl
    · split
      · rfl
      · rw [if_neg (by omega)]
@[go_sem] theorem shC_setWide : upd (shC S) 0 (.int .i8 v) = shC { S with wide := v } := by
  funext j; unfold upd shC; simp only; split
  · rename_i hj; subst hj; rfl
  · (repeat' split) <;> first | rfl | omega
@[go_sem] theorem shC_setHigh : upd (shC S) 1 (.int .i8 v) = shC { S with high := v } := by
  funext j; unfold upd shC; simp only; split
  · rename_i hj; subst hj; rfl
  · (repeat' split) <;> first | rfl | omega
end
section
variable {y x i : Int}
@[go_sem] theorem le_wet (h1 : 0 ≤ y) (h2 : y < 8) (h3 : 0 ≤ x) (h4 : x < 8) : (2 + y.toNat * 8 + x.toNat ≤ 265) = True := eq_true (by omega)
@[go_sem] theorem le_dye0 (h1 : 0 ≤ y) (h2 : y < 8) (h3 : 0 ≤ x) (h4 : x < 8) : (66 + y.toNat * 24 + x.toNat * 3 ≤ 265) = True := eq_true (by omega)
@[go_sem] theorem le_dye1 (h1 : 0 ≤ y) (h2 : y < 8) (h3 : 0 ≤ x) (h4 : x < 8) : (66 + y.toNat * 24 + x.toNat * 3 ≤ 264) = True := eq_true (by omega)
@[go_sem] theorem le_dye2 (h1 : 0 ≤ y) (h2 : y < 8) (h3 : 0 ≤ x) (h4 : x < 8) : (66 + y.toNat * 24 + x.toNat * 3 ≤ 263) = True := eq_true (by omega)
@[go_sem] theorem le_dyeI (h1 : 0 ≤ y) (h2 : y < 8) (h3 : 0 ≤ x) (h4 : x < 8) (h5 : 0 ≤ i) (h6 : i < 3) : (66 + y.toNat * 24 + x.toNat * 3 + i.toNat ≤ 265) = True := eq_true (by omega)
@[go_sem] theorem le_wax (h1 : 0 ≤ y) (h2 : y < 8) : (258 + y.toNat ≤ 265) = True := eq_true (by omega)
end
@[go_sem] theorem zz_sheet : zz_873988 = shC sh0 := by funext j; unfold zz_873988 shC sh0; (repeat' split) <;> rfl

theorem shF_shC {S : Sh} (hR : ShR S) : ShF (shC S) S :=
  ⟨hR, rfl, rfl, fun y x a b c d => shC_wet S y x a b c d, fun y x i a b c d e f => shC_dyeI S y x i a b c d e f, fun y a b => shC_wax S y a b⟩
theorem shAt_shC {S : Sh} (hR : ShR S) : ShAt (shS S) 0 S := ⟨by simp [shS], by simpa [shS] using shF_shC hR⟩
theorem shC_lt (S : Sh) (m : Nat) : (SV.agg 266 (shC S)).lt m := fun j hj => (shC_flat S j).below m
@[go_sem high] theorem shC_ltT (S : Sh) (m : Nat) : (SV.agg 266 (shC S)).lt m = True := eq_true (shC_lt S m)

section
variable (S : Sh) (y x i v y' x' i' : Int)
@[go_sem] theorem setDye_dye : (S.setDye y x i v).dye y' x' i' = if y' = y ∧ x' = x ∧ i' = i then v else S.dye y' x' i' := rfl
@[go_sem] theorem setDye_wet : (S.setDye y x i v).wet = S.wet := rfl
@[go_sem] theorem setDye_wax : (S.setDye y x i v).wax = S.wax := rfl
@[go_sem] theorem setDye_wide : (S.setDye y x i v).wide = S.wide := rfl
@[go_sem] theorem setDye_high : (S.setDye y x i v).high = S.high := rfl
@[go_sem] theorem setWet_wet : (S.setWet y x v).wet y' x' = if y' = y ∧ x' = x then v else S.wet y' x' := rfl
@[go_sem] theorem setWet_dye : (S.setWet y x v).dye = S.dye := rfl
@[go_sem] theorem setWet_wax : (S.setWet y x v).wax = S.wax := rfl
@[go_sem] theorem setWet_wide : (S.setWet y x v).wide = S.wide := rfl
@[go_sem] theorem setWet_high : (S.setWet y x v).high = S.high := rfl
end
theorem ShR.setWet {S : Sh} (h : ShR S) {y x v : Int} (hv : -32768 ≤ v ∧ v < 32768) : ShR (S.setWet y x v) :=
  ⟨h.wide, h.high, fun y' x' => by simp only [Sh.setWet]; split; exact hv; exact h.wet y' x', h.dye, h.wax⟩
theorem ShR.setDye {S : Sh} (h : ShR S) {y x i v : Int} (hv : -32768 ≤ v ∧ v < 32768) : ShR (S.setDye y x i v) :=
  ⟨h.wide, h.high, h.wet, fun y' x' i' => by simp only [Sh.setDye]; split; exact hv; exact h.dye y' x' i', h.wax⟩
theorem ShR.setWax {S : Sh} (h : ShR S) {y v : Int} (hv : 0 ≤ v ∧ v < 256) : ShR (S.setWax y v) :=
  ⟨h.wide, h.high, h.wet, h.dye, fun y' => by simp only [Sh.setWax]; split; exact hv; exact h.wax y'⟩
theorem ShR.sh0 : ShR sh0 := ⟨by simp [V.sh0], by simp [V.sh0], fun y x => by simp [V.sh0], fun y x i => by simp [V.sh0], fun y => by simp [V.sh0]⟩

section
variable {cx : Cx} {h : List (Nat × Seg)} {n : Nat}
variable (cx) (h) (n)
end
end Go.Proofs.YtkanbbfddlhlcaaGreatDoor.V

/- Pictures as plain data, and as they lie in memory. -/
namespace Go.Proofs.YtkanbbfddlhlcaaGreatDoor.V

/-- A picture: sides, what each cell shows. -/
structure Pc where
  wide : Int
  high : Int
  ink : Int → Int → Int
structure PcR (P : Pc) : Prop where
  wide : -128 ≤ P.wide ∧ P.wide < 128
  high : -128 ≤ P.high ∧ P.high < 128
  ink : ∀ y x, 0 ≤ P.ink y x ∧ P.ink y x < 256
def pcC (P : Pc) : Nat → SV := fun j =>
  if j < 2 then (if j < 1 then .int .i8 P.wide else .int .i8 P.high) else .int .u8 (P.ink (((j - 2) / 8 : Nat) : Int) (((j - 2) % 8 : Nat) : Int))
def pcS (P : Pc) : Seg := ⟨66, pcC P, true, none⟩
@[go_sem] theorem pcS_eq (P : Pc) : pcS P = ⟨66, pcC P, true, none⟩ := rfl
theorem pcC_flat (P : Pc) (j : Nat) : (pcC P j).flat := by unfold pcC; (repeat' split) <;> trivial
@[go_sem] theorem pcC_ones (P : Pc) : ones (.agg 66 (pcC P)) = True := eq_true fun j hj => (pcC_flat P j).one
@[go_sem] theorem pcC_ones' (P : Pc) : ones (.agg 66 fun j => pcC P j) = True := pcC_ones P
@[go_sem] theorem mkAgg_66 (F : Nat → SV) : mkAgg 66 F = .agg 66 F := rfl
@[go_sem] theorem pcC_0 (P : Pc) : pcC P 0 = .int .i8 P.wide := rfl
@[go_sem] theorem pcC_1 (P : Pc) : pcC P 1 = .int .i8 P.high := rfl
def Pc.setInk (P : Pc) (y x v : Int) : Pc := { P with ink := fun y' x' => if y' = y ∧ x' = x then v else P.ink y' x' }
section
variable (P : Pc) (y x v : Int)
@[go_sem] theorem pcC_ink (h1 : 0 ≤ y) (h2 : y < 8) (h3 : 0 ≤ x) (h4 : x < 8) : pcC P (2 + y.toNat * 8 + x.toNat) = .int .u8 (P.ink y x) := by
  unfold pcC
  rw [if_neg (by omega), show (2 + y.toNat * 8 + x.toNat - 2) / 8 = y.toNat by omega, show (2 + y.toNat * 8 + x.toNat - 2) % 8 = x.toNat by omega, nat_of _ h1, nat_of _ h3]
@[go_sem] theorem pcC_setInk (h1 : 0 ≤ y) (h2 : y < 8) (h3 : 0 ≤ x) (h4 : x < 8) : upd (pcC P) (2 + y.toNat * 8 + x.toNat) (.int .u8 v) = pcC (P.setInk y x v) := by
  funext j
  unfold upd pcC Pc.setInk
  simp only
  split
  · rename_i hj; subst hj
    rw [if_neg (by omega), if_pos (by omega)]
  · rename_i hj
    split
    · rfl
    · rw [if_neg (by omega)]
@[go_sem] theorem pcC_setWide : upd (pcC P) 0 (.int .i8 v) = pcC { P with wide := v } := by
  funext j; unfold upd pcC; simp only; split
  · rename_i hj; subst hj; rfl
  · (repeat' split) <;> first | rfl | omega
@[go_sem] theorem pcC_setHigh : upd (pcC P) 1 (.int .i8 v) = pcC { P with high := v } := by
  funext j; unfold upd pcC; simp only; split
  · rename_i hj; subst hj; rfl
  · (repeat' split) <;> first | rfl | omega
end
section
variable {y x : Int}
@[go_sem] theorem le_ink (h1 : 0 ≤ y) (h2 : y < 8) (h3 : 0 ≤ x) (h4 : x < 8) : (2 + y.toNat * 8 + x.toNat ≤ 65) = True := eq_true (by omega)
@[go_sem] theorem le_ink' (h1 : 0 ≤ y) (h2 : y < 8) (h3 : 0 ≤ x) (h4 : x < 8) : (2 + y.toNat * 8 + x.toNat + 1 ≤ 66) = True := eq_true (by omega)
end
def pc0 : Pc := ⟨0, 0, fun _ _ => 0⟩
theorem pcC_lt (P : Pc) (m : Nat) : (SV.agg 66 (pcC P)).lt m := fun j hj => (pcC_flat P j).below m
@[go_sem high] theorem pcC_ltT (P : Pc) (m : Nat) : (SV.agg 66 (pcC P)).lt m = True := eq_true (pcC_lt P m)
/-- A picture is valid. -/
def PcOk (P : Pc) : Prop := (1 ≤ P.wide ∧ P.wide ≤ 8 ∧ 1 ≤ P.high ∧ P.high ≤ 8) ∧ ∀ y x : Int, 0 ≤ y → y < 8 → 0 ≤ x → x < 8 → P.ink y x ≤ 3 ∧ (0 < P.ink y x → x < P.wide ∧ y < P.high)
/-- The sheet with a picture's cells. -/
def psh (P : Pc) : Sh := ⟨P.wide, P.high, fun _ _ => 0, fun _ _ _ => 0, fun _ => 0⟩
theorem psh_wax (P : Pc) (x y : Int) : waxB (psh P) x y = false := by
  unfold waxB psh
  simp only
  rw [decide_eq_false_iff_not]
  intro h
  have : bitsI .and .u8 (shrI .u8 0 x) 1 = 0 := by
    unfold shrI
    rw [Int.zero_fdiv]
    rfl
  rw [this] at h
  cases h
end Go.Proofs.YtkanbbfddlhlcaaGreatDoor.V

/- Running until a round gives nothing; sums of dyes; cells with dye. -/
namespace Go.Proofs.YtkanbbfddlhlcaaGreatDoor.V

/-! ### Sums of dyes -/
def dyeAt (S : Sh) (W : Nat) (i : Int) (k : Nat) : Int := S.dye ((k / W : Nat) : Int) ((k % W : Nat) : Int) i
def dyeN (S : Sh) (W : Nat) (i : Int) (j : Nat) : Int := sumN (dyeAt S W i) j
def dyeSum (S : Sh) (W H : Nat) (i : Int) : Int := dyeN S W i (H * W)
/-- Neither water nor dye is anywhere. -/
def Blank (S : Sh) (W H : Nat) : Prop := water S W H = 0 ∧ dyeSum S W H 0 = 0 ∧ dyeSum S W H 1 = 0 ∧ dyeSum S W H 2 = 0
theorem sumN_none {f : Nat → Int} : ∀ n : Nat, (∀ k, k < n → 0 ≤ f k) → sumN f n = 0 → ∀ k, k < n → f k = 0
  | 0, _, _, k, hk => absurd hk (Nat.not_lt_zero k)
  | n + 1, h, e, k, hk => by
    have h1 : 0 ≤ sumN f n := by
      have : ∀ m, m ≤ n → 0 ≤ sumN f m := by
        intro m hm
        induction m with
        | zero => exact Int.le_refl _
        | succ m ih => simp only [sumN]; have := ih (by omega); have := h m (by omega); omega
      exact this n (Nat.le_refl _)
    have h2 := h n (by omega)
    simp only [sumN] at e
    by_cases hkn : k = n
    · subst hkn; omega
    · exact sumN_none n (fun k hk => h k (by omega)) (by omega) k (by omega)
theorem at_cell {W : Nat} {x y : Int} (x0 : 0 ≤ x) (y0 : 0 ≤ y) (hx : x < W) : ((((y.toNat * W + x.toNat) / W : Nat) : Int) = y) ∧ ((((y.toNat * W + x.toNat) % W : Nat) : Int) = x) := by
  have hx' : x.toNat < W := by omega
  have hW : 0 < W := by omega
  rw [Nat.mul_comm, Nat.mul_add_mod, Nat.mod_eq_of_lt hx', Nat.mul_add_div hW, Nat.div_eq_of_lt hx', Nat.add_zero]
  omega
theorem Blank.wet {S : Sh} {W H : Nat} (hB : Blank S W H) (hG : Good S) (hW : S.wide = W) (hH : S.high = H) {x y : Int} (hh : hasB S x y = true) : S.wet y x = 0 := by
  simp only [hasB, Bool.and_eq_true, decide_eq_true_eq, hW, hH] at hh
  have hk : y.toNat * W + x.toNat < H * W := by
    have h1 : y.toNat + 1 ≤ H := by omega
    have := Nat.mul_le_mul_right W h1
    rw [Nat.succ_mul] at this
    omega
  obtain ⟨e1, e2⟩ := at_cell hh.1.1.1 hh.1.2 hh.1.1.2
  have := sumN_none (f := wetAt S W) (H * W) (fun k hk => by
    obtain ⟨a, b, c, d⟩ := cell_lt hG.small hW hH hk
    exact (hG.wet _ _ c d a b).1) hB.1 _ hk
  unfold wetAt at this
  rwa [e1, e2] at this
theorem Blank.dye {S : Sh} {W H : Nat} (hB : Blank S W H) (hG : Good S) (hW : S.wide = W) (hH : S.high = H) {x y i : Int} (hh : hasB S x y = true) (h0 : 0 ≤ i) (h3 : i < 3) : S.dye y x i = 0 := by
  simp only [hasB, Bool.and_eq_true, decide_eq_true_eq, hW, hH] at hh
  have hk : y.toNat * W + x.toNat < H * W := by
    have h1 : y.toNat + 1 ≤ H := by omega
    have := Nat.mul_le_mul_right W h1
    rw [Nat.succ_mul] at this
    omega
  obtain ⟨e1, e2⟩ := at_cell hh.1.1.1 hh.1.2 hh.1.1.2
  have hz : dyeSum S W H i = 0 := by
    rcases (by omega : i = 0 ∨ i = 1 ∨ i = 2) with rfl | rfl | rfl
    · exact hB.2.1
    · exact hB.2.2.1
    · exact hB.2.2.2
  have := sumN_none (f := dyeAt S W i) (H * W) (fun k hk => by
    obtain ⟨a, b, c, d⟩ := cell_lt hG.small hW hH hk
    exact (hG.dye _ _ _ c d a b h0 h3).1) hz _ hk
  unfold dyeAt at this
  rwa [e1, e2] at this

/-! ### Cells, in order -/
/-- A sheet upon which a drop has fallen. -/
def Sh.drop (S : Sh) (x y ink amount water : Int) : Sh := (S.setWet y x water).setDye y x ink amount
end Go.Proofs.YtkanbbfddlhlcaaGreatDoor.V

/- Drops, dark cells, sums of dyes: the program's own walks. -/
namespace Go.Proofs.YtkanbbfddlhlcaaGreatDoor.V

section
variable (cx : Cx) (h : List (Nat × Seg)) (n : Nat)
end
end Go.Proofs.YtkanbbfddlhlcaaGreatDoor.V

/- Stacks: sheets in a row. -/
namespace Go.Proofs.YtkanbbfddlhlcaaGreatDoor.V

def stC (L : List Sh) : Nat → SV := fun k => shC (L.getD (k / 266) sh0) (k % 266)
theorem stC_flat (L : List Sh) (k : Nat) : (stC L k).flat := shC_flat _ _
theorem stC_at (L : List Sh) (i : Nat) {k : Nat} (hk : k < 266) : stC L (i * 266 + k) = shC (L.getD i sh0) k := by
  unfold stC
  rw [show (i * 266 + k) / 266 = i by omega, show (i * 266 + k) % 266 = k by omega]
theorem stC_set {L : List Sh} {i k : Nat} {v : SV} {S' : Sh} (hi : i < L.length) (hk : k < 266) (h : upd (shC (L.getD i sh0)) k v = shC S') : upd (stC L) (i * 266 + k) v = stC (L.set i S') := by
  funext z
  have hz := congrFun h (z % 266)
  unfold stC
  by_cases e : z / 266 = i
  · have hg : (L.set i S').getD (z / 266) sh0 = S' := by
      rw [e]; simp [List.getD_eq_getElem?_getD, hi]
    rw [hg, ← hz]
    unfold upd
    by_cases e2 : z % 266 = k
    · rw [if_pos (by omega), if_pos e2]
    · rw [if_neg (by omega), if_neg e2]
      show shC (L.getD (z / 266) sh0) (z % 266) = _
      rw [e]
  · have hg : (L.set i S').getD (z / 266) sh0 = L.getD (z / 266) sh0 := by
      simp only [List.getD_eq_getElem?_getD, List.getElem?_set]; rw [if_neg (fun h => e h.symm)]
    rw [hg]
    unfold upd
    rw [if_neg (by omega)]
theorem ShF.off {S : Sh} (hR : ShR S) : ShF (shC S) S := shF_shC hR
/-- A list's cells are a stack. -/
def StAt (s : Seg) (L : List Sh) : Prop := L.length * 266 ≤ s.n ∧ ∀ k, k < L.length * 266 → s.c k = stC L k
def StR (L : List Sh) : Prop := ∀ i, i < L.length → ShR (L.getD i sh0)
theorem StAt.sh {s : Seg} {L : List Sh} (h : StAt s L) (hR : StR L) {i : Nat} (hi : i < L.length) : ShAt s (i * 266) (L.getD i sh0) := by
  obtain ⟨h1, h2⟩ := h
  have e : ∀ j, j < 266 → s.c (i * 266 + j) = shC (L.getD i sh0) j := fun j hj => by
    have hlt : i * 266 + j < L.length * 266 := by omega
    exact (h2 _ hlt).trans (stC_at L i hj)
  have hb : i * 266 + 266 ≤ s.n := by
    have h4 : i * 266 + 266 ≤ L.length * 266 := by
      clear h1 h2 e
      omega
    exact Nat.le_trans h4 h1
  have h3 : ShF (fun j => s.c (i * 266 + j)) (L.getD i sh0) := ShF.congr (F' := fun j => s.c (i * 266 + j)) (shF_shC (hR i hi)) e
  generalize i * 266 = o at hb h3 ⊢
  exact ⟨hb, h3⟩
/-- An argument that is a stack. -/
def StArg (h : List (Nat × Seg)) (n : Nat) (A : SV) (L : List Sh) : Prop :=
  (A = .nils ∧ L = []) ∨ ∃ i cap s, A = .sl i 0 L.length cap ∧ i < n ∧ hget h i = some s ∧ StAt s L
theorem StArg.ext {h h' : List (Nat × Seg)} {n n' : Nat} {A : SV} {L : List Sh} (hA : StArg h n A L) (hn : n ≤ n') (hx : HExt n h h') : StArg h' n' A L := by
  rcases hA with h1 | ⟨i, cap, s, h1, hi, hs, hL⟩
  · exact .inl h1
  · exact .inr ⟨i, cap, s, h1, by omega, hx i hi s hs, hL⟩
theorem StArg.ok {h : List (Nat × Seg)} {n : Nat} {A : SV} {L : List Sh} (hA : StArg h n A L) : A.ok = True := by
  rcases hA with ⟨rfl, rfl⟩ | ⟨i, cap, s, rfl, hi, hs, hL⟩ <;> rfl
theorem StArg.lt {h : List (Nat × Seg)} {n : Nat} {A : SV} {L : List Sh} (hA : StArg h n A L) : A.lt n := by
  rcases hA with ⟨rfl, rfl⟩ | ⟨i, cap, s, rfl, hi, hs, hL⟩
  · trivial
  · exact hi
end Go.Proofs.YtkanbbfddlhlcaaGreatDoor.V

/- The law's comparisons of arrays that are alike: the walk. -/
namespace Go.Proofs.YtkanbbfddlhlcaaGreatDoor.V
section
variable (cx : Cx) (h : List (Nat × Seg)) (n : Nat)

theorem eqInt16A8_Q (F G : Nat → SV) (hF : ∀ j, j < 8 → ∃ v, F j = .int .i16 v) (hG : ∀ j, j < 8 → G j = F j) : CallQ Tryz.prog cx 58 [.agg 8 F, .agg 8 G] h n (.bool true) := by
  have hfl : Flat 8 F := fun j hj => by obtain ⟨v, hv⟩ := hF j hj; rw [hv]; trivial
  have hfG : Flat 8 G := fun j hj => by rw [hG j hj]; exact hfl j hj
  refine callQ_of_T (P := Tryz.prog) hti (nt := 17) (rs := [.tmp 4]) rfl rfl Tryz.call58 Tryz.func58 rfl _ (by simp only [go_sem, and_self]) (Nat.le_of_ble_eq_true rfl) _ (by first | exact trivial | (refine lt_flat rfl ?_; simp [SV.flat]; done) | simp only [go_sem]) fun hok => ?_
  simp only [go_sem, Nat.reduceLT]
  refine T_lp (ι := { q : Nat // q ≤ 8 })
    (fun q => ([(2, .ptr n 0), (3, .ptr (n + 1) 0), (4, .bool false), (5, .int .i64 q.1)], (n + 1, ⟨8, G, true, none⟩) :: (n, ⟨8, F, true, none⟩) :: h, n + 2)) (fun q => 8 - q.1) ⟨0, by omega⟩ ?_ ?_
  · refine Imp.id (by simp) ?_ ?_
    · simp only [go_sem, Nat.reduceLT]
      omega
    · exact impH.cons0 (hget_hit _ _ _) (by simp) (SegLe.flat (Nat.le_refl _) id (.inr rfl) fun z hz => ⟨rfl, hfG z hz⟩) (impH.cons0 ((hget_miss _ _ _ _ (by simp)).trans (hget_hit _ _ _)) (by simp) (SegLe.flat (Nat.le_refl _) id (.inr rfl) fun z hz => ⟨rfl, hfl z hz⟩)
          (impH.base0 hok (by simp) ((HExt.rfl.cons (Nat.le_refl n)).cons (by simp))))
  · rintro ⟨k, hk⟩
    simp only [go_sem, Nat.reduceLT, decide_eq_true_eq, decide_eq_false_iff_not]
    refine ⟨fun h1 => ?_, fun h1 => ?_⟩
    · have hkr : (0 : Int) ≤ k ∧ (k : Int) < 8 := ⟨by omega, h1⟩
      obtain ⟨v, hv⟩ := hF k (by omega)
      have hv' : G k = .int .i16 v := (hG k (by omega)).trans hv
      refine T_draw hti _ _ (by kernel_rfl) (by kernel_rfl) ?_
      simp only [go_sem, Nat.reduceLT, Nat.reduceLeDiff, hkr, hv, hv']
      refine ⟨by omega, by omega, ⟨k + 1, by omega⟩, by show 8 - (k + 1) < 8 - k; omega, ?_⟩
      refine Imp.id (by simp) ?_ ?_
      · simp only [go_sem, Nat.reduceLT, w64 (n := (k : Int) + 1) (by omega), Int.natCast_add, Int.natCast_one]
        omega
      · exact impH.cons0 (hget_hit _ _ _) (by simp) (SegLe.flat (Nat.le_refl _) id (.inr rfl) fun z hz => ⟨rfl, hfG z hz⟩) (impH.cons0 ((hget_miss _ _ _ _ (by simp)).trans (hget_hit _ _ _)) (by simp) (SegLe.flat (Nat.le_refl _) id (.inr rfl) fun z hz => ⟨rfl, hfl z hz⟩)
          (impH.base0 hok (by simp) ((HExt.rfl.cons (Nat.le_refl n)).cons (by simp))))
    · have hk8 : k = 8 := by omega
      subst hk8
      simp only [go_sem]

theorem eqByteA8_Q (F G : Nat → SV) (hF : ∀ j, j < 8 → ∃ v, F j = .int .u8 v) (hG : ∀ j, j < 8 → G j = F j) : CallQ Tryz.prog cx 32 [.agg 8 F, .agg 8 G] h n (.bool true) := by
  have hfl : Flat 8 F := fun j hj => by obtain ⟨v, hv⟩ := hF j hj; rw [hv]; trivial
  have hfG : Flat 8 G := fun j hj => by rw [hG j hj]; exact hfl j hj
  refine callQ_of_T (P := Tryz.prog) hti (nt := 17) (rs := [.tmp 4]) rfl rfl Tryz.call32 Tryz.func32 rfl _ (by simp only [go_sem, and_self]) (Nat.le_of_ble_eq_true rfl) _ (by first | exact trivial | (refine lt_flat rfl ?_; simp [SV.flat]; done) | simp only [go_sem]) fun hok => ?_
  simp only [go_sem, Nat.reduceLT]
  refine T_lp (ι := { q : Nat // q ≤ 8 })
    (fun q => ([(2, .ptr n 0), (3, .ptr (n + 1) 0), (4, .bool false), (5, .int .i64 q.1)], (n + 1, ⟨8, G, true, none⟩) :: (n, ⟨8, F, true, none⟩) :: h, n + 2)) (fun q => 8 - q.1) ⟨0, by omega⟩ ?_ ?_
  · refine Imp.id (by simp) ?_ ?_
    · simp only [go_sem, Nat.reduceLT]
      omega
    · exact impH.cons0 (hget_hit _ _ _) (by simp) (SegLe.flat (Nat.le_refl _) id (.inr rfl) fun z hz => ⟨rfl, hfG z hz⟩) (impH.cons0 ((hget_miss _ _ _ _ (by simp)).trans (hget_hit _ _ _)) (by simp) (SegLe.flat (Nat.le_refl _) id (.inr rfl) fun z hz => ⟨rfl, hfl z hz⟩)
          (impH.base0 hok (by simp) ((HExt.rfl.cons (Nat.le_refl n)).cons (by simp))))
  · rintro ⟨k, hk⟩
    simp only [go_sem, Nat.reduceLT, decide_eq_true_eq, decide_eq_false_iff_not]
    refine ⟨fun h1 => ?_, fun h1 => ?_⟩
    · have hkr : (0 : Int) ≤ k ∧ (k : Int) < 8 := ⟨by omega, h1⟩
      obtain ⟨v, hv⟩ := hF k (by omega)
      have hv' : G k = .int .u8 v := (hG k (by omega)).trans hv
      refine T_draw hti _ _ (by kernel_rfl) (by kernel_rfl) ?_
      simp only [go_sem, Nat.reduceLT, Nat.reduceLeDiff, hkr, hv, hv']
      refine ⟨by omega, by omega, ⟨k + 1, by omega⟩, by show 8 - (k + 1) < 8 - k; omega, ?_⟩
      refine Imp.id (by simp) ?_ ?_
      · simp only [go_sem, Nat.reduceLT, w64 (n := (k : Int) + 1) (by omega), Int.natCast_add, Int.natCast_one]
        omega
      · exact impH.cons0 (hget_hit _ _ _) (by simp) (SegLe.flat (Nat.le_refl _) id (.inr rfl) fun z hz => ⟨rfl, hfG z hz⟩) (impH.cons0 ((hget_miss _ _ _ _ (by simp)).trans (hget_hit _ _ _)) (by simp) (SegLe.flat (Nat.le_refl _) id (.inr rfl) fun z hz => ⟨rfl, hfl z hz⟩)
          (impH.base0 hok (by simp) ((HExt.rfl.cons (Nat.le_refl n)).cons (by simp))))
    · have hk8 : k = 8 := by omega
      subst hk8
      simp only [go_sem]

theorem eqInt16A8A8_Q (F G : Nat → SV) (hF : ∀ j, j < 64 → ∃ v, F j = .int .i16 v) (hG : ∀ j, j < 64 → G j = F j) : CallQ Tryz.prog cx 30 [.agg 64 F, .agg 64 G] h n (.bool true) := by
  have hfl : Flat 64 F := fun j hj => by obtain ⟨v, hv⟩ := hF j hj; rw [hv]; trivial
  have hfG : Flat 64 G := fun j hj => by rw [hG j hj]; exact hfl j hj
  refine callQ_of_T (P := Tryz.prog) hti (nt := 18) (rs := [.tmp 4]) rfl rfl Tryz.call30 Tryz.func30 rfl _ (by simp only [go_sem, and_self]) (Nat.le_of_ble_eq_true rfl) _ (by first | exact trivial | (refine lt_flat rfl ?_; simp [SV.flat]; done) | simp only [go_sem]) fun hok => ?_
  simp only [go_sem, Nat.reduceLT]
  refine T_lp (ι := { q : Nat // q ≤ 8 })
    (fun q => ([(2, .ptr n 0), (3, .ptr (n + 1) 0), (4, .bool false), (5, .int .i64 q.1)], (n + 1, ⟨64, G, true, none⟩) :: (n, ⟨64, F, true, none⟩) :: h, n + 2)) (fun q => 8 - q.1) ⟨0, by omega⟩ ?_ ?_
  · refine Imp.id (by simp) ?_ ?_
    · simp only [go_sem, Nat.reduceLT]
      omega
    · exact impH.cons0 (hget_hit _ _ _) (by simp) (SegLe.flat (Nat.le_refl _) id (.inr rfl) fun z hz => ⟨rfl, hfG z hz⟩) (impH.cons0 ((hget_miss _ _ _ _ (by simp)).trans (hget_hit _ _ _)) (by simp) (SegLe.flat (Nat.le_refl _) id (.inr rfl) fun z hz => ⟨rfl, hfl z hz⟩)
          (impH.base0 hok (by simp) ((HExt.rfl.cons (Nat.le_refl n)).cons (by simp))))
  · rintro ⟨k, hk⟩
    simp only [go_sem, Nat.reduceLT, decide_eq_true_eq, decide_eq_false_iff_not]
    refine ⟨fun h1 => ?_, fun h1 => ?_⟩
    · have hkr : (0 : Int) ≤ k ∧ (k : Int) < 8 := ⟨by omega, h1⟩
      refine T_drawT hti 6 _ _ (by kernel_rfl) (by kernel_rfl) ?_
      simp only [go_sem, Nat.reduceLT, Nat.reduceLeDiff, hkr]
      refine ⟨by omega, by omega, (eqInt16A8_Q _ _ _ (fun j => F (k * 8 + j)) (fun j => G (k * 8 + j)) (fun j hj => hF (k * 8 + j) (by omega)) (fun j hj => hG (k * 8 + j) (by omega))).A ?_⟩
      simp only [go_sem, Nat.reduceLT, Bool.not_true]
      refine ⟨⟨k + 1, by omega⟩, by show 8 - (k + 1) < 8 - k; omega, ?_⟩
      refine Imp.id (by simp) ?_ ?_
      · simp only [go_sem, Nat.reduceLT, w64 (n := (k : Int) + 1) (by omega), Int.natCast_add, Int.natCast_one]
        omega
      · exact impH.cons0 (hget_hit _ _ _) (by simp) (SegLe.flat (Nat.le_refl _) id (.inr rfl) fun z hz => ⟨rfl, hfG z hz⟩) (impH.cons0 ((hget_miss _ _ _ _ (by simp)).trans (hget_hit _ _ _)) (by simp) (SegLe.flat (Nat.le_refl _) id (.inr rfl) fun z hz => ⟨rfl, hfl z hz⟩)
          (impH.base0 hok (by simp) ((HExt.rfl.cons (Nat.le_refl n)).cons (by simp))))
    · have hk8 : k = 8 := by omega
      subst hk8
      simp only [go_sem]

end
end Go.Proofs.YtkanbbfddlhlcaaGreatDoor.V

/- The law's comparisons of sheets that are alike: the walk. -/
namespace Go.Proofs.YtkanbbfddlhlcaaGreatDoor.V
section
variable (cx : Cx) (h : List (Nat × Seg)) (n : Nat)
theorem eqInt16A3_Q (a b d : Int) : CallQ Tryz.prog cx 71 [.agg 3 (cl [.int .i16 a, .int .i16 b, .int .i16 d]), .agg 3 (cl [.int .i16 a, .int .i16 b, .int .i16 d])] h n (.bool true) := by
  refine callQ_of_T (P := Tryz.prog) hti (nt := 17) (rs := [.tmp 4]) rfl rfl Tryz.call71 Tryz.func71 rfl _ (by simp only [go_sem, and_self]) (Nat.le_of_ble_eq_true rfl) _ (by first | exact trivial | (refine lt_flat rfl ?_; simp [SV.flat]; done) | simp only [go_sem]) fun hok => ?_
  simp only [go_sem, Nat.reduceLT]
  refine T_lp (ι := { q : Nat // q ≤ 3 })
    (fun q => ([(2, .ptr n 0), (3, .ptr (n + 1) 0), (4, .bool false), (5, .int .i64 q.1)], (n + 1, ⟨3, cl [.int .i16 a, .int .i16 b, .int .i16 d], true, none⟩) :: (n, ⟨3, cl [.int .i16 a, .int .i16 b, .int .i16 d], true, none⟩) :: h, n + 2)) (fun q => 3 - q.1) ⟨0, by omega⟩ ?_ ?_
  · refine Imp.id (by simp) ?_ ?_
    · simp only [go_sem, Nat.reduceLT]
      omega
    · exact impH.cons0 (hget_hit _ _ _) (by simp) (SegLe.flat (Nat.le_refl _) id (.inr rfl) fun z hz => ⟨rfl, cl_flat (l := [_, _, _]) (by simp [SV.flat]) hz⟩) (impH.cons0 ((hget_miss _ _ _ _ (by simp)).trans (hget_hit _ _ _)) (by simp) (SegLe.flat (Nat.le_refl _) id (.inr rfl) fun z hz => ⟨rfl, cl_flat (l := [_, _, _]) (by simp [SV.flat]) hz⟩)
          (impH.base0 hok (by simp) ((HExt.rfl.cons (Nat.le_refl n)).cons (by simp))))
  · rintro ⟨k, hk⟩
    simp only [go_sem, Nat.reduceLT, decide_eq_true_eq, decide_eq_false_iff_not]
    refine ⟨fun h1 => ?_, fun h1 => ?_⟩
    · have hkr : (0 : Int) ≤ k ∧ (k : Int) < 3 := ⟨by omega, h1⟩
      obtain ⟨v, hv⟩ : ∃ v, cl [SV.int .i16 a, SV.int .i16 b, SV.int .i16 d] k = .int .i16 v := by
        rcases (by omega : k = 0 ∨ k = 1 ∨ k = 2) with rfl | rfl | rfl <;> exact ⟨_, rfl⟩
      refine T_draw hti _ _ (by kernel_rfl) (by kernel_rfl) ?_
      simp only [go_sem, Nat.reduceLT, Nat.reduceLeDiff, hkr, hv]
      refine ⟨by omega, by omega, ⟨k + 1, by omega⟩, by show 3 - (k + 1) < 3 - k; omega, ?_⟩
      refine Imp.id (by simp) ?_ ?_
      · simp only [go_sem, Nat.reduceLT, w64 (n := (k : Int) + 1) (by omega), Int.natCast_add, Int.natCast_one]
        omega
      · exact impH.cons0 (hget_hit _ _ _) (by simp) (SegLe.flat (Nat.le_refl _) id (.inr rfl) fun z hz => ⟨rfl, cl_flat (l := [_, _, _]) (by simp [SV.flat]) hz⟩) (impH.cons0 ((hget_miss _ _ _ _ (by simp)).trans (hget_hit _ _ _)) (by simp) (SegLe.flat (Nat.le_refl _) id (.inr rfl) fun z hz => ⟨rfl, cl_flat (l := [_, _, _]) (by simp [SV.flat]) hz⟩)
          (impH.base0 hok (by simp) ((HExt.rfl.cons (Nat.le_refl n)).cons (by simp))))
    · have hk8 : k = 3 := by omega
      subst hk8
      simp only [go_sem]

theorem eqInt16A3A8_Q (F G : Nat → SV) (hF : ∀ j, j < 24 → ∃ v, F j = .int .i16 v) (hG : ∀ j, j < 24 → G j = F j) : CallQ Tryz.prog cx 59 [.agg 24 F, .agg 24 G] h n (.bool true) := by
  have hfl : Flat 24 F := fun j hj => by obtain ⟨v, hv⟩ := hF j hj; rw [hv]; trivial
  have hfG : Flat 24 G := fun j hj => by rw [hG j hj]; exact hfl j hj
  refine callQ_of_T (P := Tryz.prog) hti (nt := 18) (rs := [.tmp 4]) rfl rfl Tryz.call59 Tryz.func59 rfl _ (by simp only [go_sem, and_self]) (Nat.le_of_ble_eq_true rfl) _ (by first | exact trivial | (refine lt_flat rfl ?_; simp [SV.flat]; done) | simp only [go_sem]) fun hok => ?_
  simp only [go_sem, Nat.reduceLT]
  refine T_lp (ι := { q : Nat // q ≤ 8 })
    (fun q => ([(2, .ptr n 0), (3, .ptr (n + 1) 0), (4, .bool false), (5, .int .i64 q.1)], (n + 1, ⟨24, G, true, none⟩) :: (n, ⟨24, F, true, none⟩) :: h, n + 2)) (fun q => 8 - q.1) ⟨0, by omega⟩ ?_ ?_
  · refine Imp.id (by simp) ?_ ?_
    · simp only [go_sem, Nat.reduceLT]
      omega
    · exact impH.cons0 (hget_hit _ _ _) (by simp) (SegLe.flat (Nat.le_refl _) id (.inr rfl) fun z hz => ⟨rfl, hfG z hz⟩) (impH.cons0 ((hget_miss _ _ _ _ (by simp)).trans (hget_hit _ _ _)) (by simp) (SegLe.flat (Nat.le_refl _) id (.inr rfl) fun z hz => ⟨rfl, hfl z hz⟩)
          (impH.base0 hok (by simp) ((HExt.rfl.cons (Nat.le_refl n)).cons (by simp))))
  · rintro ⟨k, hk⟩
    simp only [go_sem, Nat.reduceLT, decide_eq_true_eq, decide_eq_false_iff_not]
    refine ⟨fun h1 => ?_, fun h1 => ?_⟩
    · have hkr : (0 : Int) ≤ k ∧ (k : Int) < 8 := ⟨by omega, h1⟩
      obtain ⟨v0, hv0⟩ := hF (k * 3) (by omega)
      obtain ⟨v1, hv1⟩ := hF (k * 3 + 1) (by omega)
      obtain ⟨v2, hv2⟩ := hF (k * 3 + 2) (by omega)
      have hg0 := (hG (k * 3) (by omega)).trans hv0
      have hg1 := (hG (k * 3 + 1) (by omega)).trans hv1
      have hg2 := (hG (k * 3 + 2) (by omega)).trans hv2
      refine T_drawT hti 6 _ _ (by kernel_rfl) (by kernel_rfl) ?_
      simp only [go_sem, Nat.reduceLT, Nat.reduceLeDiff, hkr, hv0, hv1, hv2, hg0, hg1, hg2]
      refine ⟨by omega, by omega, (eqInt16A3_Q _ _ _ _ _ _).A ?_⟩
      simp only [go_sem, Nat.reduceLT, Bool.not_true]
      refine ⟨⟨k + 1, by omega⟩, by show 8 - (k + 1) < 8 - k; omega, ?_⟩
      refine Imp.id (by simp) ?_ ?_
      · simp only [go_sem, Nat.reduceLT, w64 (n := (k : Int) + 1) (by omega), Int.natCast_add, Int.natCast_one]
        omega
      · exact impH.cons0 (hget_hit _ _ _) (by simp) (SegLe.flat (Nat.le_refl _) id (.inr rfl) fun z hz => ⟨rfl, hfG z hz⟩) (impH.cons0 ((hget_miss _ _ _ _ (by simp)).trans (hget_hit _ _ _)) (by simp) (SegLe.flat (Nat.le_refl _) id (.inr rfl) fun z hz => ⟨rfl, hfl z hz⟩)
          (impH.base0 hok (by simp) ((HExt.rfl.cons (Nat.le_refl n)).cons (by simp))))
    · have hk8 : k = 8 := by omega
      subst hk8
      simp only [go_sem]

theorem eqInt16A3A8A8_Q (F G : Nat → SV) (hF : ∀ j, j < 192 → ∃ v, F j = .int .i16 v) (hG : ∀ j, j < 192 → G j = F j) : CallQ Tryz.prog cx 31 [.agg 192 F, .agg 192 G] h n (.bool true) := by
  have hfl : Flat 192 F := fun j hj => by obtain ⟨v, hv⟩ := hF j hj; rw [hv]; trivial
  have hfG : Flat 192 G := fun j hj => by rw [hG j hj]; exact hfl j hj
  refine callQ_of_T (P := Tryz.prog) hti (nt := 18) (rs := [.tmp 4]) rfl rfl Tryz.call31 Tryz.func31 rfl _ (by simp only [go_sem, and_self]) (Nat.le_of_ble_eq_true rfl) _ (by first | exact trivial | (refine lt_flat rfl ?_; simp [SV.flat]; done) | simp only [go_sem]) fun hok => ?_
  simp only [go_sem, Nat.reduceLT]
  refine T_lp (ι := { q : Nat // q ≤ 8 })
    (fun q => ([(2, .ptr n 0), (3, .ptr (n + 1) 0), (4, .bool false), (5, .int .i64 q.1)], (n + 1, ⟨192, G, true, none⟩) :: (n, ⟨192, F, true, none⟩) :: h, n + 2)) (fun q => 8 - q.1) ⟨0, by omega⟩ ?_ ?_
  · refine Imp.id (by simp) ?_ ?_
    · simp only [go_sem, Nat.reduceLT]
      omega
    · exact impH.cons0 (hget_hit _ _ _) (by simp) (SegLe.flat (Nat.le_refl _) id (.inr rfl) fun z hz => ⟨rfl, hfG z hz⟩) (impH.cons0 ((hget_miss _ _ _ _ (by simp)).trans (hget_hit _ _ _)) (by simp) (SegLe.flat (Nat.le_refl _) id (.inr rfl) fun z hz => ⟨rfl, hfl z hz⟩)
          (impH.base0 hok (by simp) ((HExt.rfl.cons (Nat.le_refl n)).cons (by simp))))
  · rintro ⟨k, hk⟩
    simp only [go_sem, Nat.reduceLT, decide_eq_true_eq, decide_eq_false_iff_not]
    refine ⟨fun h1 => ?_, fun h1 => ?_⟩
    · have hkr : (0 : Int) ≤ k ∧ (k : Int) < 8 := ⟨by omega, h1⟩
      refine T_drawT hti 6 _ _ (by kernel_rfl) (by kernel_rfl) ?_
      simp only [go_sem, Nat.reduceLT, Nat.reduceLeDiff, hkr]
      refine ⟨by omega, by omega, (eqInt16A3A8_Q _ _ _ (fun j => F (k * 24 + j)) (fun j => G (k * 24 + j)) (fun j hj => hF (k * 24 + j) (by omega)) (fun j hj => hG (k * 24 + j) (by omega))).A ?_⟩
      simp only [go_sem, Nat.reduceLT, Bool.not_true]
      refine ⟨⟨k + 1, by omega⟩, by show 8 - (k + 1) < 8 - k; omega, ?_⟩
      refine Imp.id (by simp) ?_ ?_
      · simp only [go_sem, Nat.reduceLT, w64 (n := (k : Int) + 1) (by omega), Int.natCast_add, Int.natCast_one]
        omega
      · exact impH.cons0 (hget_hit _ _ _) (by simp) (SegLe.flat (Nat.le_refl _) id (.inr rfl) fun z hz => ⟨rfl, hfG z hz⟩) (impH.cons0 ((hget_miss _ _ _ _ (by simp)).trans (hget_hit _ _ _)) (by simp) (SegLe.flat (Nat.le_refl _) id (.inr rfl) fun z hz => ⟨rfl, hfl z hz⟩)
          (impH.base0 hok (by simp) ((HExt.rfl.cons (Nat.le_refl n)).cons (by simp))))
    · have hk8 : k = 8 := by omega
      subst hk8
      simp only [go_sem]

theorem eqSheet_Q (F G : Nat → SV) (S : Sh) (hF : ShF F S) (hG : ShF G S) : CallQ Tryz.prog cx 16 [.agg 266 F, .agg 266 G] h n (.bool true) := by
  have hR := hF.R
  refine callQ_of_T (P := Tryz.prog) hti (nt := 33) (rs := [.tmp 4]) rfl rfl Tryz.call16 Tryz.func16 rfl _ (by simp only [go_sem, and_self]) (Nat.le_of_ble_eq_true rfl) _ (by first | exact trivial | (refine lt_flat rfl ?_; simp [SV.flat]; done) | simp only [go_sem]) fun hok => ?_
  simp only [go_sem, Nat.reduceLT, Nat.reduceLeDiff, Nat.reduceAdd, reduceCtorEq, hF.wide, hF.high, hG.wide, hG.high]
  refine (eqInt16A8A8_Q _ _ _ (fun j => F (2 + j)) (fun j => G (2 + j)) (fun j hj => hF.wetC j hj) (fun j hj => by rw [hF.wetS j hj, hG.wetS j hj])).A ?_
  simp only [go_sem, Nat.reduceLT, Nat.reduceLeDiff, Nat.reduceAdd, reduceCtorEq, Bool.not_true]
  refine (eqInt16A3A8A8_Q _ _ _ (fun j => F (66 + j)) (fun j => G (66 + j)) (fun j hj => hF.dyeC j hj) (fun j hj => by rw [hF.dyeS j hj, hG.dyeS j hj])).A ?_
  simp only [go_sem, Nat.reduceLT, Nat.reduceAdd, reduceCtorEq, Bool.not_true]
  refine (eqByteA8_Q _ _ _ (fun j => F (258 + j)) (fun j => G (258 + j)) (fun j hj => hF.waxC j hj) (fun j hj => by rw [hF.waxS j hj, hG.waxS j hj])).A ?_
  simp only [go_sem, Nat.reduceLT, Bool.not_true]
end
end Go.Proofs.YtkanbbfddlhlcaaGreatDoor.V
