/- Part 3 of the texts that this proof stands on: a symbolic walk over the program, what its functions and the reference's do, plain laws. -/
import Derived.Test.YtcjgpkhdlobbbaaGreatZfeb
import Derived.Test.YtcjgpkhdlobbbaaGreatV16
import Derived.Test.YtcjgpkhdlobbbaaGreatV14
set_option linter.all false

/- The law's copy of three numbers: the walk. -/
namespace Go.Proofs.YtcjgpkhdlobbbaaGreat.V
section
variable (cx : Cx) (h : List (Nat × Seg)) (n : Nat)
end
end Go.Proofs.YtcjgpkhdlobbbaaGreat.V

/- The law's copies of arrays of three numbers: the walk. -/
namespace Go.Proofs.YtcjgpkhdlobbbaaGreat.V
section
variable (cx : Cx) (h : List (Nat × Seg)) (n : Nat)

end
end Go.Proofs.YtcjgpkhdlobbbaaGreat.V

/- The law's copy of a sheet: the walk. -/
namespace Go.Proofs.YtcjgpkhdlobbbaaGreat.V
theorem ShF.congr {F F' : Nat → SV} {S : Sh} (h : ShF F S) (he : ∀ j, j < 266 → F' j = F j) : ShF F' S :=
  ⟨h.R, (he 0 (by omega)).trans h.wide, (he 1 (by omega)).trans h.high, fun y x a b c d => (he _ (by omega)).trans (h.wet y x a b c d), fun y x i a b c d e f => (he _ (by omega)).trans (h.dye y x i a b c d e f), fun y a b => (he _ (by omega)).trans (h.wax y a b)⟩
theorem ShF.dyeS {F : Nat → SV} {S : Sh} (h : ShF F S) (j : Nat) (hj : j < 192) : F (66 + j) = .int .i16 (S.dye ((j / 24 : Nat) : Int) ((j % 24 / 3 : Nat) : Int) ((j % 3 : Nat) : Int)) := by
  have := h.dye ((j / 24 : Nat) : Int) ((j % 24 / 3 : Nat) : Int) ((j % 3 : Nat) : Int) (by omega) (by omega) (by omega) (by omega) (by omega) (by omega)
  simp only [Int.toNat_natCast] at this
  rw [show 66 + j = 66 + j / 24 * 24 + j % 24 / 3 * 3 + j % 3 by omega]; exact this
def sh0 : Sh := ⟨0, 0, fun _ _ => 0, fun _ _ _ => 0, fun _ => 0⟩
theorem ShF.zero {F : Nat → SV} (h : ∀ j, F j = zeroC j) : ShF F sh0 where
  R := ⟨by simp [sh0], by simp [sh0], fun y x => by simp [sh0], fun y x i => by simp [sh0], fun y => by simp [sh0]⟩
  wide := h 0
  high := h 1
  wet := fun y x a b c d => by rw [h]; unfold zeroC; rw [if_neg (by omega), if_pos (by omega)]; rfl
  dye := fun y x i a b c d e f => by rw [h]; unfold zeroC; rw [if_neg (by omega), if_pos (by omega)]; rfl
  wax := fun y a b => by rw [h]; unfold zeroC; rw [if_neg (by omega), if_neg (by omega)]; rfl
section
variable (cx : Cx) (h : List (Nat × Seg)) (n : Nat)
end
end Go.Proofs.YtcjgpkhdlobbbaaGreat.V

/- A sheet that came in. -/
namespace Go.Proofs.YtcjgpkhdlobbbaaGreat.V

theorem wf_u8 {n : Int} (h : (Lit.int .u8 n).wf = true) : 0 ≤ n ∧ n < 256 := by
  simp [Lit.wf, IntKind.min, IntKind.max, IntKind.signed, IntKind.bits] at h; omega

end Go.Proofs.YtcjgpkhdlobbbaaGreat.V

/- Sheets told by their numbers alone: canonical cells, loads, stores. -/
namespace Go.Proofs.YtcjgpkhdlobbbaaGreat.V

def shC (S : Sh) : Nat → SV := fun j =>
  if j < 2 then (if j < 1 then .int .i8 S.wide else .int .i8 S.high)
  else if j < 258 then (if j < 66 then .int .i16 (S.wet (((j - 2) / 8 : Nat) : Int) (((j - 2) % 8 : Nat) : Int)) else .int .i16 (S.dye (((j - 66) / 24 : Nat) : Int) (((j - 66) % 24 / 3 : Nat) : Int) (((j - 66) % 3 : Nat) : Int)))
  else .int .u8 (S.wax ((j - 258 : Nat) : Int))
def shS (S : Sh) : Seg := ⟨266, shC S, true, none⟩
@[go_sem] theorem shS_eq (S : Sh) : shS S = ⟨266, shC S, true, none⟩ := rfl
theorem shC_flat (S : Sh) (j : Nat) : (shC S j).flat := by unfold shC; (repeat' split) <;> trivial
@[go_sem] theorem shC_ones (S : Sh) : ones (.agg 266 (shC S)) = True := eq_true fun j hj => (shC_flat S j).one
@[go_sem] theorem shC_ones' (S : Sh) : ones (.agg 266 fun j => shC S j) = True := shC_ones S
@[go_sem] theorem shC_0 (S : Sh) : shC S 0 = .int .i8 S.wide := rfl
@[go_sem] theorem shC_1 (S : Sh) : shC S 1 = .int .i8 S.high := rfl
section
variable (S : Sh) (y x i v : Int)
theorem nat_of (h1 : 0 ≤ y) : ((y.toNat : Nat) : Int) = y := Int.toNat_of_nonneg h1
@[go_sem] theorem shC_wet (h1 : 0 ≤ y) (h2 : y < 8) (h3 : 0 ≤ x) (h4 : x < 8) : shC S (2 + y.toNat * 8 + x.toNat) = .int .i16 (S.wet y x) := by
  unfold shC
  rw [if_neg (by omega), if_pos (by omega), if_pos (by omega), show (2 + y.toNat * 8 + x.toNat - 2) / 8 = y.toNat by omega, show (2 + y.toNat * 8 + x.toNat - 2) % 8 = x.toNat by omega, nat_of _ h1, nat_of _ h3]
theorem shC_dyeN (k : Nat) (h1 : 0 ≤ y) (h2 : y < 8) (h3 : 0 ≤ x) (h4 : x < 8) (h5 : k < 3) : shC S (66 + y.toNat * 24 + x.toNat * 3 + k) = .int .i16 (S.dye y x k) := by
  unfold shC
  rw [if_neg (by omega), if_pos (by omega), if_neg (by omega), show (66 + y.toNat * 24 + x.toNat * 3 + k - 66) / 24 = y.toNat by omega, show (66 + y.toNat * 24 + x.toNat * 3 + k - 66) % 24 / 3 = x.toNat by omega,
    show (66 + y.toNat * 24 + x.toNat * 3 + k - 66) % 3 = k by omega, nat_of _ h1, nat_of _ h3]
@[go_sem] theorem shC_dye0 (h1 : 0 ≤ y) (h2 : y < 8) (h3 : 0 ≤ x) (h4 : x < 8) : shC S (66 + y.toNat * 24 + x.toNat * 3) = .int .i16 (S.dye y x 0) := shC_dyeN S y x 0 h1 h2 h3 h4 (by omega)
@[go_sem] theorem shC_dye1 (h1 : 0 ≤ y) (h2 : y < 8) (h3 : 0 ≤ x) (h4 : x < 8) : shC S (66 + y.toNat * 24 + x.toNat * 3 + 1) = .int .i16 (S.dye y x 1) := shC_dyeN S y x 1 h1 h2 h3 h4 (by omega)
@[go_sem] theorem shC_dye2 (h1 : 0 ≤ y) (h2 : y < 8) (h3 : 0 ≤ x) (h4 : x < 8) : shC S (66 + y.toNat * 24 + x.toNat * 3 + 2) = .int .i16 (S.dye y x 2) := shC_dyeN S y x 2 h1 h2 h3 h4 (by omega)
@[go_sem] theorem shC_dyeI (h1 : 0 ≤ y) (h2 : y < 8) (h3 : 0 ≤ x) (h4 : x < 8) (h5 : 0 ≤ i) (h6 : i < 3) : shC S (66 + y.toNat * 24 + x.toNat * 3 + i.toNat) = .int .i16 (S.dye y x i) := by
  rw [shC_dyeN S y x i.toNat h1 h2 h3 h4 (by omega), nat_of _ h5]
@[go_sem] theorem shC_wax (h1 : 0 ≤ y) (h2 : y < 8) : shC S (258 + y.toNat) = .int .u8 (S.wax y) := by
  unfold shC
  rw [if_neg (by omega), if_neg (by omega), show 258 + y.toNat - 258 = y.toNat by omega, nat_of _ h1]

def Sh.setWax (S : Sh) (y v : Int) : Sh := { S with wax := fun y' => if y' = y then v else S.wax y' }
@[go_sem] theorem shC_setWet (h1 : 0 ≤ y) (h2 : y < 8) (h3 : 0 ≤ x) (h4 : x < 8) : upd (shC S) (2 + y.toNat * 8 + x.toNat) (.int .i16 v) = shC (S.setWet y x v) := by
  funext j
  unfold upd shC Sh.setWet
  simp only
  split
  · rename_i hj; subst hj
    rw [if_neg (by omega), if_pos (by omega), if_pos (by omega), if_pos (by omega)]
  · rename_i hj
    split
    · rfl
    · split
      · split
        · rw [if_neg (by omega)]
        · rfl
      · rfl
theorem shC_setDyeN (k : Nat) (h1 : 0 ≤ y) (h2 : y < 8) (h3 : 0 ≤ x) (h4 : x < 8) (h5 : k < 3) : upd (shC S) (66 + y.toNat * 24 + x.toNat * 3 + k) (.int .i16 v) = shC (S.setDye y x k v) := by
  funext j
  unfold upd shC Sh.setDye
  simp only
  split
  · rename_i hj; subst hj
    rw [if_neg (by omega), if_pos (by omega), if_neg (by omega), if_pos (by omega)]
  · rename_i hj
    split
    · rfl
    · split
      · split
        · rfl
        · rw [if_neg (by omega)]
      · rfl
@[go_sem] theorem shC_setDye0 (h1 : 0 ≤ y) (h2 : y < 8) (h3 : 0 ≤ x) (h4 : x < 8) : upd (shC S) (66 + y.toNat * 24 + x.toNat * 3) (.int .i16 v) = shC (S.setDye y x 0 v) := shC_setDyeN S y x v 0 h1 h2 h3 h4 (by omega)
@[go_sem] theorem shC_setDye1 (h1 : 0 ≤ y) (h2 : y < 8) (h3 : 0 ≤ x) (h4 : x < 8) : upd (shC S) (66 + y.toNat * 24 + x.toNat * 3 + 1) (.int .i16 v) = shC (S.setDye y x 1 v) := shC_setDyeN S y x v 1 h1 h2 h3 h4 (by omega)
@[go_sem] theorem shC_setDye2 (h1 : 0 ≤ y) (h2 : y < 8) (h3 : 0 ≤ x) (h4 : x < 8) : upd (shC S) (66 + y.toNat * 24 + x.toNat * 3 + 2) (.int .i16 v) = shC (S.setDye y x 2 v) := shC_setDyeN S y x v 2 h1 h2 h3 h4 (by omega)
@[go_sem] theorem shC_setDyeI (h1 : 0 ≤ y) (h2 : y < 8) (h3 : 0 ≤ x) (h4 : x < 8) (h5 : 0 ≤ i) (h6 : i < 3) : upd (shC S) (66 + y.toNat * 24 + x.toNat * 3 + i.toNat) (.int .i16 v) = shC (S.setDye y x i v) := by
  rw [shC_setDyeN S y x v i.toNat h1 h2 h3 h4 (by omega), nat_of _ h5]
@[go_sem] theorem shC_setWax (h1 : 0 ≤ y) (h2 : y < 8) : upd (shC S) (258 + y.toNat) (.int .u8 v) = shC (S.setWax y v) := by
  funext j
  unfold upd shC Sh.setWax
  simp only
  split
  · rename_i hj; subst hj
    rw [if_neg (by omega), if_neg (by omega), if_pos (by omega)]
  · rename_i hj
    split
    · rfl
    · split
      · rfl
      · rw [if_neg (by omega)]
@[go_sem] theorem shC_setWide : upd (shC S) 0 (.int .i8 v) = shC { S with wide := v } := by
  funext j; unfold upd shC; simp only; split
  · rename_i hj; subst hj; rfl
  · (repeat' split) <;> first | rfl | omega
@[go_sem] theorem shC_setHigh : upd (shC S) 1 (.int .i8 v) = shC { S with high := v } := by
  funext j; unfold upd shC; simp only; split
  · rename_i hj; subst hj; rfl
  · (repeat' split) <;> first | rfl | omega
end
section
variable {y x i : Int}
@[go_sem] theorem le_wet (h1 : 0 ≤ y) (h2 : y < 8) (h3 : 0 ≤ x) (h4 : x < 8) : (2 + y.toNat * 8 + x.toNat ≤ 265) = True := eq_true (by omega)
@[go_sem] theorem le_dye0 (h1 : 0 ≤ y) (h2 : y < 8) (h3 : 0 ≤ x) (h4 : x < 8) : (66 + y.toNat * 24 + x.toNat * 3 ≤ 265) = True := eq_true (by omega)
@[go_sem] theorem le_dye1 (h1 : 0 ≤ y) (h2 : y < 8) (h3 : 0 ≤ x) (h4 : x < 8) : (66 + y.toNat * 24 + x.toNat * 3 ≤ 264) = True := eq_true (by omega)
@[go_sem] theorem le_dye2 (h1 : 0 ≤ y) (h2 : y < 8) (h3 : 0 ≤ x) (h4 : x < 8) : (66 + y.toNat * 24 + x.toNat * 3 ≤ 263) = True := eq_true (by omega)
@[go_sem] theorem le_dyeI (h1 : 0 ≤ y) (h2 : y < 8) (h3 : 0 ≤ x) (h4 : x < 8) (h5 : 0 ≤ i) (h6 : i < 3) : (66 + y.toNat * 24 + x.toNat * 3 + i.toNat ≤ 265) = True := eq_true (by omega)
@[go_sem] theorem le_wax (h1 : 0 ≤ y) (h2 : y < 8) : (258 + y.toNat ≤ 265) = True := eq_true (by omega)
end
@[go_sem] theorem zz_sheet : zz_873988 = shC sh0 := by funext j; unfold zz_873988 shC sh0; (repeat' split) <;> rfl

theorem shF_shC {S : Sh} (hR : ShR S) : ShF (shC S) S :=
  ⟨hR, rfl, rfl, fun y x a b c d => shC_wet S y x a b c d, fun y x i a b c d e f => shC_dyeI S y x i a b c d e f, fun y a b => shC_wax S y a b⟩
theorem shAt_shC {S : Sh} (hR : ShR S) : ShAt (shS S) 0 S := ⟨by simp [shS], by simpa [shS] using shF_shC hR⟩
theorem shC_lt (S : Sh) (m : Nat) : (SV.agg 266 (shC S)).lt m := fun j hj => (shC_flat S j).below m
@[go_sem high] theorem shC_ltT (S : Sh) (m : Nat) : (SV.agg 266 (shC S)).lt m = True := eq_true (shC_lt S m)

section
variable (S : Sh) (y x i v y' x' i' : Int)
@[go_sem] theorem setDye_dye : (S.setDye y x i v).dye y' x' i' = if y' = y ∧ x' = x ∧ i' = i then v else S.dye y' x' i' := rfl
@[go_sem] theorem setDye_wet : (S.setDye y x i v).wet = S.wet := rfl
@[go_sem] theorem setDye_wax : (S.setDye y x i v).wax = S.wax := rfl
@[go_sem] theorem setDye_wide : (S.setDye y x i v).wide = S.wide := rfl
@[go_sem] theorem setDye_high : (S.setDye y x i v).high = S.high := rfl
@[go_sem] theorem setWet_wet : (S.setWet y x v).wet y' x' = if y' = y ∧ x' = x then v else S.wet y' x' := rfl
@[go_sem] theorem setWet_dye : (S.setWet y x v).dye = S.dye := rfl
@[go_sem] theorem setWet_wax : (S.setWet y x v).wax = S.wax := rfl
@[go_sem] theorem setWet_wide : (S.setWet y x v).wide = S.wide := rfl
@[go_sem] theorem setWet_high : (S.setWet y x v).high = S.high := rfl
end
theorem ShR.setWet {S : Sh} (h : ShR S) {y x v : Int} (hv : -32768 ≤ v ∧ v < 32768) : ShR (S.setWet y x v) :=
  ⟨h.wide, h.high, fun y' x' => by simp only [Sh.setWet]; split; exact hv; exact h.wet y' x', h.dye, h.wax⟩
theorem ShR.setDye {S : Sh} (h : ShR S) {y x i v : Int} (hv : -32768 ≤ v ∧ v < 32768) : ShR (S.setDye y x i v) :=
  ⟨h.wide, h.high, h.wet, fun y' x' i' => by simp only [Sh.setDye]; split; exact hv; exact h.dye y' x' i', h.wax⟩
theorem ShR.setWax {S : Sh} (h : ShR S) {y v : Int} (hv : 0 ≤ v ∧ v < 256) : ShR (S.setWax y v) :=
  ⟨h.wide, h.high, h.wet, h.dye, fun y' => by simp only [Sh.setWax]; split; exact hv; exact h.wax y'⟩
theorem ShR.sh0 : ShR sh0 := ⟨by simp [V.sh0], by simp [V.sh0], fun y x => by simp [V.sh0], fun y x i => by simp [V.sh0], fun y => by simp [V.sh0]⟩

section
variable {cx : Cx} {h : List (Nat × Seg)} {n : Nat}
variable (cx) (h) (n)
end
end Go.Proofs.YtcjgpkhdlobbbaaGreat.V

/- Pictures as plain data, and as they lie in memory. -/
namespace Go.Proofs.YtcjgpkhdlobbbaaGreat.V

/-- A picture: sides, what each cell shows. -/
structure Pc where
  wide : Int
  high : Int
  ink : Int → Int → Int
structure PcR (P : Pc) : Prop where
  wide : -128 ≤ P.wide ∧ P.wide < 128
  high : -128 ≤ P.high ∧ P.high < 128
  ink : ∀ y x, 0 ≤ P.ink y x ∧ P.ink y x < 256
def pcC (P : Pc) : Nat → SV := fun j =>
  if j < 2 then (if j < 1 then .int .i8 P.wide else .int .i8 P.high) else .int .u8 (P.ink (((j - 2) / 8 : Nat) : Int) (((j - 2) % 8 : Nat) : Int))
def pcS (P : Pc) : Seg := ⟨66, pcC P, true, none⟩
@[go_sem] theorem pcS_eq (P : Pc) : pcS P = ⟨66, pcC P, true, none⟩ := rfl
theorem pcC_flat (P : Pc) (j : Nat) : (pcC P j).flat := by unfold pcC; (repeat' split) <;> trivial
@[go_sem] theorem pcC_ones (P : Pc) : ones (.agg 66 (pcC P)) = True := eq_true fun j hj => (pcC_flat P j).one
@[go_sem] theorem pcC_ones' (P : Pc) : ones (.agg 66 fun j => pcC P j) = True := pcC_ones P
@[go_sem] theorem mkAgg_66 (F : Nat → SV) : mkAgg 66 F = .agg 66 F := rfl
@[go_sem] theorem pcC_0 (P : Pc) : pcC P 0 = .int .i8 P.wide := rfl
@[go_sem] theorem pcC_1 (P : Pc) : pcC P 1 = .int .i8 P.high := rfl
def Pc.setInk (P : Pc) (y x v : Int) : Pc := { P with ink := fun y' x' => if y' = y ∧ x' = x then v else P.ink y' x' }
section
variable (P : Pc) (y x v : Int)
@[go_sem] theorem pcC_ink (h1 : 0 ≤ y) (h2 : y < 8) (h3 : 0 ≤ x) (h4 : x < 8) : pcC P (2 + y.toNat * 8 + x.toNat) = .int .u8 (P.ink y x) := by
  unfold pcC
  rw [if_neg (by omega), show (2 + y.toNat * 8 + x.toNat - 2) / 8 = y.toNat by omega, show (2 + y.toNat * 8 + x.toNat - 2) % 8 = x.toNat by omega, nat_of _ h1, nat_of _ h3]
@[go_sem] theorem pcC_setInk (h1 : 0 ≤ y) (h2 : y < 8) (h3 : 0 ≤ x) (h4 : x < 8) : upd (pcC P) (2 + y.toNat * 8 + x.toNat) (.int .u8 v) = pcC (P.setInk y x v) := by
  funext j
  unfold upd pcC Pc.setInk
  simp only
  split
  · rename_i hj; subst hj
    rw [if_neg (by omega), if_pos (by omega)]
  · rename_i hj
    split
    · rfl
    · rw [if_neg (by omega)]
@[go_sem] theorem pcC_setWide : upd (pcC P) 0 (.int .i8 v) = pcC { P with wide := v } := by
  funext j; unfold upd pcC; simp only; split
  · rename_i hj; subst hj; rfl
  · (repeat' split) <;> first | rfl | omega
@[go_sem] theorem pcC_setHigh : upd (pcC P) 1 (.int .i8 v) = pcC { P with high := v } := by
  funext j; unfold upd pcC; simp only; split
  · rename_i hj; subst hj; rfl
  · (repeat' split) <;> first | rfl | omega
end
section
variable {y x : Int}
@[go_sem] theorem le_ink (h1 : 0 ≤ y) (h2 : y < 8) (h3 : 0 ≤ x) (h4 : x < 8) : (2 + y.toNat * 8 + x.toNat ≤ 65) = True := eq_true (by omega)
@[go_sem] theorem le_ink' (h1 : 0 ≤ y) (h2 : y < 8) (h3 : 0 ≤ x) (h4 : x < 8) : (2 + y.toNat * 8 + x.toNat + 1 ≤ 66) = True := eq_true (by omega)
end
def pc0 : Pc := ⟨0, 0, fun _ _ => 0⟩
/-- The zero of the type 28. -/
@[go_sem] theorem zz_pic : zz_3d8e88 = pcC pc0 := by funext j; unfold zz_3d8e88 pcC pc0; (repeat' split) <;> rfl
theorem pcC_lt (P : Pc) (m : Nat) : (SV.agg 66 (pcC P)).lt m := fun j hj => (pcC_flat P j).below m
@[go_sem high] theorem pcC_ltT (P : Pc) (m : Nat) : (SV.agg 66 (pcC P)).lt m = True := eq_true (pcC_lt P m)
/-- A picture is valid. -/
def PcOk (P : Pc) : Prop := (1 ≤ P.wide ∧ P.wide ≤ 8 ∧ 1 ≤ P.high ∧ P.high ≤ 8) ∧ ∀ y x : Int, 0 ≤ y → y < 8 → 0 ≤ x → x < 8 → P.ink y x ≤ 3 ∧ (0 < P.ink y x → x < P.wide ∧ y < P.high)
open Classical in
noncomputable def pcokB (P : Pc) : Bool := decide (PcOk P)
theorem pcokB_t {P : Pc} (h : PcOk P) : pcokB P = true := by simp [pcokB, h]
theorem pcokB_f {P : Pc} (h : ¬ PcOk P) : pcokB P = false := by simp [pcokB, h]
/-- The sheet with a picture's cells. -/
def psh (P : Pc) : Sh := ⟨P.wide, P.high, fun _ _ => 0, fun _ _ _ => 0, fun _ => 0⟩
theorem psh_R {P : Pc} (h : PcR P) : ShR (psh P) := ⟨h.wide, h.high, fun _ _ => by show -32768 ≤ (0 : Int) ∧ (0 : Int) < 32768; omega, fun _ _ _ => by show -32768 ≤ (0 : Int) ∧ (0 : Int) < 32768; omega, fun _ => by show 0 ≤ (0 : Int) ∧ (0 : Int) < 256; omega⟩
theorem psh_small {P : Pc} (h : PcOk P) : Small (psh P) := h.1
theorem psh_wax (P : Pc) (x y : Int) : waxB (psh P) x y = false := by
  unfold waxB psh
  simp only
  rw [decide_eq_false_iff_not]
  intro h
  have : bitsI .and .u8 (shrI .u8 0 x) 1 = 0 := by
    unfold shrI
    rw [Int.zero_fdiv]
    rfl
  rw [this] at h
  cases h
theorem psh_has {P : Pc} {x y : Int} : hasB (psh P) x y = ((decide (0 ≤ x) && decide (x < P.wide)) && decide (0 ≤ y) && decide (y < P.high)) := rfl
end Go.Proofs.YtcjgpkhdlobbbaaGreat.V

/- The law's comparisons of arrays that are alike: the walk. -/
namespace Go.Proofs.YtcjgpkhdlobbbaaGreat.V
section
variable (cx : Cx) (h : List (Nat × Seg)) (n : Nat)

end
end Go.Proofs.YtcjgpkhdlobbbaaGreat.V

/- Brushes: loads, validity, parts. -/
namespace Go.Proofs.YtcjgpkhdlobbbaaGreat.V

structure Br where
  a : Int
  b : Int
  c : Int
  w : Int
  s : Int
def brC (B : Br) : Nat → SV := cl [.int .i16 B.a, .int .i16 B.b, .int .i16 B.c, .int .i16 B.w, .int .i8 B.s]
def brS (B : Br) : Seg := ⟨5, brC B, true, none⟩
@[go_sem] theorem brC_eq (B : Br) : brC B = cl [.int .i16 B.a, .int .i16 B.b, .int .i16 B.c, .int .i16 B.w, .int .i8 B.s] := rfl
@[go_sem] theorem brS_eq (B : Br) : brS B = ⟨5, brC B, true, none⟩ := rfl
structure BrR (B : Br) : Prop where
  a : -32768 ≤ B.a ∧ B.a < 32768
  b : -32768 ≤ B.b ∧ B.b < 32768
  c : -32768 ≤ B.c ∧ B.c < 32768
  w : -32768 ≤ B.w ∧ B.w < 32768
  s : -128 ≤ B.s ∧ B.s < 128
/-- A brush as it should be. -/
def BrV (B : Br) : Prop := ((0 ≤ B.a ∧ B.a ≤ 900) ∧ (0 ≤ B.b ∧ B.b ≤ 900) ∧ (0 ≤ B.c ∧ B.c ≤ 900)) ∧ B.a + B.b + B.c ≤ 900 ∧ (0 ≤ B.w ∧ B.w ≤ 200) ∧ (1 ≤ B.s ∧ B.s ≤ 16)
instance (B : Br) : Decidable (BrV B) := by unfold BrV; exact inferInstance
theorem brC_flat (B : Br) {k : Nat} (hk : k < 5) : (brC B k).flat := by
  rcases (by omega : k = 0 ∨ k = 1 ∨ k = 2 ∨ k = 3 ∨ k = 4) with rfl | rfl | rfl | rfl | rfl <;> trivial
@[go_sem] theorem brC_ones (B : Br) : ones (.agg 5 (brC B)) = True := eq_true fun j hj => (brC_flat B hj).one
@[go_sem] theorem ones_5 (a b c d e : SV) : ones (.agg 5 (cl [a, b, c, d, e])) = (a.one ∧ b.one ∧ c.one ∧ d.one ∧ e.one) := by
  apply propext; rw [ones_agg]
  refine ⟨fun h => ⟨h 0 (by omega), h 1 (by omega), h 2 (by omega), h 3 (by omega), h 4 (by omega)⟩, fun h j hj => ?_⟩
  rcases (by omega : j = 0 ∨ j = 1 ∨ j = 2 ∨ j = 3 ∨ j = 4) with rfl | rfl | rfl | rfl | rfl
  · exact h.1
  · exact h.2.1
  · exact h.2.2.1
  · exact h.2.2.2.1
  · exact h.2.2.2.2

section
variable (cx : Cx) (h : List (Nat × Seg)) (n : Nat)
end
end Go.Proofs.YtcjgpkhdlobbbaaGreat.V

/- A brush leaves ink, and touches a cell. -/
namespace Go.Proofs.YtcjgpkhdlobbbaaGreat.V

section
variable {S : Sh} {B : Br} {y x : Int} (hG : Good S) (hB : BrV B) (hx : 0 ≤ x) (hx8 : x < 8) (hy : 0 ≤ y) (hy8 : y < 8)
include hG hB hx hx8 hy hy8
end
section
variable (cx : Cx) (h : List (Nat × Seg)) (n : Nat)
variable (i : Nat) (S : Sh) (B : Br) (x y : Int) (hs : hget h i = some (shS S)) (hi : i < n) (hR : ShR S) (hG : Good S) (hB : BrV B) (hx : 0 ≤ x) (hx8 : x < 8) (hy : 0 ≤ y) (hy8 : y < 8)
theorem BrV.R {B : Br} (h : BrV B) : BrR B := by
  obtain ⟨⟨h1, h2, h3⟩, h4, h5, h6⟩ := h
  exact ⟨by omega, by omega, by omega, by omega, by omega⟩
variable (j : Nat) (ht : hget h j = some (brS B)) (hj : j < n) (hij : (i == j) = false)
end
end Go.Proofs.YtcjgpkhdlobbbaaGreat.V

/- A brush leaves ink, and touches a cell: the reference's code. -/
namespace Go.Proofs.YtcjgpkhdlobbbaaGreat.V
section
variable (cx : Cx) (h : List (Nat × Seg)) (n : Nat)
variable (i j : Nat) (S : Sh) (B : Br) (x y : Int) (hs : hget h i = some (shS S)) (hi : i < n) (ht : hget h j = some (brS B)) (hj : j < n) (hR : ShR S) (hG : Good S) (hB : BrV B) (hx : 0 ≤ x) (hx8 : x < 8) (hy : 0 ≤ y) (hy8 : y < 8)
variable (hij : (i == j) = false)
end
end Go.Proofs.YtcjgpkhdlobbbaaGreat.V

/- Steps and paths: both codes. -/
namespace Go.Proofs.YtcjgpkhdlobbbaaGreat.V

def InP (S : Sh) (L : List (Int × Int)) : Prop := ∀ k, k < L.length → hasB S (L.getD k (0, 0)).1 (L.getD k (0, 0)).2 = true
section
variable (cx : Cx) (h : List (Nat × Seg)) (n : Nat)
end
end Go.Proofs.YtcjgpkhdlobbbaaGreat.V

/- The law's comparisons of sheets that are alike: the walk. -/
namespace Go.Proofs.YtcjgpkhdlobbbaaGreat.V
section
variable (cx : Cx) (h : List (Nat × Seg)) (n : Nat)
end
end Go.Proofs.YtcjgpkhdlobbbaaGreat.V

/- Paths of a sheet, and what a sheet, a brush and a path are asked: both codes. -/
namespace Go.Proofs.YtcjgpkhdlobbbaaGreat.V
section
variable (cx : Cx) (h : List (Nat × Seg)) (n : Nat)
variable (i cap : Nat) (L : List (Int × Int)) (s : Seg) (hs : hget h i = some s) (hi : i < n) (hL : SpsAt s L) (hm9 : L.length ≤ 1000000000)
end
end Go.Proofs.YtcjgpkhdlobbbaaGreat.V

/- Strokes along paths: both codes. -/
namespace Go.Proofs.YtcjgpkhdlobbbaaGreat.V

structure OkSB (S0 : Sh) (p : Sh × Br) : Prop where
  R : ShR p.1
  G : Good p.1
  B : BrV p.2
  wide : p.1.wide = S0.wide
  high : p.1.high = S0.high
  wax : p.1.wax = S0.wax
theorem InP.at {S : Sh} {L : List (Int × Int)} (h : InP S L) (hS : Small S) {q : Nat} (hq : q < L.length) : 0 ≤ (L.getD q (0, 0)).1 ∧ (L.getD q (0, 0)).1 < 8 ∧ 0 ≤ (L.getD q (0, 0)).2 ∧ (L.getD q (0, 0)).2 < 8 := hasB_in hS (h q hq)
section
variable (cx : Cx) (h : List (Nat × Seg)) (n : Nat)
variable (i cap : Nat) (L : List (Int × Int)) (s : Seg) (hs : hget h i = some s) (hi : i < n) (hL : SpsAt s L) (hm9 : L.length ≤ 1000000000)
end
end Go.Proofs.YtcjgpkhdlobbbaaGreat.V

/- Strokes along paths, and what StrokePath returns: both codes. -/
namespace Go.Proofs.YtcjgpkhdlobbbaaGreat.V
section
variable (cx : Cx) (h : List (Nat × Seg)) (n : Nat)
variable (i cap : Nat) (L : List (Int × Int)) (s : Seg) (hs : hget h i = some s) (hi : i < n) (hL : SpsAt s L) (hm9 : L.length ≤ 1000000000)
end
end Go.Proofs.YtcjgpkhdlobbbaaGreat.V

/- What StrokePath returns: both codes. -/
namespace Go.Proofs.YtcjgpkhdlobbbaaGreat.V

def br0 : Br := ⟨0, 0, 0, 0, 0⟩
@[go_sem high] theorem brC_br0 : brC br0 = cl [.int .i16 0, .int .i16 0, .int .i16 0, .int .i16 0, .int .i8 0] := rfl
theorem Valid.ok {S : Sh} {B : Br} (hV : Valid S) (hb : BrV B) (hR : ShR S) : OkSB S (S, B) := ⟨hR, hV.good, hb, rfl, rfl, rfl⟩

section
variable (cx : Cx) (h : List (Nat × Seg)) (n : Nat)
variable (i cap : Nat) (L : List (Int × Int)) (s : Seg) (hs : hget h i = some s) (hi : i < n) (hL : SpsAt s L) (hm9 : L.length ≤ 1000000000) (S : Sh) (B : Br) (hR : ShR S) (hB : BrR B)
end
end Go.Proofs.YtcjgpkhdlobbbaaGreat.V

/- Running until a round gives nothing; sums of dyes; cells with dye. -/
namespace Go.Proofs.YtcjgpkhdlobbbaaGreat.V

/-! ### Sums of dyes -/
def dyeAt (S : Sh) (W : Nat) (i : Int) (k : Nat) : Int := S.dye ((k / W : Nat) : Int) ((k % W : Nat) : Int) i
def dyeN (S : Sh) (W : Nat) (i : Int) (j : Nat) : Int := sumN (dyeAt S W i) j
def dyeSum (S : Sh) (W H : Nat) (i : Int) : Int := dyeN S W i (H * W)
/-- Neither water nor dye is anywhere. -/
def Blank (S : Sh) (W H : Nat) : Prop := water S W H = 0 ∧ dyeSum S W H 0 = 0 ∧ dyeSum S W H 1 = 0 ∧ dyeSum S W H 2 = 0
theorem sumN_none {f : Nat → Int} : ∀ n : Nat, (∀ k, k < n → 0 ≤ f k) → sumN f n = 0 → ∀ k, k < n → f k = 0
  | 0, _, _, k, hk => absurd hk (Nat.not_lt_zero k)
  | n + 1, h, e, k, hk => by
    have h1 : 0 ≤ sumN f n := by
      have : ∀ m, m ≤ n → 0 ≤ sumN f m := by
        intro m hm
        induction m with
        | zero => exact Int.le_refl _
        | succ m ih => simp only [sumN]; have := ih (by omega); have := h m (by omega); omega
      exact this n (Nat.le_refl _)
    have h2 := h n (by omega)
    simp only [sumN] at e
    by_cases hkn : k = n
    · subst hkn; omega
    · exact sumN_none n (fun k hk => h k (by omega)) (by omega) k (by omega)
theorem at_cell {W : Nat} {x y : Int} (x0 : 0 ≤ x) (y0 : 0 ≤ y) (hx : x < W) : ((((y.toNat * W + x.toNat) / W : Nat) : Int) = y) ∧ ((((y.toNat * W + x.toNat) % W : Nat) : Int) = x) := by
  have hx' : x.toNat < W := by omega
  have hW : 0 < W := by omega
  rw [Nat.mul_comm, Nat.mul_add_mod, Nat.mod_eq_of_lt hx', Nat.mul_add_div hW, Nat.div_eq_of_lt hx', Nat.add_zero]
  omega
theorem Blank.wet {S : Sh} {W H : Nat} (hB : Blank S W H) (hG : Good S) (hW : S.wide = W) (hH : S.high = H) {x y : Int} (hh : hasB S x y = true) : S.wet y x = 0 := by
  simp only [hasB, Bool.and_eq_true, decide_eq_true_eq, hW, hH] at hh
  have hk : y.toNat * W + x.toNat < H * W := by
    have h1 : y.toNat + 1 ≤ H := by omega
    have := Nat.mul_le_mul_right W h1
    rw [Nat.succ_mul] at this
    omega
  obtain ⟨e1, e2⟩ := at_cell hh.1.1.1 hh.1.2 hh.1.1.2
  have := sumN_none (f := wetAt S W) (H * W) (fun k hk => by
    obtain ⟨a, b, c, d⟩ := cell_lt hG.small hW hH hk
    exact (hG.wet _ _ c d a b).1) hB.1 _ hk
  unfold wetAt at this
  rwa [e1, e2] at this
theorem Blank.dye {S : Sh} {W H : Nat} (hB : Blank S W H) (hG : Good S) (hW : S.wide = W) (hH : S.high = H) {x y i : Int} (hh : hasB S x y = true) (h0 : 0 ≤ i) (h3 : i < 3) : S.dye y x i = 0 := by
  simp only [hasB, Bool.and_eq_true, decide_eq_true_eq, hW, hH] at hh
  have hk : y.toNat * W + x.toNat < H * W := by
    have h1 : y.toNat + 1 ≤ H := by omega
    have := Nat.mul_le_mul_right W h1
    rw [Nat.succ_mul] at this
    omega
  obtain ⟨e1, e2⟩ := at_cell hh.1.1.1 hh.1.2 hh.1.1.2
  have hz : dyeSum S W H i = 0 := by
    rcases (by omega : i = 0 ∨ i = 1 ∨ i = 2) with rfl | rfl | rfl
    · exact hB.2.1
    · exact hB.2.2.1
    · exact hB.2.2.2
  have := sumN_none (f := dyeAt S W i) (H * W) (fun k hk => by
    obtain ⟨a, b, c, d⟩ := cell_lt hG.small hW hH hk
    exact (hG.dye _ _ _ c d a b h0 h3).1) hz _ hk
  unfold dyeAt at this
  rwa [e1, e2] at this

/-! ### Cells, in order -/
/-- A sheet upon which a drop has fallen. -/
def Sh.drop (S : Sh) (x y ink amount water : Int) : Sh := (S.setWet y x water).setDye y x ink amount
end Go.Proofs.YtcjgpkhdlobbbaaGreat.V

/- Drops, dark cells, sums of dyes: the program's own walks. -/
namespace Go.Proofs.YtcjgpkhdlobbbaaGreat.V

section
variable (cx : Cx) (h : List (Nat × Seg)) (n : Nat)
end
end Go.Proofs.YtcjgpkhdlobbbaaGreat.V
