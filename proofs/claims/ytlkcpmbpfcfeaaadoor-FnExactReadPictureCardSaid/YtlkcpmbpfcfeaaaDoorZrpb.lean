/- Part 2 of the texts that this proof stands on: a symbolic walk over the program, what its functions and the reference's do, plain laws. -/
import Derived.Test.YtlkcpmbpfcfeaaaDoorZrpa
import Derived.Test.YtlkcpmbpfcfeaaaDoorV16
import Derived.Test.YtlkcpmbpfcfeaaaDoorV14
set_option linter.all false

/- The law's copy of three numbers: the walk. -/
namespace Go.Proofs.YtlkcpmbpfcfeaaaDoor.V
section
variable (cx : Cx) (h : List (Nat × Seg)) (n : Nat)
end
end Go.Proofs.YtlkcpmbpfcfeaaaDoor.V

/- The law's copies of arrays of three numbers: the walk. -/
namespace Go.Proofs.YtlkcpmbpfcfeaaaDoor.V
section
variable (cx : Cx) (h : List (Nat × Seg)) (n : Nat)

end
end Go.Proofs.YtlkcpmbpfcfeaaaDoor.V

/- The law's copy of a sheet: the walk. -/
namespace Go.Proofs.YtlkcpmbpfcfeaaaDoor.V
theorem ShF.congr {F F' : Nat → SV} {S : Sh} (h : ShF F S) (he : ∀ j, j < 266 → F' j = F j) : ShF F' S :=
  ⟨h.R, (he 0 (by omega)).trans h.wide, (he 1 (by omega)).trans h.high, fun y x a b c d => (he _ (by omega)).trans (h.wet y x a b c d), fun y x i a b c d e f => (he _ (by omega)).trans (h.dye y x i a b c d e f), fun y a b => (he _ (by omega)).trans (h.wax y a b)⟩
def sh0 : Sh := ⟨0, 0, fun _ _ => 0, fun _ _ _ => 0, fun _ => 0⟩
theorem ShF.zero {F : Nat → SV} (h : ∀ j, F j = zeroC j) : ShF F sh0 where
  R := ⟨by simp [sh0], by simp [sh0], fun y x => by simp [sh0], fun y x i => by simp [sh0], fun y => by simp [sh0]⟩
  wide := h 0
  high := h 1
  wet := fun y x a b c d => by rw [h]; unfold zeroC; rw [if_neg (by omega), if_pos (by omega)]; rfl
  dye := fun y x i a b c d e f => by rw [h]; unfold zeroC; rw [if_neg (by omega), if_pos (by omega)]; rfl
  wax := fun y a b => by rw [h]; unfold zeroC; rw [if_neg (by omega), if_neg (by omega)]; rfl
section
variable (cx : Cx) (h : List (Nat × Seg)) (n : Nat)
end
end Go.Proofs.YtlkcpmbpfcfeaaaDoor.V

/- Sheets told by their numbers alone: canonical cells, loads, stores. -/
namespace Go.Proofs.YtlkcpmbpfcfeaaaDoor.V

def shC (S : Sh) : Nat → SV := fun j =>
  if j < 2 then (if j < 1 then .int .i8 S.wide else .int .i8 S.high)
  else if j < 258 then (if j < 66 then .int .i16 (S.wet (((j - 2) / 8 : Nat) : Int) (((j - 2) % 8 : Nat) : Int)) else .int .i16 (S.dye (((j - 66) / 24 : Nat) : Int) (((j - 66) % 24 / 3 : Nat) : Int) (((j - 66) % 3 : Nat) : Int)))
  else .int .u8 (S.wax ((j - 258 : Nat) : Int))
def shS (S : Sh) : Seg := ⟨266, shC S, true, none⟩
@[go_sem] theorem shS_eq (S : Sh) : shS S = ⟨266, shC S, true, none⟩ := rfl
theorem shC_flat (S : Sh) (j : Nat) : (shC S j).flat := by unfold shC; (repeat' split) <;> trivial
@[go_sem] theorem shC_ones (S : Sh) : ones (.agg 266 (shC S)) = True := eq_true fun j hj => (shC_flat S j).one
@[go_sem] theorem shC_ones' (S : Sh) : ones (.agg 266 fun j => shC S j) = True := shC_ones S
@[go_sem] theorem shC_0 (S : Sh) : shC S 0 = .int .i8 S.wide := rfl
@[go_sem] theorem shC_1 (S : Sh) : shC S 1 = .int .i8 S.high := rfl
section
variable (S : Sh) (y x i v : Int)
theorem nat_of (h1 : 0 ≤ y) : ((y.toNat : Nat) : Int) = y := Int.toNat_of_nonneg h1
@[go_sem] theorem shC_wet (h1 : 0 ≤ y) (h2 : y < 8) (h3 : 0 ≤ x) (h4 : x < 8) : shC S (2 + y.toNat * 8 + x.toNat) = .int .i16 (S.wet y x) := by
  unfold shC
  rw [if_neg (by omega), if_pos (by omega), if_pos (by omega), show (2 + y.toNat * 8 + x.toNat - 2) / 8 = y.toNat by omega, show (2 + y.toNat * 8 + x.toNat - 2) % 8 = x.toNat by omega, nat_of _ h1, nat_of _ h3]
theorem shC_dyeN (k : Nat) (h1 : 0 ≤ y) (h2 : y < 8) (h3 : 0 ≤ x) (h4 : x < 8) (h5 : k < 3) : shC S (66 + y.toNat * 24 + x.toNat * 3 + k) = .int .i16 (S.dye y x k) := by
  unfold shC
  rw [if_neg (by omega), if_pos (by omega), if_neg (by omega), show (66 + y.toNat * 24 + x.toNat * 3 + k - 66) / 24 = y.toNat by omega, show (66 + y.toNat * 24 + x.toNat * 3 + k - 66) % 24 / 3 = x.toNat by omega,
    show (66 + y.toNat * 24 + x.toNat * 3 + k - 66) % 3 = k by omega, nat_of _ h1, nat_of _ h3]
@[go_sem] theorem shC_dye0 (h1 : 0 ≤ y) (h2 : y < 8) (h3 : 0 ≤ x) (h4 : x < 8) : shC S (66 + y.toNat * 24 + x.toNat * 3) = .int .i16 (S.dye y x 0) := shC_dyeN S y x 0 h1 h2 h3 h4 (by omega)
@[go_sem] theorem shC_dye1 (h1 : 0 ≤ y) (h2 : y < 8) (h3 : 0 ≤ x) (h4 : x < 8) : shC S (66 + y.toNat * 24 + x.toNat * 3 + 1) = .int .i16 (S.dye y x 1) := shC_dyeN S y x 1 h1 h2 h3 h4 (by omega)
@[go_sem] theorem shC_dye2 (h1 : 0 ≤ y) (h2 : y < 8) (h3 : 0 ≤ x) (h4 : x < 8) : shC S (66 + y.toNat * 24 + x.toNat * 3 + 2) = .int .i16 (S.dye y x 2) := shC_dyeN S y x 2 h1 h2 h3 h4 (by omega)
@[go_sem] theorem shC_dyeI (h1 : 0 ≤ y) (h2 : y < 8) (h3 : 0 ≤ x) (h4 : x < 8) (h5 : 0 ≤ i) (h6 : i < 3) : shC S (66 + y.toNat * 24 + x.toNat * 3 + i.toNat) = .int .i16 (S.dye y x i) := by
  rw [shC_dyeN S y x i.toNat h1 h2 h3 h4 (by omega), nat_of _ h5]
@[go_sem] theorem shC_wax (h1 : 0 ≤ y) (h2 : y < 8) : shC S (258 + y.toNat) = .int .u8 (S.wax y) := by
  unfold shC
  rw [if_neg (by omega), if_neg (by omega), show 258 + y.toNat - 258 = y.toNat by omega, nat_of _ h1]

def Sh.setWax (S : Sh) (y v : Int) : Sh := { S with wax := fun y' => if y' = y then v else S.wax y' }
@[go_sem] theorem shC_setWet (h1 : 0 ≤ y) (h2 : y < 8) (h3 : 0 ≤ x) (h4 : x < 8) : upd (shC S) (2 + y.toNat * 8 + x.toNat) (.int .i16 v) = shC (S.setWet y x v) := by
  funext j
  unfold upd shC Sh.setWet
  simp only
  split
  · rename_i hj; subst hj
    rw [if_neg (by omega), if_pos (by omega), if_pos (by omega), if_pos (by omega)]
  · rename_i hj
    split
    · rfl
    · split
      · split
        · rw [if_neg (by omega)]
        · rfl
      · rfl
theorem shC_setDyeN (k : Nat) (h1 : 0 ≤ y) (h2 : y < 8) (h3 : 0 ≤ x) (h4 : x < 8) (h5 : k < 3) : upd (shC S) (66 + y.toNat * 24 + x.toNat * 3 + k) (.int .i16 v) = shC (S.setDye y x k v) := by
  funext j
  unfold upd shC Sh.setDye
  simp only
  split
  · rename_i hj; subst hj
    rw [if_neg (by omega), if_pos (by omega), if_neg (by omega), if_pos (by omega)]
  · rename_i hj
    split
    · rfl
    · split
      · split
        · rfl
        · rw [if_neg (by omega)]
      · rfl
@[go_sem] theorem shC_setDye0 (h1 : 0 ≤ y) (h2 : y < 8) (h3 : 0 ≤ x) (h4 : x < 8) : upd (shC S) (66 + y.toNat * 24 + x.toNat * 3) (.int .i16 v) = shC (S.setDye y x 0 v) := shC_setDyeN S y x v 0 h1 h2 h3 h4 (by omega)
@[go_sem] theorem shC_setDye1 (h1 : 0 ≤ y) (h2 : y < 8) (h3 : 0 ≤ x) (h4 : x < 8) : upd (shC S) (66 + y.toNat * 24 + x.toNat * 3 + 1) (.int .i16 v) = shC (S.setDye y x 1 v) := shC_setDyeN S y x v 1 h1 h2 h3 h4 (by omega)
@[go_sem] theorem shC_setDye2 (h1 : 0 ≤ y) (h2 : y < 8) (h3 : 0 ≤ x) (h4 : x < 8) : upd (shC S) (66 + y.toNat * 24 + x.toNat * 3 + 2) (.int .i16 v) = shC (S.setDye y x 2 v) := shC_setDyeN S y x v 2 h1 h2 h3 h4 (by omega)
@[go_sem] theorem shC_setDyeI (h1 : 0 ≤ y) (h2 : y < 8) (h3 : 0 ≤ x) (h4 : x < 8) (h5 : 0 ≤ i) (h6 : i < 3) : upd (shC S) (66 + y.toNat * 24 + x.toNat * 3 + i.toNat) (.int .i16 v) = shC (S.setDye y x i v) := by
  rw [shC_setDyeN S y x v i.toNat h1 h2 h3 h4 (by omega), nat_of _ h5]
@[go_sem] theorem shC_setWax (h1 : 0 ≤ y) (h2 : y < 8) : upd (shC S) (258 + y.toNat) (.int .u8 v) = shC (S.setWax y v) := by
  funext j
  unfold upd shC Sh.setWax
  simp only
  split
  · rename_i hj; subst hj
    rw [if_neg (by omega), if_neg (by omega), if_pos (by omega)]
  · rename_i hj
    split
    · rfl
    · split
      · rfl
      · rw [if_neg (by omega)]
@[go_sem] theorem shC_setWide : upd (shC S) 0 (.int .i8 v) = shC { S with wide := v } := by
  funext j; unfold upd shC; simp only; split
  · rename_i hj; subst hj; rfl
  · (repeat' split) <;> first | rfl | omega
@[go_sem] theorem shC_setHigh : upd (shC S) 1 (.int .i8 v) = shC { S with high := v } := by
  funext j; unfold upd shC; simp only; split
  · rename_i hj; subst hj; rfl
  · (repeat' split) <;> first | rfl | omega
end
section
variable {y x i : Int}
@[go_sem] theorem le_wet (h1 : 0 ≤ y) (h2 : y < 8) (h3 : 0 ≤ x) (h4 : x < 8) : (2 + y.toNat * 8 + x.toNat ≤ 265) = True := eq_true (by omega)
@[go_sem] theorem le_dye0 (h1 : 0 ≤ y) (h2 : y < 8) (h3 : 0 ≤ x) (h4 : x < 8) : (66 + y.toNat * 24 + x.toNat * 3 ≤ 265) = True := eq_true (by omega)
@[go_sem] theorem le_dye1 (h1 : 0 ≤ y) (h2 : y < 8) (h3 : 0 ≤ x) (h4 : x < 8) : (66 + y.toNat * 24 + x.toNat * 3 ≤ 264) = True := eq_true (by omega)
@[go_sem] theorem le_dye2 (h1 : 0 ≤ y) (h2 : y < 8) (h3 : 0 ≤ x) (h4 : x < 8) : (66 + y.toNat * 24 + x.toNat * 3 ≤ 263) = True := eq_true (by omega)
@[go_sem] theorem le_dyeI (h1 : 0 ≤ y) (h2 : y < 8) (h3 : 0 ≤ x) (h4 : x < 8) (h5 : 0 ≤ i) (h6 : i < 3) : (66 + y.toNat * 24 + x.toNat * 3 + i.toNat ≤ 265) = True := eq_true (by omega)
@[go_sem] theorem le_wax (h1 : 0 ≤ y) (h2 : y < 8) : (258 + y.toNat ≤ 265) = True := eq_true (by omega)
end
@[go_sem] theorem zz_sheet : zz_873988 = shC sh0 := by funext j; unfold zz_873988 shC sh0; (repeat' split) <;> rfl

theorem shF_shC {S : Sh} (hR : ShR S) : ShF (shC S) S :=
  ⟨hR, rfl, rfl, fun y x a b c d => shC_wet S y x a b c d, fun y x i a b c d e f => shC_dyeI S y x i a b c d e f, fun y a b => shC_wax S y a b⟩
theorem shAt_shC {S : Sh} (hR : ShR S) : ShAt (shS S) 0 S := ⟨by simp [shS], by simpa [shS] using shF_shC hR⟩
theorem shC_lt (S : Sh) (m : Nat) : (SV.agg 266 (shC S)).lt m := fun j hj => (shC_flat S j).below m
@[go_sem high] theorem shC_ltT (S : Sh) (m : Nat) : (SV.agg 266 (shC S)).lt m = True := eq_true (shC_lt S m)

section
variable (S : Sh) (y x i v y' x' i' : Int)
@[go_sem] theorem setDye_dye : (S.setDye y x i v).dye y' x' i' = if y' = y ∧ x' = x ∧ i' = i then v else S.dye y' x' i' := rfl
@[go_sem] theorem setDye_wet : (S.setDye y x i v).wet = S.wet := rfl
@[go_sem] theorem setDye_wax : (S.setDye y x i v).wax = S.wax := rfl
@[go_sem] theorem setDye_wide : (S.setDye y x i v).wide = S.wide := rfl
@[go_sem] theorem setDye_high : (S.setDye y x i v).high = S.high := rfl
@[go_sem] theorem setWet_wet : (S.setWet y x v).wet y' x' = if y' = y ∧ x' = x then v else S.wet y' x' := rfl
@[go_sem] theorem setWet_dye : (S.setWet y x v).dye = S.dye := rfl
@[go_sem] theorem setWet_wax : (S.setWet y x v).wax = S.wax := rfl
@[go_sem] theorem setWet_wide : (S.setWet y x v).wide = S.wide := rfl
@[go_sem] theorem setWet_high : (S.setWet y x v).high = S.high := rfl
end
theorem ShR.setWet {S : Sh} (h : ShR S) {y x v : Int} (hv : -32768 ≤ v ∧ v < 32768) : ShR (S.setWet y x v) :=
  ⟨h.wide, h.high, fun y' x' => by simp only [Sh.setWet]; split; exact hv; exact h.wet y' x', h.dye, h.wax⟩
theorem ShR.setDye {S : Sh} (h : ShR S) {y x i v : Int} (hv : -32768 ≤ v ∧ v < 32768) : ShR (S.setDye y x i v) :=
  ⟨h.wide, h.high, h.wet, fun y' x' i' => by simp only [Sh.setDye]; split; exact hv; exact h.dye y' x' i', h.wax⟩
theorem ShR.setWax {S : Sh} (h : ShR S) {y v : Int} (hv : 0 ≤ v ∧ v < 256) : ShR (S.setWax y v) :=
  ⟨h.wide, h.high, h.wet, h.dye, fun y' => by simp only [Sh.setWax]; split; exact hv; exact h.wax y'⟩
theorem ShR.sh0 : ShR sh0 := ⟨by simp [V.sh0], by simp [V.sh0], fun y x => by simp [V.sh0], fun y x i => by simp [V.sh0], fun y => by simp [V.sh0]⟩

section
variable {cx : Cx} {h : List (Nat × Seg)} {n : Nat}
variable (cx) (h) (n)
end
end Go.Proofs.YtlkcpmbpfcfeaaaDoor.V

/- Pictures as plain data, and as they lie in memory. -/
namespace Go.Proofs.YtlkcpmbpfcfeaaaDoor.V

/-- A picture: sides, what each cell shows. -/
structure Pc where
  wide : Int
  high : Int
  ink : Int → Int → Int
structure PcR (P : Pc) : Prop where
  wide : -128 ≤ P.wide ∧ P.wide < 128
  high : -128 ≤ P.high ∧ P.high < 128
  ink : ∀ y x, 0 ≤ P.ink y x ∧ P.ink y x < 256
def pcC (P : Pc) : Nat → SV := fun j =>
  if j < 2 then (if j < 1 then .int .i8 P.wide else .int .i8 P.high) else .int .u8 (P.ink (((j - 2) / 8 : Nat) : Int) (((j - 2) % 8 : Nat) : Int))
def pcS (P : Pc) : Seg := ⟨66, pcC P, true, none⟩
@[go_sem] theorem pcS_eq (P : Pc) : pcS P = ⟨66, pcC P, true, none⟩ := rfl
theorem pcC_flat (P : Pc) (j : Nat) : (pcC P j).flat := by unfold pcC; (repeat' split) <;> trivial
@[go_sem] theorem pcC_ones (P : Pc) : ones (.agg 66 (pcC P)) = True := eq_true fun j hj => (pcC_flat P j).one
@[go_sem] theorem pcC_ones' (P : Pc) : ones (.agg 66 fun j => pcC P j) = True := pcC_ones P
@[go_sem] theorem mkAgg_66 (F : Nat → SV) : mkAgg 66 F = .agg 66 F := rfl
@[go_sem] theorem pcC_0 (P : Pc) : pcC P 0 = .int .i8 P.wide := rfl
@[go_sem] theorem pcC_1 (P : Pc) : pcC P 1 = .int .i8 P.high := rfl
def Pc.setInk (P : Pc) (y x v : Int) : Pc := { P with ink := fun y' x' => if y' = y ∧ x' = x then v else P.ink y' x' }
section
variable (P : Pc) (y x v : Int)
@[go_sem] theorem pcC_ink (h1 : 0 ≤ y) (h2 : y < 8) (h3 : 0 ≤ x) (h4 : x < 8) : pcC P (2 + y.toNat * 8 + x.toNat) = .int .u8 (P.ink y x) := by
  unfold pcC
  rw [if_neg (by omega), show (2 + y.toNat * 8 + x.toNat - 2) / 8 = y.toNat by omega, show (2 + y.toNat * 8 + x.toNat - 2) % 8 = x.toNat by omega, nat_of _ h1, nat_of _ h3]
@[go_sem] theorem pcC_setInk (h1 : 0 ≤ y) (h2 : y < 8) (h3 : 0 ≤ x) (h4 : x < 8) : upd (pcC P) (2 + y.toNat * 8 + x.toNat) (.int .u8 v) = pcC (P.setInk y x v) := by
  funext j
  unfold upd pcC Pc.setInk
  simp only
  split
  · rename_i hj; subst hj
    rw [if_neg (by omega), if_pos (by omega)]
  · rename_i hj
    split
    · rfl
    · rw [if_neg (by omega)]
@[go_sem] theorem pcC_setWide : upd (pcC P) 0 (.int .i8 v) = pcC { P with wide := v } := by
  funext j; unfold upd pcC; simp only; split
  · rename_i hj; subst hj; rfl
  · (repeat' split) <;> first | rfl | omega
@[go_sem] theorem pcC_setHigh : upd (pcC P) 1 (.int .i8 v) = pcC { P with high := v } := by
  funext j; unfold upd pcC; simp only; split
  · rename_i hj; subst hj; rfl
  · (repeat' split) <;> first | rfl | omega
end
section
variable {y x : Int}
@[go_sem] theorem le_ink (h1 : 0 ≤ y) (h2 : y < 8) (h3 : 0 ≤ x) (h4 : x < 8) : (2 + y.toNat * 8 + x.toNat ≤ 65) = True := eq_true (by omega)
@[go_sem] theorem le_ink' (h1 : 0 ≤ y) (h2 : y < 8) (h3 : 0 ≤ x) (h4 : x < 8) : (2 + y.toNat * 8 + x.toNat + 1 ≤ 66) = True := eq_true (by omega)
end
def pc0 : Pc := ⟨0, 0, fun _ _ => 0⟩
/-- The zero of the type 26. -/
@[go_sem] theorem zz_pic : zz_3d8e88 = pcC pc0 := by funext j; unfold zz_3d8e88 pcC pc0; (repeat' split) <;> rfl
theorem pcC_lt (P : Pc) (m : Nat) : (SV.agg 66 (pcC P)).lt m := fun j hj => (pcC_flat P j).below m
@[go_sem high] theorem pcC_ltT (P : Pc) (m : Nat) : (SV.agg 66 (pcC P)).lt m = True := eq_true (pcC_lt P m)
/-- A picture is valid. -/
def PcOk (P : Pc) : Prop := (1 ≤ P.wide ∧ P.wide ≤ 8 ∧ 1 ≤ P.high ∧ P.high ≤ 8) ∧ ∀ y x : Int, 0 ≤ y → y < 8 → 0 ≤ x → x < 8 → P.ink y x ≤ 3 ∧ (0 < P.ink y x → x < P.wide ∧ y < P.high)
/-- The sheet with a picture's cells. -/
def psh (P : Pc) : Sh := ⟨P.wide, P.high, fun _ _ => 0, fun _ _ _ => 0, fun _ => 0⟩
theorem psh_R {P : Pc} (h : PcR P) : ShR (psh P) := ⟨h.wide, h.high, fun _ _ => by show -32768 ≤ (0 : Int) ∧ (0 : Int) < 32768; omega, fun _ _ _ => by show -32768 ≤ (0 : Int) ∧ (0 : Int) < 32768; omega, fun _ => by show 0 ≤ (0 : Int) ∧ (0 : Int) < 256; omega⟩
end Go.Proofs.YtlkcpmbpfcfeaaaDoor.V

/- A sheet that came in. -/
namespace Go.Proofs.YtlkcpmbpfcfeaaaDoor.V

end Go.Proofs.YtlkcpmbpfcfeaaaDoor.V

/- The law's comparisons of arrays that are alike: the walk. -/
namespace Go.Proofs.YtlkcpmbpfcfeaaaDoor.V
section
variable (cx : Cx) (h : List (Nat × Seg)) (n : Nat)

theorem eqByteA8_Q (F G : Nat → SV) (hF : ∀ j, j < 8 → ∃ v, F j = .int .u8 v) (hG : ∀ j, j < 8 → G j = F j) : CallQ Tryd.prog cx 29 [.agg 8 F, .agg 8 G] h n (.bool true) := by
  have hfl : Flat 8 F := fun j hj => by obtain ⟨v, hv⟩ := hF j hj; rw [hv]; trivial
  have hfG : Flat 8 G := fun j hj => by rw [hG j hj]; exact hfl j hj
  refine callQ_of_T (P := Tryd.prog) hti (nt := 17) (rs := [.tmp 4]) rfl rfl Tryd.call29 Tryd.func29 rfl _ (by simp only [go_sem, and_self]) (Nat.le_of_ble_eq_true rfl) _ (by first | exact trivial | (refine lt_flat rfl ?_; simp [SV.flat]; done) | simp only [go_sem]) fun hok => ?_
  simp only [go_sem, Nat.reduceLT]
  refine T_lp (ι := { q : Nat // q ≤ 8 })
    (fun q => ([(2, .ptr n 0), (3, .ptr (n + 1) 0), (4, .bool false), (5, .int .i64 q.1)], (n + 1, ⟨8, G, true, none⟩) :: (n, ⟨8, F, true, none⟩) :: h, n + 2)) (fun q => 8 - q.1) ⟨0, by omega⟩ ?_ ?_
  · refine Imp.id (by simp) ?_ ?_
    · simp only [go_sem, Nat.reduceLT]
      omega
    · exact impH.cons0 (hget_hit _ _ _) (by simp) (SegLe.flat (Nat.le_refl _) id (.inr rfl) fun z hz => ⟨rfl, hfG z hz⟩) (impH.cons0 ((hget_miss _ _ _ _ (by simp)).trans (hget_hit _ _ _)) (by simp) (SegLe.flat (Nat.le_refl _) id (.inr rfl) fun z hz => ⟨rfl, hfl z hz⟩)
          (impH.base0 hok (by simp) ((HExt.rfl.cons (Nat.le_refl n)).cons (by simp))))
  · rintro ⟨k, hk⟩
    simp only [go_sem, Nat.reduceLT, decide_eq_true_eq, decide_eq_false_iff_not]
    refine ⟨fun h1 => ?_, fun h1 => ?_⟩
    · have hkr : (0 : Int) ≤ k ∧ (k : Int) < 8 := ⟨by omega, h1⟩
      obtain ⟨v, hv⟩ := hF k (by omega)
      have hv' : G k = .int .u8 v := (hG k (by omega)).trans hv
      refine T_draw hti _ _ (by kernel_rfl) (by kernel_rfl) ?_
      simp only [go_sem, Nat.reduceLT, Nat.reduceLeDiff, hkr, hv, hv']
      refine ⟨by omega, by omega, ⟨k + 1, by omega⟩, by show 8 - (k + 1) < 8 - k; omega, ?_⟩
      refine Imp.id (by simp) ?_ ?_
      · simp only [go_sem, Nat.reduceLT, w64 (n := (k : Int) + 1) (by omega), Int.natCast_add, Int.natCast_one]
        omega
      · exact impH.cons0 (hget_hit _ _ _) (by simp) (SegLe.flat (Nat.le_refl _) id (.inr rfl) fun z hz => ⟨rfl, hfG z hz⟩) (impH.cons0 ((hget_miss _ _ _ _ (by simp)).trans (hget_hit _ _ _)) (by simp) (SegLe.flat (Nat.le_refl _) id (.inr rfl) fun z hz => ⟨rfl, hfl z hz⟩)
          (impH.base0 hok (by simp) ((HExt.rfl.cons (Nat.le_refl n)).cons (by simp))))
    · have hk8 : k = 8 := by omega
      subst hk8
      simp only [go_sem]

end
end Go.Proofs.YtlkcpmbpfcfeaaaDoor.V
