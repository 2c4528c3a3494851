/- Part 2 of the texts that this proof stands on: a symbolic walk over the program, what its functions and the reference's do, plain laws. -/
import Derived.Test.YtpcnhenenjblpaaZfxa
import Derived.Test.YtpcnhenenjblpaaV16
import Derived.Test.YtpcnhenenjblpaaV14
set_option linter.all false

/- The law's copy of three numbers: the walk. -/
namespace Go.Proofs.Ytpcnhenenjblpaa.V
section
variable (cx : Cx) (h : List (Nat × Seg)) (n : Nat)
end
end Go.Proofs.Ytpcnhenenjblpaa.V

/- The law's copies of arrays of three numbers: the walk. -/
namespace Go.Proofs.Ytpcnhenenjblpaa.V
section
variable (cx : Cx) (h : List (Nat × Seg)) (n : Nat)

end
end Go.Proofs.Ytpcnhenenjblpaa.V

/- The law's copy of a sheet: the walk. -/
namespace Go.Proofs.Ytpcnhenenjblpaa.V
theorem ShF.congr {F F' : Nat → SV} {S : Sh} (h : ShF F S) (he : ∀ j, j < 266 → F' j = F j) : ShF F' S :=
  ⟨h.R, (he 0 (by omega)).trans h.wide, (he 1 (by omega)).trans h.high, fun y x a b c d => (he _ (by omega)).trans (h.wet y x a b c d), fun y x i a b c d e f => (he _ (by omega)).trans (h.dye y x i a b c d e f), fun y a b => (he _ (by omega)).trans (h.wax y a b)⟩
theorem ShF.dyeS {F : Nat → SV} {S : Sh} (h : ShF F S) (j : Nat) (hj : j < 192) : F (66 + j) = .int .i16 (S.dye ((j / 24 : Nat) : Int) ((j % 24 / 3 : Nat) : Int) ((j % 3 : Nat) : Int)) := by
  have := h.dye ((j / 24 : Nat) : Int) ((j % 24 / 3 : Nat) : Int) ((j % 3 : Nat) : Int) (by omega) (by omega) (by omega) (by omega) (by omega) (by omega)
  simp only [Int.toNat_natCast] at this
  rw [show 66 + j = 66 + j / 24 * 24 + j % 24 / 3 * 3 + j % 3 by omega]; exact this
def sh0 : Sh := ⟨0, 0, fun _ _ => 0, fun _ _ _ => 0, fun _ => 0⟩
theorem ShF.zero {F : Nat → SV} (h : ∀ j, F j = zeroC j) : ShF F sh0 where
  R := ⟨by simp [sh0], by simp [sh0], fun y x => by simp [sh0], fun y x i => by simp [sh0], fun y => by simp [sh0]⟩
  wide := h 0
  high := h 1
  wet := fun y x a b c d => by rw [h]; unfold zeroC; rw [if_neg (by omega), if_pos (by omega)]; rfl
  dye := fun y x i a b c d e f => by rw [h]; unfold zeroC; rw [if_neg (by omega), if_pos (by omega)]; rfl
  wax := fun y a b => by rw [h]; unfold zeroC; rw [if_neg (by omega), if_neg (by omega)]; rfl
section
variable (cx : Cx) (h : List (Nat × Seg)) (n : Nat)
end
end Go.Proofs.Ytpcnhenenjblpaa.V

/- A sheet that came in. -/
namespace Go.Proofs.Ytpcnhenenjblpaa.V

theorem wf_u8 {n : Int} (h : (Lit.int .u8 n).wf = true) : 0 ≤ n ∧ n < 256 := by
  simp [Lit.wf, IntKind.min, IntKind.max, IntKind.signed, IntKind.bits] at h; omega

end Go.Proofs.Ytpcnhenenjblpaa.V

/- Sheets told by their numbers alone: canonical cells, loads, stores. -/
namespace Go.Proofs.Ytpcnhenenjblpaa.V

def shC (S : Sh) : Nat → SV := fun j =>
  if j < 2 then (if j < 1 then .int .i8 S.wide else .int .i8 S.high)
  else if j < 258 then (if j < 66 then .int .i16 (S.wet (((j - 2) / 8 : Nat) : Int) (((j - 2) % 8 : Nat) : Int)) else .int .i16 (S.dye (((j - 66) / 24 : Nat) : Int) (((j - 66) % 24 / 3 : Nat) : Int) (((j - 66) % 3 : Nat) : Int)))
  else .int .u8 (S.wax ((j - 258 : Nat) : Int))
def shS (S : Sh) : Seg := ⟨266, shC S, true, none⟩
@[go_sem] theorem shS_eq (S : Sh) : shS S = ⟨266, shC S, true, none⟩ := rfl
theorem shC_flat (S : Sh) (j : Nat) : (shC S j).flat := by unfold shC; (repeat' split) <;> trivial
@[go_sem] theorem shC_ones (S : Sh) : ones (.agg 266 (shC S)) = True := eq_true fun j hj => (shC_flat S j).one
@[go_sem] theorem shC_ones' (S : Sh) : ones (.agg 266 fun j => shC S j) = True := shC_ones S
@[go_sem] theorem shC_0 (S : Sh) : shC S 0 = .int .i8 S.wide := rfl
@[go_sem] theorem shC_1 (S : Sh) : shC S 1 = .int .i8 S.high := rfl
section
variable (S : Sh) (y x i v : Int)
theorem nat_of (h1 : 0 ≤ y) : ((y.toNat : Nat) : Int) = y := Int.toNat_of_nonneg h1
@[go_sem] theorem shC_wet (h1 : 0 ≤ y) (h2 : y < 8) (h3 : 0 ≤ x) (h4 : x < 8) : shC S (2 + y.toNat * 8 + x.toNat) = .int .i16 (S.wet y x) := by
  unfold shC
  rw [if_neg (by omega), if_pos (by omega), if_pos (by omega), show (2 + y.toNat * 8 + x.toNat - 2) / 8 = y.toNat by omega, show (2 + y.toNat * 8 + x.toNat - 2) % 8 = x.toNat by omega, nat_of _ h1, nat_of _ h3]
theorem shC_dyeN (k : Nat) (h1 : 0 ≤ y) (h2 : y < 8) (h3 : 0 ≤ x) (h4 : x < 8) (h5 : k < 3) : shC S (66 + y.toNat * 24 + x.toNat * 3 + k) = .int .i16 (S.dye y x k) := by
  unfold shC
  rw [if_neg (by omega), if_pos (by omega), if_neg (by omega), show (66 + y.toNat * 24 + x.toNat * 3 + k - 66) / 24 = y.toNat by omega, show (66 + y.toNat * 24 + x.toNat * 3 + k - 66) % 24 / 3 = x.toNat by omega,
    show (66 + y.toNat * 24 + x.toNat * 3 + k - 66) % 3 = k by omega, nat_of _ h1, nat_of _ h3]
@[go_sem] theorem shC_dye0 (h1 : 0 ≤ y) (h2 : y < 8) (h3 : 0 ≤ x) (h4 : x < 8) : shC S (66 + y.toNat * 24 + x.toNat * 3) = .int .i16 (S.dye y x 0) := shC_dyeN S y x 0 h1 h2 h3 h4 (by omega)
@[go_sem] theorem shC_dye1 (h1 : 0 ≤ y) (h2 : y < 8) (h3 : 0 ≤ x) (h4 : x < 8) : shC S (66 + y.toNat * 24 + x.toNat * 3 + 1) = .int .i16 (S.dye y x 1) := shC_dyeN S y x 1 h1 h2 h3 h4 (by omega)
@[go_sem] theorem shC_dye2 (h1 : 0 ≤ y) (h2 : y < 8) (h3 : 0 ≤ x) (h4 : x < 8) : shC S (66 + y.toNat * 24 + x.toNat * 3 + 2) = .int .i16 (S.dye y x 2) := shC_dyeN S y x 2 h1 h2 h3 h4 (by omega)
@[go_sem] theorem shC_dyeI (h1 : 0 ≤ y) (h2 : y < 8) (h3 : 0 ≤ x) (h4 : x < 8) (h5 : 0 ≤ i) (h6 : i < 3) : shC S (66 + y.toNat * 24 + x.toNat * 3 + i.toNat) = .int .i16 (S.dye y x i) := by
  rw [shC_dyeN S y x i.toNat h1 h2 h3 h4 (by omega), nat_of _ h5]
@[go_sem] theorem shC_wax (h1 : 0 ≤ y) (h2 : y < 8) : shC S (258 + y.toNat) = .int .u8 (S.wax y) := by
  unfold shC
  rw [if_neg (by omega), if_neg (by omega), show 258 + y.toNat - 258 = y.toNat by omega, nat_of _ h1]

def Sh.setWax (S : Sh) (y v : Int) : Sh := { S with wax := fun y' => if y' = y then v else S.wax y' }
@[go_sem] theorem shC_setWet (h1 : 0 ≤ y) (h2 : y < 8) (h3 : 0 ≤ x) (h4 : x < 8) : upd (shC S) (2 + y.toNat * 8 + x.toNat) (.int .i16 v) = shC (S.setWet y x v) := by
  funext j
  unfold upd shC Sh.setWet
  simp only
  split
  · rename_i hj; subst hj
    rw [if_neg (by omega), if_pos (by omega), if_pos (by omega), if_pos (by omega)]
  · rename_i hj
    split
    · rfl
    · split
      · split
        · rw [if_neg (by omega)]
        · rfl
      · rfl
theorem shC_setDyeN (k : Nat) (h1 : 0 ≤ y) (h2 : y < 8) (h3 : 0 ≤ x) (h4 : x < 8) (h5 : k < 3) : upd (shC S) (66 + y.toNat * 24 + x.toNat * 3 + k) (.int .i16 v) = shC (S.setDye y x k v) := by
  funext j
  unfold upd shC Sh.setDye
  simp only
  split
  · rename_i hj; subst hj
    rw [if_neg (by omega), if_pos (by omega), if_neg (by omega), if_pos (by omega)]
  · rename_i hj
    split
    · rfl
    · split
      · split
        · rfl
        · rw [if_neg (by omega)]
      · rfl
@[go_sem] theorem shC_setDye0 (h1 : 0 ≤ y) (h2 : y < 8) (h3 : 0 ≤ x) (h4 : x < 8) : upd (shC S) (66 + y.toNat * 24 + x.toNat * 3) (.int .i16 v) = shC (S.setDye y x 0 v) := shC_setDyeN S y x v 0 h1 h2 h3 h4 (by omega)
@[go_sem] theorem shC_setDye1 (h1 : 0 ≤ y) (h2 : y < 8) (h3 : 0 ≤ x) (h4 : x < 8) : upd (shC S) (66 + y.toNat * 24 + x.toNat * 3 + 1) (.int .i16 v) = shC (S.setDye y x 1 v) := shC_setDyeN S y x v 1 h1 h2 h3 h4 (by omega)
@[go_sem] theorem shC_setDye2 (h1 : 0 ≤ y) (h2 : y < 8) (h3 : 0 ≤ x) (h4 : x < 8) : upd (shC S) (66 + y.toNat * 24 + x.toNat * 3 + 2) (.int .i16 v) = shC (S.setDye y x 2 v) := shC_setDyeN S y x v 2 h1 h2 h3 h4 (by omega)
@[go_sem] theorem shC_setDyeI (h1 : 0 ≤ y) (h2 : y < 8) (h3 : 0 ≤ x) (h4 : x < 8) (h5 : 0 ≤ i) (h6 : i < 3) : upd (shC S) (66 + y.toNat * 24 + x.toNat * 3 + i.toNat) (.int .i16 v) = shC (S.setDye y x i v) := by
  rw [shC_setDyeN S y x v i.toNat h1 h2 h3 h4 (by omega), nat_of _ h5]
@[go_sem] theorem shC_setWax (h1 : 0 ≤ y) (h2 : y < 8) : upd (shC S) (258 + y.toNat) (.int .u8 v) = shC (S.setWax y v) := by
  funext j
  unfold upd shC Sh.setWax
  simp only
  split
  · rename_i hj; subst hj
    rw [if_neg (by omega), if_neg (by omega), if_pos (by omega)]
  · rename_i hj
    split
    · rfl
    · split
      · rfl
      · rw [if_neg (by omega)]
@[go_sem] theorem shC_setWide : upd (shC S) 0 (.int .i8 v) = shC { S with wide := v } := by
  funext j; unfold upd shC; simp only; split
  · rename_i hj; subst hj; rfl
  · (repeat' split) <;> first | rfl | omega
@[go_sem] theorem shC_setHigh : upd (shC S) 1 (.int .i8 v) = shC { S with high := v } := by
  funext j; unfold upd shC; simp only; split
  · rename_i hj; subst hj; rfl
  · (repeat' split) <;> first | rfl | omega
end
section
variable {y x i : Int}
@[go_sem] theorem le_wet (h1 : 0 ≤ y) (h2 : y < 8) (h3 : 0 ≤ x) (h4 : x < 8) : (2 + y.toNat * 8 + x.toNat ≤ 265) = True := eq_true (by omega)
@[go_sem] theorem le_dye0 (h1 : 0 ≤ y) (h2 : y < 8) (h3 : 0 ≤ x) (h4 : x < 8) : (66 + y.toNat * 24 + x.toNat * 3 ≤ 265) = True := eq_true (by omega)
@[go_sem] theorem le_dye1 (h1 : 0 ≤ y) (h2 : y < 8) (h3 : 0 ≤ x) (h4 : x < 8) : (66 + y.toNat * 24 + x.toNat * 3 ≤ 264) = True := eq_true (by omega)
@[go_sem] theorem le_dye2 (h1 : 0 ≤ y) (h2 : y < 8) (h3 : 0 ≤ x) (h4 : x < 8) : (66 + y.toNat * 24 + x.toNat * 3 ≤ 263) = True := eq_true (by omega)
@[go_sem] theorem le_dyeI (h1 : 0 ≤ y) (h2 : y < 8) (h3 : 0 ≤ x) (h4 : x < 8) (h5 : 0 ≤ i) (h6 : i < 3) : (66 + y.toNat * 24 + x.toNat * 3 + i.toNat ≤ 265) = True := eq_true (by omega)
@[go_sem] theorem le_wax (h1 : 0 ≤ y) (h2 : y < 8) : (258 + y.toNat ≤ 265) = True := eq_true (by omega)
end
@[go_sem] theorem zz_sheet : zz_873988 = shC sh0 := by funext j; unfold zz_873988 shC sh0; (repeat' split) <;> rfl

theorem shF_shC {S : Sh} (hR : ShR S) : ShF (shC S) S :=
  ⟨hR, rfl, rfl, fun y x a b c d => shC_wet S y x a b c d, fun y x i a b c d e f => shC_dyeI S y x i a b c d e f, fun y a b => shC_wax S y a b⟩
theorem shAt_shC {S : Sh} (hR : ShR S) : ShAt (shS S) 0 S := ⟨by simp [shS], by simpa [shS] using shF_shC hR⟩
theorem shC_lt (S : Sh) (m : Nat) : (SV.agg 266 (shC S)).lt m := fun j hj => (shC_flat S j).below m
@[go_sem high] theorem shC_ltT (S : Sh) (m : Nat) : (SV.agg 266 (shC S)).lt m = True := eq_true (shC_lt S m)

section
variable (S : Sh) (y x i v y' x' i' : Int)
@[go_sem] theorem setDye_dye : (S.setDye y x i v).dye y' x' i' = if y' = y ∧ x' = x ∧ i' = i then v else S.dye y' x' i' := rfl
@[go_sem] theorem setDye_wet : (S.setDye y x i v).wet = S.wet := rfl
@[go_sem] theorem setDye_wax : (S.setDye y x i v).wax = S.wax := rfl
@[go_sem] theorem setDye_wide : (S.setDye y x i v).wide = S.wide := rfl
@[go_sem] theorem setDye_high : (S.setDye y x i v).high = S.high := rfl
@[go_sem] theorem setWet_wet : (S.setWet y x v).wet y' x' = if y' = y ∧ x' = x then v else S.wet y' x' := rfl
@[go_sem] theorem setWet_dye : (S.setWet y x v).dye = S.dye := rfl
@[go_sem] theorem setWet_wax : (S.setWet y x v).wax = S.wax := rfl
@[go_sem] theorem setWet_wide : (S.setWet y x v).wide = S.wide := rfl
@[go_sem] theorem setWet_high : (S.setWet y x v).high = S.high := rfl
end
theorem ShR.setWet {S : Sh} (h : ShR S) {y x v : Int} (hv : -32768 ≤ v ∧ v < 32768) : ShR (S.setWet y x v) :=
  ⟨h.wide, h.high, fun y' x' => by simp only [Sh.setWet]; split; exact hv; exact h.wet y' x', h.dye, h.wax⟩
theorem ShR.setDye {S : Sh} (h : ShR S) {y x i v : Int} (hv : -32768 ≤ v ∧ v < 32768) : ShR (S.setDye y x i v) :=
  ⟨h.wide, h.high, h.wet, fun y' x' i' => by simp only [Sh.setDye]; split; exact hv; exact h.dye y' x' i', h.wax⟩
theorem ShR.setWax {S : Sh} (h : ShR S) {y v : Int} (hv : 0 ≤ v ∧ v < 256) : ShR (S.setWax y v) :=
  ⟨h.wide, h.high, h.wet, h.dye, fun y' => by simp only [Sh.setWax]; split; exact hv; exact h.wax y'⟩
theorem ShR.sh0 : ShR sh0 := ⟨by simp [V.sh0], by simp [V.sh0], fun y x => by simp [V.sh0], fun y x i => by simp [V.sh0], fun y => by simp [V.sh0]⟩

section
variable {cx : Cx} {h : List (Nat × Seg)} {n : Nat}
variable (cx) (h) (n)
end
end Go.Proofs.Ytpcnhenenjblpaa.V

/- Running until a round gives nothing; sums of dyes; cells with dye. -/
namespace Go.Proofs.Ytpcnhenenjblpaa.V

/-! ### Sums of dyes -/
def dyeAt (S : Sh) (W : Nat) (i : Int) (k : Nat) : Int := S.dye ((k / W : Nat) : Int) ((k % W : Nat) : Int) i
def dyeN (S : Sh) (W : Nat) (i : Int) (j : Nat) : Int := sumN (dyeAt S W i) j
def dyeSum (S : Sh) (W H : Nat) (i : Int) : Int := dyeN S W i (H * W)
/-- Neither water nor dye is anywhere. -/
def Blank (S : Sh) (W H : Nat) : Prop := water S W H = 0 ∧ dyeSum S W H 0 = 0 ∧ dyeSum S W H 1 = 0 ∧ dyeSum S W H 2 = 0
theorem sumN_none {f : Nat → Int} : ∀ n : Nat, (∀ k, k < n → 0 ≤ f k) → sumN f n = 0 → ∀ k, k < n → f k = 0
  | 0, _, _, k, hk => absurd hk (Nat.not_lt_zero k)
  | n + 1, h, e, k, hk => by
    have h1 : 0 ≤ sumN f n := by
      have : ∀ m, m ≤ n → 0 ≤ sumN f m := by
        intro m hm
        induction m with
        | zero => exact Int.le_refl _
        | succ m ih => simp only [sumN]; have := ih (by omega); have := h m (by omega); omega
      exact this n (Nat.le_refl _)
    have h2 := h n (by omega)
    simp only [sumN] at e
    by_cases hkn : k = n
    · subst hkn; omega
    · exact sumN_none n (fun k hk => h k (by omega)) (by omega) k (by omega)
theorem at_cell {W : Nat} {x y : Int} (x0 : 0 ≤ x) (y0 : 0 ≤ y) (hx : x < W) : ((((y.toNat * W + x.toNat) / W : Nat) : Int) = y) ∧ ((((y.toNat * W + x.toNat) % W : Nat) : Int) = x) := by
  have hx' : x.toNat < W := by omega
  have hW : 0 < W := by omega
  rw [Nat.mul_comm, Nat.mul_add_mod, Nat.mod_eq_of_lt hx', Nat.mul_add_div hW, Nat.div_eq_of_lt hx', Nat.add_zero]
  omega
theorem Blank.wet {S : Sh} {W H : Nat} (hB : Blank S W H) (hG : Good S) (hW : S.wide = W) (hH : S.high = H) {x y : Int} (hh : hasB S x y = true) : S.wet y x = 0 := by
  simp only [hasB, Bool.and_eq_true, decide_eq_true_eq, hW, hH] at hh
  have hk : y.toNat * W + x.toNat < H * W := by
    have h1 : y.toNat + 1 ≤ H := by omega
    have := Nat.mul_le_mul_right W h1
    rw [Nat.succ_mul] at this
    omega
  obtain ⟨e1, e2⟩ := at_cell hh.1.1.1 hh.1.2 hh.1.1.2
  have := sumN_none (f := wetAt S W) (H * W) (fun k hk => by
    obtain ⟨a, b, c, d⟩ := cell_lt hG.small hW hH hk
    exact (hG.wet _ _ c d a b).1) hB.1 _ hk
  unfold wetAt at this
  rwa [e1, e2] at this
theorem Blank.dye {S : Sh} {W H : Nat} (hB : Blank S W H) (hG : Good S) (hW : S.wide = W) (hH : S.high = H) {x y i : Int} (hh : hasB S x y = true) (h0 : 0 ≤ i) (h3 : i < 3) : S.dye y x i = 0 := by
  simp only [hasB, Bool.and_eq_true, decide_eq_true_eq, hW, hH] at hh
  have hk : y.toNat * W + x.toNat < H * W := by
    have h1 : y.toNat + 1 ≤ H := by omega
    have := Nat.mul_le_mul_right W h1
    rw [Nat.succ_mul] at this
    omega
  obtain ⟨e1, e2⟩ := at_cell hh.1.1.1 hh.1.2 hh.1.1.2
  have hz : dyeSum S W H i = 0 := by
    rcases (by omega : i = 0 ∨ i = 1 ∨ i = 2) with rfl | rfl | rfl
    · exact hB.2.1
    · exact hB.2.2.1
    · exact hB.2.2.2
  have := sumN_none (f := dyeAt S W i) (H * W) (fun k hk => by
    obtain ⟨a, b, c, d⟩ := cell_lt hG.small hW hH hk
    exact (hG.dye _ _ _ c d a b h0 h3).1) hz _ hk
  unfold dyeAt at this
  rwa [e1, e2] at this

/-! ### Cells, in order -/
/-- How dark a cell is. -/
def darkB (S : Sh) (x y : Int) : Int := S.dye y x 0 + S.dye y x 1 + S.dye y x 2
/-- A sheet upon which a drop has fallen. -/
def Sh.drop (S : Sh) (x y ink amount water : Int) : Sh := (S.setWet y x water).setDye y x ink amount
end Go.Proofs.Ytpcnhenenjblpaa.V

/- Drops, dark cells, sums of dyes: the program's own walks. -/
namespace Go.Proofs.Ytpcnhenenjblpaa.V

section
variable (cx : Cx) (h : List (Nat × Seg)) (n : Nat)
theorem isInk_Q (ink : Int) : CallQ Try.prog cx 68 [.int .i64 ink] h n (.bool (decide (0 ≤ ink ∧ ink ≤ 2))) := by
  refine callQ_of_T (P := Try.prog) hti (nt := 5) (rs := [.tmp 2]) rfl rfl Try.call68 Try.func68 rfl _ (by simp only [go_sem, and_self]) (Nat.le_of_ble_eq_true rfl) _ (by first | exact trivial | (refine lt_flat rfl ?_; simp [SV.flat]; done) | simp only [go_sem]) fun hok => ?_
  simp only [go_sem, Nat.reduceLT]
  refine (within_Q _ _ _ _ _ _).A ?_
  simp only [go_sem, Nat.reduceLT]
theorem dark_Q (i o : Nat) (s : Seg) (S : Sh) (x y : Int) (hs : hget h i = some s) (hi : i < n) (hS : ShAt s o S) (hG : Good S) (hx : 0 ≤ x) (hx8 : x < 8) (hy : 0 ≤ y) (hy8 : y < 8) :
    CallQ Try.prog cx 49 [.ptr i o, spot x y] h n (.int .i64 (darkB S x y)) := by
  have h0 := hG.dye y x 0 hy hy8 hx hx8 (by omega) (by omega)
  have h1 := hG.dye y x 1 hy hy8 hx hx8 (by omega) (by omega)
  have h2 := hG.dye y x 2 hy hy8 hx hx8 (by omega) (by omega)
  refine callQ_of_T (P := Try.prog) hti (nt := 20) (rs := [.tmp 4]) rfl rfl Try.call49 Try.func49 rfl _ (by simp only [go_sem, and_self]) (Nat.le_of_ble_eq_true rfl) _ (by first | exact trivial | (refine lt_flat rfl ?_; simp [SV.flat]; done) | simp only [go_sem]) fun hok => ?_
  simp only [go_sem, Nat.reduceLT]
  refine (dye_Q _ _ _ i o s S x y (by simp only [go_sem, hs, hi]) (by omega) hS hx hx8 hy hy8).A ?_
  simp only [go_sem, Nat.reduceLT, Nat.reduceLeDiff, Int.reduceToNat, reduceIte, Int.reduceLE, Int.reduceLT, w64 (n := S.dye y x 0) (by omega), w64 (n := S.dye y x 1) (by omega), w64 (n := S.dye y x 2) (by omega), w64 (n := S.dye y x 0 + S.dye y x 1) (by omega), w64 (n := S.dye y x 0 + S.dye y x 1 + S.dye y x 2) (by omega)]
  rfl
end
end Go.Proofs.Ytpcnhenenjblpaa.V

/- Brushes: loads, validity, parts. -/
namespace Go.Proofs.Ytpcnhenenjblpaa.V

structure Br where
  a : Int
  b : Int
  c : Int
  w : Int
  s : Int
def brC (B : Br) : Nat → SV := cl [.int .i16 B.a, .int .i16 B.b, .int .i16 B.c, .int .i16 B.w, .int .i8 B.s]
def brS (B : Br) : Seg := ⟨5, brC B, true, none⟩
@[go_sem] theorem brC_eq (B : Br) : brC B = cl [.int .i16 B.a, .int .i16 B.b, .int .i16 B.c, .int .i16 B.w, .int .i8 B.s] := rfl
@[go_sem] theorem brS_eq (B : Br) : brS B = ⟨5, brC B, true, none⟩ := rfl
structure BrR (B : Br) : Prop where
  a : -32768 ≤ B.a ∧ B.a < 32768
  b : -32768 ≤ B.b ∧ B.b < 32768
  c : -32768 ≤ B.c ∧ B.c < 32768
  w : -32768 ≤ B.w ∧ B.w < 32768
  s : -128 ≤ B.s ∧ B.s < 128
/-- A brush as it should be. -/
def BrV (B : Br) : Prop := ((0 ≤ B.a ∧ B.a ≤ 900) ∧ (0 ≤ B.b ∧ B.b ≤ 900) ∧ (0 ≤ B.c ∧ B.c ≤ 900)) ∧ B.a + B.b + B.c ≤ 900 ∧ (0 ≤ B.w ∧ B.w ≤ 200) ∧ (1 ≤ B.s ∧ B.s ≤ 16)
instance (B : Br) : Decidable (BrV B) := by unfold BrV; exact inferInstance
theorem brC_flat (B : Br) {k : Nat} (hk : k < 5) : (brC B k).flat := by
  rcases (by omega : k = 0 ∨ k = 1 ∨ k = 2 ∨ k = 3 ∨ k = 4) with rfl | rfl | rfl | rfl | rfl <;> trivial
theorem brC_lt (B : Br) (m : Nat) : (SV.agg 5 (brC B)).lt m := fun j hj => (brC_flat B hj).below m
@[go_sem] theorem brC_ones (B : Br) : ones (.agg 5 (brC B)) = True := eq_true fun j hj => (brC_flat B hj).one
@[go_sem] theorem ones_5 (a b c d e : SV) : ones (.agg 5 (cl [a, b, c, d, e])) = (a.one ∧ b.one ∧ c.one ∧ d.one ∧ e.one) := by
  apply propext; rw [ones_agg]
  refine ⟨fun h => ⟨h 0 (by omega), h 1 (by omega), h 2 (by omega), h 3 (by omega), h 4 (by omega)⟩, fun h j hj => ?_⟩
  rcases (by omega : j = 0 ∨ j = 1 ∨ j = 2 ∨ j = 3 ∨ j = 4) with rfl | rfl | rfl | rfl | rfl
  · exact h.1
  · exact h.2.1
  · exact h.2.2.1
  · exact h.2.2.2.1
  · exact h.2.2.2.2

section
variable (cx : Cx) (h : List (Nat × Seg)) (n : Nat)
theorem load2_Q (j : Nat) (B : Br) (hs : hget h j = some (brS B)) (hj : j < n) (hR : BrR B) : CallQ Try.prog cx 67 [.ptr j 0] h n (.int .i64 (B.a + B.b + B.c)) := by
  have ha := hR.a; have hb := hR.b; have hc := hR.c
  refine callQ_of_T (P := Try.prog) hti (nt := 23) (rs := [.tmp 2]) rfl rfl Try.call67 Try.func67 rfl _ (by simp only [go_sem, and_self]) (Nat.le_of_ble_eq_true rfl) _ (by first | exact trivial | (refine lt_flat rfl ?_; simp [SV.flat]; done) | simp only [go_sem]) fun hok => ?_
  simp only [go_sem, Nat.reduceLT]
  refine T_draw hti _ _ (by kernel_rfl) (by kernel_rfl) ?_
  simp only [go_sem, Nat.reduceLT, Nat.reduceLeDiff, Int.reduceToNat, reduceCtorEq, Int.reduceLE, Int.reduceLT, hs, hj, w64 (n := B.a) (by omega), w64 (n := B.b) (by omega), w64 (n := B.c) (by omega), w64 (n := B.a + B.b) (by omega), w64 (n := B.a + B.b + B.c) (by omega)]
theorem loadOf_Q (B : Br) (hR : BrR B) : CallQ Try.prog cx 19 [.agg 5 (brC B)] h n (.int .i64 (B.a + B.b + B.c)) := by
  have ha := hR.a; have hb := hR.b; have hc := hR.c
  refine callQ_of_T (P := Try.prog) hti (nt := 17) (rs := [.tmp 2]) rfl rfl Try.call19 Try.func19 rfl _ (by simp only [go_sem, and_self]) (Nat.le_of_ble_eq_true rfl) _ (by first | exact trivial | (refine lt_flat rfl ?_; simp [SV.flat]; done) | simp only [go_sem]) fun hok => ?_
  simp only [go_sem, Nat.reduceLT, Nat.reduceLeDiff, Int.reduceToNat, reduceCtorEq, Int.reduceLE, Int.reduceLT, w64 (n := B.a) (by omega), w64 (n := B.b) (by omega), w64 (n := B.c) (by omega), w64 (n := B.a + B.b) (by omega), w64 (n := B.a + B.b + B.c) (by omega)]
theorem tdiv16 {x : Int} (h : 0 ≤ x) : 0 ≤ (x + 15).tdiv 16 ∧ (x + 15).tdiv 16 ≤ x := by
  rw [Int.tdiv_eq_ediv_of_nonneg (by omega)]; omega
theorem part2_Q (a b : Int) (h1 : 0 ≤ a * b) (h2 : a * b ≤ 8388608) : CallQ Try.prog cx 109 [.int .i64 a, .int .i64 b] h n (.int .i64 ((a * b + 15).tdiv 16)) := by
  have h3 := tdiv16 h1
  refine callQ_of_T (P := Try.prog) hti (nt := 10) (rs := [.tmp 4]) rfl rfl Try.call109 Try.func109 rfl _ (by simp only [go_sem, and_self]) (Nat.le_of_ble_eq_true rfl) _ (by first | exact trivial | (refine lt_flat rfl ?_; simp [SV.flat]; done) | simp only [go_sem]) fun hok => ?_
  simp only [go_sem, Nat.reduceLT, Int.reduceEq, w64 (n := a * b) (by omega), w64 (n := a * b + 15) (by omega), w64 (n := (a * b + 15).tdiv 16) (by omega)]
theorem ok4_Q (j : Nat) (B : Br) (hs : hget h j = some (brS B)) (hj : j < n) (hR : BrR B) : CallQ Try.prog cx 66 [.ptr j 0] h n (.bool (decide (BrV B))) := by
  have ha := hR.a; have hb := hR.b; have hc := hR.c; have hw := hR.w; have hS := hR.s
  refine callQ_of_T (P := Try.prog) hti (nt := 36) (rs := [.tmp 2]) rfl rfl Try.call66 Try.func66 rfl _ (by simp only [go_sem, and_self]) (Nat.le_of_ble_eq_true rfl) _ (by first | exact trivial | (refine lt_flat rfl ?_; simp [SV.flat]; done) | simp only [go_sem]) fun hok => ?_
  simp only [go_sem, Nat.reduceLT]
  refine T_unroll 3 ?_
  simp only [go_sem, Nat.reduceLT, Nat.reduceLeDiff, Int.reduceToNat, reduceCtorEq, Int.reduceLE, Int.reduceLT, hs, hj, w64 (n := B.a) (by omega)]
  refine (in_Q _ _ _ _ _ _).A ?_
  by_cases hA : 0 ≤ B.a ∧ B.a ≤ 900
  rotate_left
  · have hV : ¬ BrV B := fun h => hA h.1.1
    simp only [go_sem, Nat.reduceLT, hA, hV]
  simp only [go_sem, Nat.reduceLT, Int.reduceLE, Int.reduceLT, Int.reduceNeg, Int.reduceAdd, hA]
  refine U_step ?_
  simp only [go_sem, Nat.reduceLT, Nat.reduceLeDiff, Int.reduceToNat, reduceCtorEq, Int.reduceLE, Int.reduceLT, hs, hj, w64 (n := B.b) (by omega)]
  refine (in_Q _ _ _ _ _ _).A ?_
  by_cases hB : 0 ≤ B.b ∧ B.b ≤ 900
  rotate_left
  · have hV : ¬ BrV B := fun h => hB h.1.2.1
    simp only [go_sem, Nat.reduceLT, hB, hV]
  simp only [go_sem, Nat.reduceLT, Int.reduceLE, Int.reduceLT, Int.reduceNeg, Int.reduceAdd, hB]
  refine U_step ?_
  simp only [go_sem, Nat.reduceLT, Nat.reduceLeDiff, Int.reduceToNat, reduceCtorEq, Int.reduceLE, Int.reduceLT, hs, hj, w64 (n := B.c) (by omega)]
  refine (in_Q _ _ _ _ _ _).A ?_
  by_cases hC : 0 ≤ B.c ∧ B.c ≤ 900
  rotate_left
  · have hV : ¬ BrV B := fun h => hC h.1.2.2
    simp only [go_sem, Nat.reduceLT, hC, hV]
  simp only [go_sem, Nat.reduceLT, Int.reduceLE, Int.reduceLT, Int.reduceNeg, Int.reduceAdd, hC]
  refine U_step ?_
  simp only [go_sem, Nat.reduceLT, Int.reduceLT, hs, hj]
  refine (load2_Q _ _ _ j B hs hj hR).A ?_
  by_cases hD : B.a + B.b + B.c ≤ 900
  rotate_left
  · have hV : ¬ BrV B := fun h => hD h.2.1
    simp only [go_sem, Nat.reduceLT, hD, hV]
  simp only [go_sem, Nat.reduceLT, Nat.reduceLeDiff, reduceCtorEq, hs, hj, hD, w64 (n := B.w) (by omega)]
  refine (in_Q _ _ _ _ _ _).A ?_
  by_cases hE : 0 ≤ B.w ∧ B.w ≤ 200
  rotate_left
  · have hV : ¬ BrV B := fun h => hE h.2.2.1
    simp only [go_sem, Nat.reduceLT, hE, hV]
  simp only [go_sem, Nat.reduceLT, reduceCtorEq, hs, hj, hE, w64 (n := B.s) (by omega)]
  refine (in_Q _ _ _ _ _ _).A ?_
  have hV : BrV B = (1 ≤ B.s ∧ B.s ≤ 16) := propext ⟨fun h => h.2.2.2, fun h => ⟨⟨hA, hB, hC⟩, hD, hE, h⟩⟩
  simp only [go_sem, Nat.reduceLT, hV]
theorem validBrush_Q (B : Br) (hR : BrR B) : CallQ Try.prog cx 64 [.agg 5 (brC B)] h n (.bool (decide (BrV B))) := by
  have ha := hR.a; have hb := hR.b; have hc := hR.c; have hw := hR.w; have hS := hR.s
  refine callQ_of_T (P := Try.prog) hti (nt := 32) (rs := [.tmp 2]) rfl rfl Try.call64 Try.func64 rfl _ (by simp only [go_sem, and_self]) (Nat.le_of_ble_eq_true rfl) _ (by first | exact trivial | (refine lt_flat rfl ?_; simp [SV.flat]; done) | simp only [go_sem]) fun hok => ?_
  simp only [go_sem, Nat.reduceLT, Nat.reduceLeDiff, reduceCtorEq]
  refine T_unroll 3 ?_
  by_cases hA : 0 ≤ B.a ∧ B.a ≤ 900
  rotate_left
  · have hV : ¬ BrV B := fun h => hA h.1.1
    rcases (by omega : B.a < 0 ∨ ¬ B.a < 0 ∧ 900 < B.a) with h1 | ⟨h1, h2⟩
    · simp only [go_sem, Nat.reduceLT, Int.reduceToNat, Int.reduceLE, Int.reduceLT, h1, hV]
    · simp only [go_sem, Nat.reduceLT, Int.reduceToNat, Int.reduceLE, Int.reduceLT, h1, h2, hV]
  have hA1 : ¬ B.a < 0 := by omega
  have hA2 : ¬ 900 < B.a := by omega
  simp only [go_sem, Nat.reduceLT, Int.reduceToNat, Int.reduceLE, Int.reduceLT, Int.reduceNeg, Int.reduceAdd, hA1, hA2]
  refine U_step ?_
  by_cases hB : 0 ≤ B.b ∧ B.b ≤ 900
  rotate_left
  · have hV : ¬ BrV B := fun h => hB h.1.2.1
    rcases (by omega : B.b < 0 ∨ ¬ B.b < 0 ∧ 900 < B.b) with h1 | ⟨h1, h2⟩
    · simp only [go_sem, Nat.reduceLT, Int.reduceToNat, Int.reduceLE, Int.reduceLT, h1, hV]
    · simp only [go_sem, Nat.reduceLT, Int.reduceToNat, Int.reduceLE, Int.reduceLT, h1, h2, hV]
  have hB1 : ¬ B.b < 0 := by omega
  have hB2 : ¬ 900 < B.b := by omega
  simp only [go_sem, Nat.reduceLT, Int.reduceToNat, Int.reduceLE, Int.reduceLT, Int.reduceNeg, Int.reduceAdd, hB1, hB2]
  refine U_step ?_
  by_cases hC : 0 ≤ B.c ∧ B.c ≤ 900
  rotate_left
  · have hV : ¬ BrV B := fun h => hC h.1.2.2
    rcases (by omega : B.c < 0 ∨ ¬ B.c < 0 ∧ 900 < B.c) with h1 | ⟨h1, h2⟩
    · simp only [go_sem, Nat.reduceLT, Int.reduceToNat, Int.reduceLE, Int.reduceLT, h1, hV]
    · simp only [go_sem, Nat.reduceLT, Int.reduceToNat, Int.reduceLE, Int.reduceLT, h1, h2, hV]
  have hC1 : ¬ B.c < 0 := by omega
  have hC2 : ¬ 900 < B.c := by omega
  simp only [go_sem, Nat.reduceLT, Int.reduceToNat, Int.reduceLE, Int.reduceLT, Int.reduceNeg, Int.reduceAdd, hC1, hC2]
  refine U_step ?_
  simp only [go_sem, Nat.reduceLT, Int.reduceLT]
  refine (loadOf_Q _ _ _ B hR).A ?_
  by_cases hD : B.a + B.b + B.c ≤ 900
  rotate_left
  · have hV : ¬ BrV B := fun h => hD h.2.1
    simp only [go_sem, Nat.reduceLT, hD, hV]
  simp only [go_sem, Nat.reduceLT, Nat.reduceLeDiff, reduceCtorEq, hD, w64 (n := B.w) (by omega)]
  refine (within_Q _ _ _ _ _ _).A ?_
  by_cases hE : 0 ≤ B.w ∧ B.w ≤ 200
  rotate_left
  · have hV : ¬ BrV B := fun h => hE h.2.2.1
    simp only [go_sem, Nat.reduceLT, hE, hV]
  simp only [go_sem, Nat.reduceLT, reduceCtorEq, hE, w64 (n := B.s) (by omega)]
  refine (within_Q _ _ _ _ _ _).A ?_
  have hV : BrV B = (1 ≤ B.s ∧ B.s ≤ 16) := propext ⟨fun h => h.2.2.2, fun h => ⟨⟨hA, hB, hC⟩, hD, hE, h⟩⟩
  simp only [go_sem, Nat.reduceLT, hV]
theorem left_Q (B : Br) (own most has : Int) (h1 : 0 ≤ own) (h2 : own ≤ 1000) (hs : 1 ≤ B.s) (hs2 : B.s ≤ 16) (h3 : 0 ≤ has) (h4 : has ≤ most) (h5 : most ≤ 1000) :
    CallQ Try.prog cx 97 [.agg 5 (brC B), .int .i16 own, .int .i16 most, .int .i16 has] h n (.int .i16 (min ((own * B.s + 15).tdiv 16) (most - has))) := by
  have hm : 0 ≤ own * B.s ∧ own * B.s ≤ 16000 := ⟨Int.mul_nonneg h1 (by omega), Int.le_trans (Int.mul_le_mul h2 hs2 (by omega) (by omega)) (by omega)⟩
  have ht := tdiv16 hm.1
  refine callQ_of_T (P := Try.prog) hti (nt := 25) (rs := [.tmp 8]) rfl rfl Try.call97 Try.func97 rfl _ (by simp only [go_sem, and_self]) (Nat.le_of_ble_eq_true rfl) _ (by first | exact trivial | (refine lt_flat rfl ?_; simp [SV.flat]; done) | simp only [go_sem]) fun hok => ?_
  simp only [go_sem, Nat.reduceLT, reduceCtorEq, Int.reduceEq, w64 (n := B.s) (by omega), w64 (n := own) (by omega), w64 (n := own * B.s) (by omega), w64 (n := own * B.s + 15) (by omega), w64 (n := (own * B.s + 15).tdiv 16) (by omega), w16 (n := most - has) (by omega), w64 (n := most - has) (by omega), w16 (n := min ((own * B.s + 15).tdiv 16) (most - has)) (by omega)]
end
end Go.Proofs.Ytpcnhenenjblpaa.V

/- A brush leaves ink, and touches a cell. -/
namespace Go.Proofs.Ytpcnhenenjblpaa.V

/-- What a brush leaves of one thing. -/
def lvOf (s own most has : Int) : Int := min ((own * s + 15).tdiv 16) (most - has)
def lvA (S : Sh) (B : Br) (y x : Int) : Int := if waxB S x y then 0 else lvOf B.s B.a 1000 (S.dye y x 0)
def lvB (S : Sh) (B : Br) (y x : Int) : Int := if waxB S x y then 0 else lvOf B.s B.b 1000 (S.dye y x 1)
def lvC (S : Sh) (B : Br) (y x : Int) : Int := if waxB S x y then 0 else lvOf B.s B.c 1000 (S.dye y x 2)
def lvW (S : Sh) (B : Br) (y x : Int) : Int := if waxB S x y then 0 else lvOf B.s B.w 200 (S.wet y x)
theorem lvOf_in {s own most has : Int} (hs : 1 ≤ s) (hs2 : s ≤ 16) (h1 : 0 ≤ own) (h3 : 0 ≤ has) (h4 : has ≤ most) : 0 ≤ lvOf s own most has ∧ lvOf s own most has ≤ own ∧ lvOf s own most has + has ≤ most := by
  have hm : 0 ≤ own * s := Int.mul_nonneg h1 (by omega)
  have hm2 : own * s ≤ own * 16 := Int.mul_le_mul_of_nonneg_left hs2 h1
  have h : (own * s + 15).tdiv 16 ≤ own ∧ 0 ≤ (own * s + 15).tdiv 16 := by rw [Int.tdiv_eq_ediv_of_nonneg (by omega)]; omega
  unfold lvOf
  omega
section
variable {S : Sh} {B : Br} {y x : Int} (hG : Good S) (hB : BrV B) (hx : 0 ≤ x) (hx8 : x < 8) (hy : 0 ≤ y) (hy8 : y < 8)
include hG hB hx hx8 hy hy8
theorem lvA_in : 0 ≤ lvA S B y x ∧ lvA S B y x ≤ B.a ∧ lvA S B y x + S.dye y x 0 ≤ 1000 := by
  have h1 := hG.dye y x 0 hy hy8 hx hx8 (by omega) (by omega)
  unfold lvA; split
  · exact ⟨by omega, hB.1.1.1, by omega⟩
  · exact lvOf_in hB.2.2.2.1 hB.2.2.2.2 hB.1.1.1 h1.1 h1.2
theorem lvB_in : 0 ≤ lvB S B y x ∧ lvB S B y x ≤ B.b ∧ lvB S B y x + S.dye y x 1 ≤ 1000 := by
  have h1 := hG.dye y x 1 hy hy8 hx hx8 (by omega) (by omega)
  unfold lvB; split
  · exact ⟨by omega, hB.1.2.1.1, by omega⟩
  · exact lvOf_in hB.2.2.2.1 hB.2.2.2.2 hB.1.2.1.1 h1.1 h1.2
theorem lvC_in : 0 ≤ lvC S B y x ∧ lvC S B y x ≤ B.c ∧ lvC S B y x + S.dye y x 2 ≤ 1000 := by
  have h1 := hG.dye y x 2 hy hy8 hx hx8 (by omega) (by omega)
  unfold lvC; split
  · exact ⟨by omega, hB.1.2.2.1, by omega⟩
  · exact lvOf_in hB.2.2.2.1 hB.2.2.2.2 hB.1.2.2.1 h1.1 h1.2
theorem lvW_in : 0 ≤ lvW S B y x ∧ lvW S B y x ≤ B.w ∧ lvW S B y x + S.wet y x ≤ 200 := by
  have h1 := hG.wet y x hy hy8 hx hx8
  unfold lvW; split
  · exact ⟨by omega, hB.2.2.1.1, by omega⟩
  · exact lvOf_in hB.2.2.2.1 hB.2.2.2.2 hB.2.2.1.1 h1.1 h1.2
end
def touchB (S : Sh) (B : Br) (y x : Int) : Br := ⟨B.a - lvA S B y x, B.b - lvB S B y x, B.c - lvC S B y x, B.w - lvW S B y x, B.s⟩
def touchS (S : Sh) (B : Br) (y x : Int) : Sh :=
  (((S.setDye y x 0 (S.dye y x 0 + lvA S B y x)).setDye y x 1 (S.dye y x 1 + lvB S B y x)).setDye y x 2 (S.dye y x 2 + lvC S B y x)).setWet y x (S.wet y x + lvW S B y x)

section
variable (cx : Cx) (h : List (Nat × Seg)) (n : Nat)
variable (i : Nat) (S : Sh) (B : Br) (x y : Int) (hs : hget h i = some (shS S)) (hi : i < n) (hR : ShR S) (hG : Good S) (hB : BrV B) (hx : 0 ≤ x) (hx8 : x < 8) (hy : 0 ≤ y) (hy8 : y < 8)
theorem BrV.R {B : Br} (h : BrV B) : BrR B := by
  obtain ⟨⟨h1, h2, h3⟩, h4, h5, h6⟩ := h
  exact ⟨by omega, by omega, by omega, by omega, by omega⟩
include hs hi hR hG hB hx hx8 hy hy8 in
theorem leave_Q : CallQ Try.prog cx 55 [.ptr i 0, .agg 5 (brC B), spot x y] h n (.tup 2 (cl [.agg 3 (cl [.int .i16 (lvA S B y x), .int .i16 (lvB S B y x), .int .i16 (lvC S B y x)]), .int .i16 (lvW S B y x)])) := by
  have hA := shAt_shC hR
  have d0 := hG.dye y x 0 hy hy8 hx hx8 (by omega) (by omega)
  have d1 := hG.dye y x 1 hy hy8 hx hx8 (by omega) (by omega)
  have d2 := hG.dye y x 2 hy hy8 hx hx8 (by omega) (by omega)
  have hw := hG.wet y x hy hy8 hx hx8
  obtain ⟨⟨b1, b2, b3⟩, b4, b5, b6⟩ := id hB
  refine callQ_of_T (P := Try.prog) hti (nt := 48) (rs := [.cell 6 28, .tmp 7]) rfl rfl Try.call55 Try.func55 rfl _ (by simp only [go_sem, and_self]) (Nat.le_of_ble_eq_true rfl) _ (by first | exact trivial | (refine lt_flat rfl ?_; simp [SV.flat]; done) | simp only [go_sem]) fun hok => ?_
  simp only [go_sem, Nat.reduceLT, reduceIte]
  refine (waxed_Q _ _ _ i 0 _ S x y (by simp only [go_sem, hs, hi]) (by omega) hA hx hy hy8).A ?_
  by_cases hwx : waxB S x y = true
  · simp only [go_sem, Nat.reduceLT, reduceIte, hwx, lvA, lvB, lvC, lvW]
  · simp only [go_sem, Nat.reduceLT, hwx]
    refine (dye_Q _ _ _ i 0 _ S x y (by simp only [go_sem, hs, hi]) (by omega) hA hx hx8 hy hy8).A ?_
    simp only [go_sem, Nat.reduceLT]
    refine T_unroll 3 ?_
    simp only [go_sem, Nat.reduceLT, Int.reduceToNat, Int.reduceLE, Int.reduceLT]
    refine T_drawT hti 9 _ _ (by kernel_rfl) (by kernel_rfl) ?_
    simp only [go_sem, Nat.reduceLT, Nat.reduceLeDiff, Int.reduceToNat, reduceCtorEq, Int.reduceLE, Int.reduceLT]
    refine (left_Q _ _ _ B B.a 1000 (S.dye y x 0) (by omega) (by omega) (by omega) (by omega) (by omega) (by omega) (by omega)).A ?_
    simp only [go_sem, Nat.reduceLT, Nat.reduceLeDiff, Nat.reduceEqDiff, Int.reduceToNat, reduceIte, Int.reduceLE, Int.reduceLT, Int.reduceNeg, Int.reduceAdd]
    refine U_step ?_
    simp only [go_sem, Nat.reduceLT, Int.reduceToNat, Int.reduceLE, Int.reduceLT]
    refine T_drawT hti 9 _ _ (by kernel_rfl) (by kernel_rfl) ?_
    simp only [go_sem, Nat.reduceLT, Nat.reduceLeDiff, Int.reduceToNat, reduceCtorEq, Int.reduceLE, Int.reduceLT]
    refine (left_Q _ _ _ B B.b 1000 (S.dye y x 1) (by omega) (by omega) (by omega) (by omega) (by omega) (by omega) (by omega)).A ?_
    simp only [go_sem, Nat.reduceLT, Nat.reduceLeDiff, Nat.reduceEqDiff, Int.reduceToNat, reduceIte, reduceCtorEq, Int.reduceLE, Int.reduceLT, Int.reduceNeg, Int.reduceAdd]
    refine U_step ?_
    simp only [go_sem, Nat.reduceLT, Int.reduceToNat, Int.reduceLE, Int.reduceLT]
    refine T_drawT hti 9 _ _ (by kernel_rfl) (by kernel_rfl) ?_
    simp only [go_sem, Nat.reduceLT, Nat.reduceLeDiff, Int.reduceToNat, reduceCtorEq, Int.reduceLE, Int.reduceLT]
    refine (left_Q _ _ _ B B.c 1000 (S.dye y x 2) (by omega) (by omega) (by omega) (by omega) (by omega) (by omega) (by omega)).A ?_
    simp only [go_sem, Nat.reduceLT, Nat.reduceEqDiff, Int.reduceToNat, reduceIte, reduceCtorEq, Int.reduceLE, Int.reduceLT, Int.reduceNeg, Int.reduceAdd]
    refine U_step ?_
    simp only [go_sem, Nat.reduceLT, Int.reduceLT]
    refine T_drawT hti 15 _ _ (by kernel_rfl) (by kernel_rfl) ?_
    simp only [go_sem, Nat.reduceLT, Nat.reduceLeDiff, reduceCtorEq, hs, hi, hx, hx8, hy, hy8]
    refine (left_Q _ _ _ B B.w 200 (S.wet y x) (by omega) (by omega) (by omega) (by omega) (by omega) (by omega) (by omega)).A ?_
    simp only [go_sem, Nat.reduceLT, reduceIte, hwx, lvA, lvB, lvC, lvW, lvOf]
variable (j : Nat) (ht : hget h j = some (brS B)) (hj : j < n) (hij : (i == j) = false)
theorem touchB_V {S : Sh} {B : Br} {x y : Int} (hG : Good S) (hB : BrV B) (hx : 0 ≤ x) (hx8 : x < 8) (hy : 0 ≤ y) (hy8 : y < 8) : BrV (touchB S B y x) := by
  have l0 := lvA_in hG hB hx hx8 hy hy8
  have l1 := lvB_in hG hB hx hx8 hy hy8
  have l2 := lvC_in hG hB hx hx8 hy hy8
  have l3 := lvW_in hG hB hx hx8 hy hy8
  obtain ⟨⟨b1, b2, b3⟩, b4, b5, b6⟩ := id hB
  unfold touchB BrV
  simp only
  omega
theorem touchS_good {S : Sh} {B : Br} {x y : Int} (hG : Good S) (hB : BrV B) (hx : 0 ≤ x) (hx8 : x < 8) (hy : 0 ≤ y) (hy8 : y < 8) : Good (touchS S B y x) := by
  have l0 := lvA_in hG hB hx hx8 hy hy8
  have l1 := lvB_in hG hB hx hx8 hy hy8
  have l2 := lvC_in hG hB hx hx8 hy hy8
  have l3 := lvW_in hG hB hx hx8 hy hy8
  refine ⟨hG.small, fun y' x' a b c d => ?_, fun y' x' i' a b c d e f => ?_⟩
  · have g := hG.wet y' x' a b c d
    have g1 := hG.wet y x hy hy8 hx hx8
    simp only [touchS, setWet_wet, setDye_wet]
    split <;> omega
  · have g := hG.dye y' x' i' a b c d e f
    have g0 := hG.dye y x 0 hy hy8 hx hx8 (by omega) (by omega)
    have g1 := hG.dye y x 1 hy hy8 hx hx8 (by omega) (by omega)
    have g2 := hG.dye y x 2 hy hy8 hx hx8 (by omega) (by omega)
    simp only [touchS, setWet_dye, setDye_dye]
    (repeat' split) <;> omega
theorem touchS_R {S : Sh} {B : Br} {x y : Int} (hR : ShR S) (hG : Good S) (hB : BrV B) (hx : 0 ≤ x) (hx8 : x < 8) (hy : 0 ≤ y) (hy8 : y < 8) : ShR (touchS S B y x) := by
  have l0 := lvA_in hG hB hx hx8 hy hy8
  have l1 := lvB_in hG hB hx hx8 hy hy8
  have l2 := lvC_in hG hB hx hx8 hy hy8
  have l3 := lvW_in hG hB hx hx8 hy hy8
  have g0 := hG.dye y x 0 hy hy8 hx hx8 (by omega) (by omega)
  have g1 := hG.dye y x 1 hy hy8 hx hx8 (by omega) (by omega)
  have g2 := hG.dye y x 2 hy hy8 hx hx8 (by omega) (by omega)
  have g3 := hG.wet y x hy hy8 hx hx8
  exact (((hR.setDye (by omega)).setDye (by omega)).setDye (by omega)).setWet (by omega)
theorem hok_brS {m : Nat} {h0 : List (Nat × Seg)} {j : Nat} {B : Br} (hok : HOk m h0) : HOk m (hset h0 j (brS B)) := hok_set hok fun k hk => brC_flat B hk
theorem hok_shS {m : Nat} {h0 : List (Nat × Seg)} {j : Nat} {S : Sh} (hok : HOk m h0) : HOk m (hset h0 j (shS S)) := hok_set hok fun k hk => shC_flat S k
include hs hi hR hG hB hx hx8 hy hy8 ht hj hij in
theorem touch_E (K : HK) (hK : K (.tup 0 (cl [])) (hset (hset h j (brS (touchB S B y x))) i (shS (touchS S B y x))) n) :
    CallE Try.prog cx 56 [.ptr i 0, .ptr j 0, spot x y] h n K := by
  have l0 := lvA_in hG hB hx hx8 hy hy8
  have l1 := lvB_in hG hB hx hx8 hy hy8
  have l2 := lvC_in hG hB hx hx8 hy hy8
  have l3 := lvW_in hG hB hx hx8 hy hy8
  have g0 := hG.dye y x 0 hy hy8 hx hx8 (by omega) (by omega)
  have g1 := hG.dye y x 1 hy hy8 hx hx8 (by omega) (by omega)
  have g2 := hG.dye y x 2 hy hy8 hx hx8 (by omega) (by omega)
  have g3 := hG.wet y x hy hy8 hx hx8
  obtain ⟨⟨b1, b2, b3⟩, b4, b5, b6⟩ := id hB
  have hji : (j == i) = false := by simp at hij ⊢; omega
  refine CallE.to (.tup 0 (cl [])) _ (fun _ h => by omega) (fun hok => hok_shS (hok_brS hok)) hK ?_
  refine callE_of_T (P := Try.prog) hti (nt := 79) (rs := []) rfl rfl Try.call56 Try.func56 rfl _ (by simp only [go_sem, and_self]) (Nat.le_of_ble_eq_true rfl) _ fun hok => ?_
  simp only [go_sem, Nat.reduceLT]
  refine T_drawG hti 12 [10] (.b 0 0 (.b 0 1 (.b 0 2 (.b 0 3 (.b 0 4 (.b 1 5 (.b 0 6 (.b 0 7 (.b 0 8 (.b 2 9 (.b 4 10 (.b 0 11 (.f) .o) .o) .o) .o) .o) .o) .o) .o) .o) .o) .o) .o) _ _ (by kernel_rfl) (by kernel_rfl) ?_
  simp only [go_sem, Nat.reduceLT, ht, hj]
  refine CallQ.F _ (fun h' n' hn hx' => leave_Q _ h' n' i S B x y (hx' i (by omega) _ (by simp only [go_sem, hs, hi])) (by omega) hR hG hB hx hx8 hy hy8) ?_
  simp only [go_sem, Nat.reduceLT, Nat.reduceLeDiff, reduceIte]
  refine T_unroll 3 ?_
  simp only [go_sem, Nat.reduceLT, Int.reduceToNat, Int.reduceLE, Int.reduceLT]
  refine T_drawT hti 11 _ _ (by kernel_rfl) (by kernel_rfl) ?_
  simp only [go_sem, Nat.reduceLT, Nat.reduceLeDiff, Nat.reduceEqDiff, Int.reduceToNat, reduceIte, reduceCtorEq, Int.reduceLE, Int.reduceLT, ht, hj, hij, hji, w16 (n := B.a - lvA S B y x) (by omega)]
  refine T_drawT hti 19 _ _ (by kernel_rfl) (by kernel_rfl) ?_
  simp only [go_sem, Nat.reduceLT, Nat.reduceLeDiff, Nat.reduceEqDiff, Int.reduceToNat, reduceIte, reduceCtorEq, Int.reduceLE, Int.reduceLT, Int.reduceNeg, Int.reduceAdd, hs, hi, hij, hji, hx, hx8, hy, hy8, w16 (n := S.dye y x 0 + lvA S B y x) (by omega)]
  refine U_step ?_
  simp only [go_sem, Nat.reduceLT, Int.reduceToNat, Int.reduceLE, Int.reduceLT]
  refine T_drawT hti 11 _ _ (by kernel_rfl) (by kernel_rfl) ?_
  simp only [go_sem, Nat.reduceLT, Nat.reduceLeDiff, Nat.reduceEqDiff, Int.reduceToNat, reduceIte, reduceCtorEq, Int.reduceLE, Int.reduceLT, ht, hj, hij, hji, w16 (n := B.b - lvB S B y x) (by omega)]
  refine T_drawT hti 19 _ _ (by kernel_rfl) (by kernel_rfl) ?_
  simp only [go_sem, Nat.reduceLT, Nat.reduceLeDiff, Nat.reduceEqDiff, Int.reduceToNat, reduceIte, reduceCtorEq, Int.reduceLE, Int.reduceLT, Int.reduceEq, Int.reduceNeg, Int.reduceAdd, hs, hi, hij, hji, hx, hx8, hy, hy8, w16 (n := S.dye y x 1 + lvB S B y x) (by omega)]
  refine U_step ?_
  simp only [go_sem, Nat.reduceLT, Int.reduceToNat, Int.reduceLE, Int.reduceLT]
  refine T_drawT hti 11 _ _ (by kernel_rfl) (by kernel_rfl) ?_
  simp only [go_sem, Nat.reduceLT, Nat.reduceLeDiff, Nat.reduceEqDiff, Int.reduceToNat, reduceIte, reduceCtorEq, Int.reduceLE, Int.reduceLT, ht, hj, hij, hji, w16 (n := B.c - lvC S B y x) (by omega)]
  refine T_drawT hti 19 _ _ (by kernel_rfl) (by kernel_rfl) ?_
  simp only [go_sem, Nat.reduceLT, Nat.reduceLeDiff, Nat.reduceEqDiff, Int.reduceToNat, reduceIte, reduceCtorEq, Int.reduceLE, Int.reduceLT, Int.reduceEq, Int.reduceNeg, Int.reduceAdd, hs, hi, hij, hji, hx, hx8, hy, hy8, w16 (n := S.dye y x 2 + lvC S B y x) (by omega)]
  refine U_step ?_
  simp only [go_sem, Nat.reduceLT, Nat.reduceLeDiff, Nat.reduceEqDiff, reduceIte, reduceCtorEq, Int.reduceLT, ht, hj, hs, hi, hij, hji, w16 (n := B.w - lvW S B y x) (by omega)]
  refine T_drawT hti 16 _ _ (by kernel_rfl) (by kernel_rfl) ?_
  simp only [go_sem, Nat.reduceLT, Nat.reduceLeDiff, Nat.reduceEqDiff, reduceIte, reduceCtorEq, hs, hi, hij, hji, hx, hx8, hy, hy8, w16 (n := S.wet y x + lvW S B y x) (by omega)]
  exact HExt.rfl
end
end Go.Proofs.Ytpcnhenenjblpaa.V

/- A brush leaves ink, and touches a cell: the reference's code. -/
namespace Go.Proofs.Ytpcnhenenjblpaa.V
section
variable (cx : Cx) (h : List (Nat × Seg)) (n : Nat)
variable (i j : Nat) (S : Sh) (B : Br) (x y : Int) (hs : hget h i = some (shS S)) (hi : i < n) (ht : hget h j = some (brS B)) (hj : j < n) (hR : ShR S) (hG : Good S) (hB : BrV B) (hx : 0 ≤ x) (hx8 : x < 8) (hy : 0 ≤ y) (hy8 : y < 8)
include hs hi ht hj hR hG hB hx hx8 hy hy8 in
theorem leave2_Q : CallQ Try.prog cx 98 [.ptr i 0, .ptr j 0, spot x y] h n (.tup 2 (cl [.agg 3 (cl [.int .i64 (lvA S B y x), .int .i64 (lvB S B y x), .int .i64 (lvC S B y x)]), .int .i64 (lvW S B y x)])) := by
  have hA := shAt_shC hR
  have d0 := hG.dye y x 0 hy hy8 hx hx8 (by omega) (by omega)
  have d1 := hG.dye y x 1 hy hy8 hx hx8 (by omega) (by omega)
  have d2 := hG.dye y x 2 hy hy8 hx hx8 (by omega) (by omega)
  have hw := hG.wet y x hy hy8 hx hx8
  obtain ⟨⟨b1, b2, b3⟩, b4, b5, b6⟩ := id hB
  have mul : ∀ {o : Int}, 0 ≤ o → o ≤ 900 → 0 ≤ o * B.s ∧ o * B.s ≤ 8388608 := fun h1 h2 => ⟨Int.mul_nonneg h1 (by omega), Int.le_trans (Int.mul_le_mul h2 b6.2 (by omega) (by omega)) (by omega)⟩
  refine callQ_of_T (P := Try.prog) hti (nt := 74) (rs := [.cell 6 57, .tmp 7]) rfl rfl Try.call98 Try.func98 rfl _ (by simp only [go_sem, and_self]) (Nat.le_of_ble_eq_true rfl) _ (by first | exact trivial | (refine lt_flat rfl ?_; simp [SV.flat]; done) | simp only [go_sem]) fun hok => ?_
  simp only [go_sem, Nat.reduceLT, reduceIte]
  refine (waxed2_Q _ _ _ i 0 _ S x y (by simp only [go_sem, hs, hi]) (by omega) hA hx (by omega) hy hy8).A ?_
  by_cases hwx : waxB S x y = true
  · simp only [go_sem, Nat.reduceLT, reduceIte, hwx, lvA, lvB, lvC, lvW]
  · simp only [go_sem, Nat.reduceLT, hwx]
    refine T_unroll 3 ?_
    simp only [go_sem, Nat.reduceLT, Int.reduceLT]
    refine T_drawT hti 30 _ _ (by kernel_rfl) (by kernel_rfl) ?_
    simp only [go_sem, Nat.reduceLT, Nat.reduceLeDiff, Int.reduceToNat, reduceCtorEq, Int.reduceLE, Int.reduceLT, ht, hj, w64 (n := B.a) (by omega), w64 (n := B.s) (by omega)]
    refine (part2_Q _ _ _ B.a B.s (mul (by omega) (by omega)).1 (mul (by omega) (by omega)).2).A ?_
    simp only [go_sem, Nat.reduceLT, Nat.reduceLeDiff, Int.reduceToNat, reduceCtorEq, Int.reduceLE, Int.reduceLT, hs, hi, hx, hx8, hy, hy8, w64 (n := S.dye y x 0) (by omega), w64 (n := 1000 - S.dye y x 0) (by omega)]
    refine (min_Q _ _ _ _ _).A ?_
    simp only [go_sem, Nat.reduceLT, Nat.reduceLeDiff, Nat.reduceEqDiff, Int.reduceToNat, reduceIte, Int.reduceLE, Int.reduceLT, Int.reduceNeg, Int.reduceAdd]
    refine U_step ?_
    simp only [go_sem, Nat.reduceLT, Int.reduceLT]
    refine T_drawT hti 30 _ _ (by kernel_rfl) (by kernel_rfl) ?_
    simp only [go_sem, Nat.reduceLT, Nat.reduceLeDiff, Int.reduceToNat, reduceCtorEq, Int.reduceLE, Int.reduceLT, ht, hj, w64 (n := B.b) (by omega), w64 (n := B.s) (by omega)]
    refine (part2_Q _ _ _ B.b B.s (mul (by omega) (by omega)).1 (mul (by omega) (by omega)).2).A ?_
    simp only [go_sem, Nat.reduceLT, Nat.reduceLeDiff, Int.reduceToNat, reduceCtorEq, Int.reduceLE, Int.reduceLT, hs, hi, hx, hx8, hy, hy8, w64 (n := S.dye y x 1) (by omega), w64 (n := 1000 - S.dye y x 1) (by omega)]
    refine (min_Q _ _ _ _ _).A ?_
    simp only [go_sem, Nat.reduceLT, Nat.reduceLeDiff, Nat.reduceEqDiff, Int.reduceToNat, reduceIte, reduceCtorEq, Int.reduceLE, Int.reduceLT, Int.reduceNeg, Int.reduceAdd]
    refine U_step ?_
    simp only [go_sem, Nat.reduceLT, Int.reduceLT]
    refine T_drawT hti 30 _ _ (by kernel_rfl) (by kernel_rfl) ?_
    simp only [go_sem, Nat.reduceLT, Nat.reduceLeDiff, Int.reduceToNat, reduceCtorEq, Int.reduceLE, Int.reduceLT, ht, hj, w64 (n := B.c) (by omega), w64 (n := B.s) (by omega)]
    refine (part2_Q _ _ _ B.c B.s (mul (by omega) (by omega)).1 (mul (by omega) (by omega)).2).A ?_
    simp only [go_sem, Nat.reduceLT, Nat.reduceLeDiff, Int.reduceToNat, reduceCtorEq, Int.reduceLE, Int.reduceLT, hs, hi, hx, hx8, hy, hy8, w64 (n := S.dye y x 2) (by omega), w64 (n := 1000 - S.dye y x 2) (by omega)]
    refine (min_Q _ _ _ _ _).A ?_
    simp only [go_sem, Nat.reduceLT, Nat.reduceEqDiff, Int.reduceToNat, reduceIte, reduceCtorEq, Int.reduceLE, Int.reduceLT, Int.reduceNeg, Int.reduceAdd]
    refine U_step ?_
    simp only [go_sem, Nat.reduceLT, Int.reduceLT]
    refine T_drawT hti 25 _ _ (by kernel_rfl) (by kernel_rfl) ?_
    simp only [go_sem, Nat.reduceLT, Nat.reduceLeDiff, reduceCtorEq, ht, hj, w64 (n := B.w) (by omega), w64 (n := B.s) (by omega)]
    refine (part2_Q _ _ _ B.w B.s (mul (by omega) (by omega)).1 (mul (by omega) (by omega)).2).A ?_
    simp only [go_sem, Nat.reduceLT, Nat.reduceLeDiff, reduceCtorEq, hs, hi, hx, hx8, hy, hy8, w64 (n := S.wet y x) (by omega), w64 (n := 200 - S.wet y x) (by omega)]
    refine (min_Q _ _ _ _ _).A ?_
    simp only [go_sem, Nat.reduceLT, reduceIte, hwx, lvA, lvB, lvC, lvW, lvOf]
variable (hij : (i == j) = false)
include hs hi hR hG hB hx hx8 hy hy8 ht hj hij in
theorem touch2_E (K : HK) (hK : K (.tup 0 (cl [])) (hset (hset h j (brS (touchB S B y x))) i (shS (touchS S B y x))) n) :
    CallE Try.prog cx 59 [.ptr i 0, .ptr j 0, spot x y] h n K := by
  have l0 := lvA_in hG hB hx hx8 hy hy8
  have l1 := lvB_in hG hB hx hx8 hy hy8
  have l2 := lvC_in hG hB hx hx8 hy hy8
  have l3 := lvW_in hG hB hx hx8 hy hy8
  have g0 := hG.dye y x 0 hy hy8 hx hx8 (by omega) (by omega)
  have g1 := hG.dye y x 1 hy hy8 hx hx8 (by omega) (by omega)
  have g2 := hG.dye y x 2 hy hy8 hx hx8 (by omega) (by omega)
  have g3 := hG.wet y x hy hy8 hx hx8
  obtain ⟨⟨b1, b2, b3⟩, b4, b5, b6⟩ := id hB
  have hji : (j == i) = false := by simp at hij ⊢; omega
  refine CallE.to (.tup 0 (cl [])) _ (fun _ h => by omega) (fun hok => hok_shS (hok_brS hok)) hK ?_
  refine callE_of_T (P := Try.prog) hti (nt := 82) (rs := []) rfl rfl Try.call59 Try.func59 rfl _ (by simp only [go_sem, and_self]) (Nat.le_of_ble_eq_true rfl) _ fun hok => ?_
  simp only [go_sem, Nat.reduceLT]
  refine (leave2_Q _ _ _ i j S B x y (by simp only [go_sem, hs, hi]) (by omega) (by simp only [go_sem, ht, hj]) (by omega) hR hG hB hx hx8 hy hy8).A ?_
  simp only [go_sem, Nat.reduceLT, reduceIte]
  refine T_unroll 3 ?_
  simp only [go_sem, Nat.reduceLT, Int.reduceLT]
  refine T_drawT hti 14 _ _ (by kernel_rfl) (by kernel_rfl) ?_
  simp only [go_sem, Nat.reduceLT, Nat.reduceLeDiff, Nat.reduceEqDiff, Int.reduceToNat, reduceIte, reduceCtorEq, Int.reduceLE, Int.reduceLT, ht, hj, hij, hji, w16 (n := lvA S B y x) (by omega), w16 (n := B.a - lvA S B y x) (by omega)]
  refine T_drawT hti 22 _ _ (by kernel_rfl) (by kernel_rfl) ?_
  simp only [go_sem, Nat.reduceLT, Nat.reduceLeDiff, Nat.reduceEqDiff, Int.reduceToNat, reduceIte, reduceCtorEq, Int.reduceLE, Int.reduceLT, Int.reduceNeg, Int.reduceAdd, hs, hi, hij, hji, hx, hx8, hy, hy8, w16 (n := lvA S B y x) (by omega), w16 (n := S.dye y x 0 + lvA S B y x) (by omega)]
  refine U_step ?_
  simp only [go_sem, Nat.reduceLT, Int.reduceLT]
  refine T_drawT hti 14 _ _ (by kernel_rfl) (by kernel_rfl) ?_
  simp only [go_sem, Nat.reduceLT, Nat.reduceLeDiff, Nat.reduceEqDiff, Int.reduceToNat, reduceIte, reduceCtorEq, Int.reduceLE, Int.reduceLT, ht, hj, hij, hji, w16 (n := lvB S B y x) (by omega), w16 (n := B.b - lvB S B y x) (by omega)]
  refine T_drawT hti 22 _ _ (by kernel_rfl) (by kernel_rfl) ?_
  simp only [go_sem, Nat.reduceLT, Nat.reduceLeDiff, Nat.reduceEqDiff, Int.reduceToNat, reduceIte, reduceCtorEq, Int.reduceLE, Int.reduceLT, Int.reduceEq, Int.reduceNeg, Int.reduceAdd, hs, hi, hij, hji, hx, hx8, hy, hy8, w16 (n := lvB S B y x) (by omega), w16 (n := S.dye y x 1 + lvB S B y x) (by omega)]
  refine U_step ?_
  simp only [go_sem, Nat.reduceLT, Int.reduceLT]
  refine T_drawT hti 14 _ _ (by kernel_rfl) (by kernel_rfl) ?_
  simp only [go_sem, Nat.reduceLT, Nat.reduceLeDiff, Nat.reduceEqDiff, Int.reduceToNat, reduceIte, reduceCtorEq, Int.reduceLE, Int.reduceLT, ht, hj, hij, hji, w16 (n := lvC S B y x) (by omega), w16 (n := B.c - lvC S B y x) (by omega)]
  refine T_drawT hti 22 _ _ (by kernel_rfl) (by kernel_rfl) ?_
  simp only [go_sem, Nat.reduceLT, Nat.reduceLeDiff, Nat.reduceEqDiff, Int.reduceToNat, reduceIte, reduceCtorEq, Int.reduceLE, Int.reduceLT, Int.reduceEq, Int.reduceNeg, Int.reduceAdd, hs, hi, hij, hji, hx, hx8, hy, hy8, w16 (n := lvC S B y x) (by omega), w16 (n := S.dye y x 2 + lvC S B y x) (by omega)]
  refine U_step ?_
  simp only [go_sem, Nat.reduceLT, Nat.reduceLeDiff, Nat.reduceEqDiff, reduceIte, reduceCtorEq, Int.reduceLT, ht, hj, hs, hi, hij, hji, w16 (n := lvW S B y x) (by omega), w16 (n := B.w - lvW S B y x) (by omega)]
  refine T_drawT hti 17 _ _ (by kernel_rfl) (by kernel_rfl) ?_
  simp only [go_sem, Nat.reduceLT, Nat.reduceLeDiff, Nat.reduceEqDiff, reduceIte, reduceCtorEq, hs, hi, hij, hji, hx, hx8, hy, hy8, w16 (n := lvW S B y x) (by omega), w16 (n := S.wet y x + lvW S B y x) (by omega)]
  exact HExt.rfl
end
end Go.Proofs.Ytpcnhenenjblpaa.V

/- Steps and paths: both codes. -/
namespace Go.Proofs.Ytpcnhenenjblpaa.V

open Classical in
noncomputable def boolOf (p : Prop) : Bool := decide p
theorem boolOf_t {p : Prop} (h : p) : boolOf p = true := by simp [boolOf, h]
theorem boolOf_f {p : Prop} (h : ¬ p) : boolOf p = false := by simp [boolOf, h]
/-- b stands beside a. -/
def StepP (a b : Int × Int) : Prop := ∃ k, k < 4 ∧ (besideL a.1 a.2).getD k (0, 0) = b
def StepsP (L : List (Int × Int)) : Prop := ∀ k, k + 1 < L.length → StepP (L.getD k (0, 0)) (L.getD (k + 1) (0, 0))
def LenP (L : List (Int × Int)) : Prop := 1 ≤ L.length ∧ L.length ≤ 80
def InP (S : Sh) (L : List (Int × Int)) : Prop := ∀ k, k < L.length → hasB S (L.getD k (0, 0)).1 (L.getD k (0, 0)).2 = true
/-- A path of a sheet. -/
def PathP (S : Sh) (L : List (Int × Int)) : Prop := StepsP L ∧ LenP L ∧ InP S L
section
variable (cx : Cx) (h : List (Nat × Seg)) (n : Nat)
theorem index_Q (i cap : Nat) (L : List (Int × Int)) (s : Seg) (x y : Int) (hs : hget h i = some s) (hi : i < n) (hm9 : L.length ≤ 1000000000) (hL : SpsAt s L) :
    CallQ Try.prog cx 112 [.sl i 0 L.length cap, spot x y] h n (.int .i64 (fst4 (fun a b => decide (x = a) && decide (y = b)) L)) := by
  have hn := hL.1
  refine callQ_of_T (P := Try.prog) hti (nt := 19) (rs := [.tmp 4]) rfl rfl Try.call112 Try.func112 rfl _ (by simp only [go_sem, and_self]) (Nat.le_of_ble_eq_true rfl) _ (by first | exact trivial | (refine lt_flat rfl ?_; simp [SV.flat]; done) | simp only [go_sem]) fun hok => ?_
  simp only [go_sem, Nat.reduceLT, Int.reduceNeg]
  refine T_lp (ι := { j : Nat // j ≤ L.length ∧ ∀ k, k < j → (decide (x = (L.getD k (0, 0)).1) && decide (y = (L.getD k (0, 0)).2)) = false })
    (fun j => ([(0, .sl i 0 L.length cap), (3, .ptr n 0), (7, .int .i64 L.length), (8, .int .i64 j.1)], (n, ⟨2, cl [.int .i8 x, .int .i8 y], true, none⟩) :: h, n + 1)) (fun j => L.length - j.1) ⟨0, by simp⟩ ?_ ?_
  · refine Imp.id (by simp) ?_ ?_
    · simp only [go_sem, Nat.reduceLT]
      omega
    · exact impH.cons0 (hget_hit _ _ _) (by simp) (SegLe.flat (Nat.le_refl _) id (.inr rfl) fun z hz => ⟨rfl, pair_flat _ _ hz⟩) (impH.base0 hok (by simp) (HExt.rfl.cons (Nat.le_refl n)))
  · rintro ⟨j, hj, hall⟩
    simp only [go_sem, Nat.reduceLT, Int.reduceNeg, decide_eq_true_eq, decide_eq_false_iff_not]
    refine ⟨fun h1 => ?_, fun h1 => ?_⟩
    · have hjr : (0 : Int) ≤ j ∧ (j : Int) < L.length := ⟨by omega, h1⟩
      have hjl : j < L.length := by omega
      refine T_draw hti _ _ (by kernel_rfl) (by kernel_rfl) ?_
      have hle : j * 2 ≤ s.n - 2 := by omega
      simp only [go_sem, Nat.reduceLT, Nat.reduceLeDiff, Nat.reduceMod, Int.reduceNeg, hs, hi, hjr, hL.x hjl, hL.y hjl]
      refine ⟨by omega, fun h2 => ?_, fun h2 => ⟨⟨j + 1, by omega, fun k hk => ?_⟩, by show L.length - (j + 1) < L.length - j; omega, ?_⟩⟩
      · rcases (by omega : fst4 (fun a b => decide (x = a) && decide (y = b)) L = -1 ∨ fst4 (fun a b => decide (x = a) && decide (y = b)) L ≠ -1) with hr | hr
        · have := fst4_none hr j hjl
          rw [this] at h2; cases h2
        · obtain ⟨r0, r1, r2, r3⟩ := fst4_some hr
          rcases (by omega : (j : Int) < fst4 (fun a b => decide (x = a) && decide (y = b)) L ∨ fst4 (fun a b => decide (x = a) && decide (y = b)) L < j ∨ fst4 (fun a b => decide (x = a) && decide (y = b)) L = j) with h | h | h
          · rw [r3 j h] at h2; cases h2
          · have := hall (fst4 (fun a b => decide (x = a) && decide (y = b)) L).toNat (by omega)
            rw [r2] at this; cases this
          · rw [h]
      · rcases (by omega : k < j ∨ k = j) with h | rfl
        · exact hall k h
        · exact h2
      · refine Imp.id (by simp) ?_ (impH.cons0 (hget_hit _ _ _) (by simp) (SegLe.flat (Nat.le_refl _) id (.inr rfl) fun z hz => ⟨rfl, pair_flat _ _ hz⟩) (impH.base0 hok (by simp) (HExt.rfl.cons (Nat.le_refl n))))
        simp only [go_sem, Nat.reduceLT, w64 (n := (j : Int) + 1) (by omega), Int.natCast_add, Int.natCast_one]
        omega
    · rcases (by omega : fst4 (fun a b => decide (x = a) && decide (y = b)) L = -1 ∨ fst4 (fun a b => decide (x = a) && decide (y = b)) L ≠ -1) with hr | hr
      · rw [hr]
      · obtain ⟨r0, r1, r2, r3⟩ := fst4_some hr
        have := hall (fst4 (fun a b => decide (x = a) && decide (y = b)) L).toNat (by omega)
        rw [r2] at this; cases this
theorem contains_Q (i cap : Nat) (L : List (Int × Int)) (s : Seg) (x y : Int) (hs : hget h i = some s) (hi : i < n) (hm9 : L.length ≤ 1000000000) (hL : SpsAt s L) :
    CallQ Try.prog cx 111 [.sl i 0 L.length cap, spot x y] h n (.bool (boolOf (∃ k, k < L.length ∧ L.getD k (0, 0) = (x, y)))) := by
  refine callQ_of_T (P := Try.prog) hti (nt := 9) (rs := [.tmp 4]) rfl rfl Try.call111 Try.func111 rfl _ (by simp only [go_sem, and_self]) (Nat.le_of_ble_eq_true rfl) _ (by first | exact trivial | (refine lt_flat rfl ?_; simp [SV.flat]; done) | simp only [go_sem]) fun hok => ?_
  simp only [go_sem, Nat.reduceLT]
  refine (index_Q _ _ _ i cap L s x y (by simp only [go_sem, hs, hi]) (by omega) hm9 hL).A ?_
  by_cases hr : fst4 (fun a b => decide (x = a) && decide (y = b)) L = -1
  · have : ¬ ∃ k, k < L.length ∧ L.getD k (0, 0) = (x, y) := fun ⟨k, hk, e⟩ => by
      have := fst4_none hr k hk
      rw [e] at this; simp at this
    simp only [go_sem, Nat.reduceLT, Int.reduceLE, Int.reduceNeg, hr, boolOf_f this]
  · obtain ⟨r0, r1, r2, r3⟩ := fst4_some hr
    have : ∃ k, k < L.length ∧ L.getD k (0, 0) = (x, y) := ⟨(fst4 (fun a b => decide (x = a) && decide (y = b)) L).toNat, by omega, by
      simp only [Bool.and_eq_true, decide_eq_true_eq] at r2
      exact Prod.ext r2.1.symm r2.2.symm⟩
    simp only [go_sem, Nat.reduceLT, r0, boolOf_t this]
theorem isStep_Q (ax ay bx by_ : Int) : CallQ Try.prog cx 106 [spot ax ay, spot bx by_] h n (.bool (boolOf (StepP (ax, ay) (bx, by_)))) := by
  refine callQ_of_T (P := Try.prog) hti (nt := 9) (rs := [.tmp 4]) rfl rfl Try.call106 Try.func106 rfl _ (by simp only [go_sem, and_self]) (Nat.le_of_ble_eq_true rfl) _ (by first | exact trivial | (refine lt_flat rfl ?_; simp [SV.flat]; done) | simp only [go_sem]) fun hok => ?_
  simp only [go_sem, Nat.reduceLT]
  refine T_drawG hti 5 [] (.b 0 0 (.b 0 2 (.b 2 1 (.b 2 3 (.b 0 4 (.f) .o) .o) .o) .o) .o) _ _ (by kernel_rfl) (by kernel_rfl) ?_
  simp only [go_sem, Nat.reduceLT]
  refine callA_false (beside_E _ _ _ ax ay _ ?_)
  simp only [go_sem, Nat.reduceLT, Nat.reduceLeDiff, HExt_cons]
  refine (contains_Q _ _ _ (n + 2) 4 (besideL ax ay) ⟨8, spotsC (besideL ax ay), true, some (51, 8)⟩ bx by_ (by simp only [go_sem]) (by omega) (by simp [besideL]) ⟨by simp [besideL], fun k hk => rfl⟩).A ?_
  simp only [go_sem]
  rfl
theorem step2_Q (ax ay bx by_ : Int) : CallQ Try.prog cx 105 [spot ax ay, spot bx by_] h n (.bool (boolOf (StepP (ax, ay) (bx, by_)))) := by
  refine callQ_of_T (P := Try.prog) hti (nt := 15) (rs := [.tmp 4]) rfl rfl Try.call105 Try.func105 rfl _ (by simp only [go_sem, and_self]) (Nat.le_of_ble_eq_true rfl) _ (by first | exact trivial | (refine lt_flat rfl ?_; simp [SV.flat]; done) | simp only [go_sem]) fun hok => ?_
  simp only [go_sem, Nat.reduceLT]
  refine T_unroll 4 ?_
  simp only [go_sem, Nat.reduceLT, Int.reduceLT]
  refine T_draw hti _ _ (by kernel_rfl) (by kernel_rfl) ?_
  simp only [go_sem, Nat.reduceLT]
  refine (next_Q _ _ _ ax ay 0 (by omega)).A ?_
  by_cases e0 : ((besideL ax ay).getD 0 (0, 0)).1 = bx ∧ ((besideL ax ay).getD 0 (0, 0)).2 = by_
  · have hp : StepP (ax, ay) (bx, by_) := ⟨0, by omega, Prod.ext e0.1 e0.2⟩
    simp only [go_sem, Nat.reduceLT, Nat.reduceLeDiff, Nat.reduceMod, e0.1, e0.2, boolOf_t hp]
  have f0 : (decide (((besideL ax ay).getD 0 (0, 0)).1 = bx) && decide (((besideL ax ay).getD 0 (0, 0)).2 = by_)) = false := by simpa using e0
  simp only [go_sem, Nat.reduceLT, Nat.reduceLeDiff, Nat.reduceMod, Int.reduceLE, Int.reduceLT, Int.reduceNeg, Int.reduceAdd, f0]
  refine U_step ?_
  simp only [go_sem, Nat.reduceLT, Int.reduceLT]
  refine T_draw hti _ _ (by kernel_rfl) (by kernel_rfl) ?_
  simp only [go_sem, Nat.reduceLT]
  refine (next_Q _ _ _ ax ay 1 (by omega)).A ?_
  by_cases e1 : ((besideL ax ay).getD 1 (0, 0)).1 = bx ∧ ((besideL ax ay).getD 1 (0, 0)).2 = by_
  · have hp : StepP (ax, ay) (bx, by_) := ⟨1, by omega, Prod.ext e1.1 e1.2⟩
    simp only [go_sem, Nat.reduceLT, Nat.reduceLeDiff, Nat.reduceMod, e1.1, e1.2, boolOf_t hp]
  have f1 : (decide (((besideL ax ay).getD 1 (0, 0)).1 = bx) && decide (((besideL ax ay).getD 1 (0, 0)).2 = by_)) = false := by simpa using e1
  simp only [go_sem, Nat.reduceLT, Nat.reduceLeDiff, Nat.reduceMod, Int.reduceLE, Int.reduceLT, Int.reduceNeg, Int.reduceAdd, f1]
  refine U_step ?_
  simp only [go_sem, Nat.reduceLT, Int.reduceLT]
  refine T_draw hti _ _ (by kernel_rfl) (by kernel_rfl) ?_
  simp only [go_sem, Nat.reduceLT]
  refine (next_Q _ _ _ ax ay 2 (by omega)).A ?_
  by_cases e2 : ((besideL ax ay).getD 2 (0, 0)).1 = bx ∧ ((besideL ax ay).getD 2 (0, 0)).2 = by_
  · have hp : StepP (ax, ay) (bx, by_) := ⟨2, by omega, Prod.ext e2.1 e2.2⟩
    simp only [go_sem, Nat.reduceLT, Nat.reduceLeDiff, Nat.reduceMod, e2.1, e2.2, boolOf_t hp]
  have f2 : (decide (((besideL ax ay).getD 2 (0, 0)).1 = bx) && decide (((besideL ax ay).getD 2 (0, 0)).2 = by_)) = false := by simpa using e2
  simp only [go_sem, Nat.reduceLT, Nat.reduceLeDiff, Nat.reduceMod, Int.reduceLE, Int.reduceLT, Int.reduceNeg, Int.reduceAdd, f2]
  refine U_step ?_
  simp only [go_sem, Nat.reduceLT, Int.reduceLT]
  refine T_draw hti _ _ (by kernel_rfl) (by kernel_rfl) ?_
  simp only [go_sem, Nat.reduceLT]
  refine (next_Q _ _ _ ax ay 3 (by omega)).A ?_
  by_cases e3 : ((besideL ax ay).getD 3 (0, 0)).1 = bx ∧ ((besideL ax ay).getD 3 (0, 0)).2 = by_
  · have hp : StepP (ax, ay) (bx, by_) := ⟨3, by omega, Prod.ext e3.1 e3.2⟩
    simp only [go_sem, Nat.reduceLT, Nat.reduceLeDiff, Nat.reduceMod, e3.1, e3.2, boolOf_t hp]
  have f3 : (decide (((besideL ax ay).getD 3 (0, 0)).1 = bx) && decide (((besideL ax ay).getD 3 (0, 0)).2 = by_)) = false := by simpa using e3
  simp only [go_sem, Nat.reduceLT, Nat.reduceLeDiff, Nat.reduceMod, Int.reduceLE, Int.reduceLT, Int.reduceNeg, Int.reduceAdd, f3]
  refine U_step ?_
  have hp : ¬ StepP (ax, ay) (bx, by_) := fun ⟨k, hk, e⟩ => by
    rcases (by omega : k = 0 ∨ k = 1 ∨ k = 2 ∨ k = 3) with rfl | rfl | rfl | rfl
    · exact e0 ⟨by rw [e], by rw [e]⟩
    · exact e1 ⟨by rw [e], by rw [e]⟩
    · exact e2 ⟨by rw [e], by rw [e]⟩
    · exact e3 ⟨by rw [e], by rw [e]⟩
  simp only [go_sem, Nat.reduceLT, Int.reduceLT, boolOf_f hp]
end
end Go.Proofs.Ytpcnhenenjblpaa.V

/- Paths of a sheet, and what a sheet, a brush and a path are asked: both codes. -/
namespace Go.Proofs.Ytpcnhenenjblpaa.V
section
variable (cx : Cx) (h : List (Nat × Seg)) (n : Nat)
theorem size_Q (i o m cap : Nat) (hm9 : m ≤ 1000000000) : CallQ Try.prog cx 107 [.sl i o m cap] h n (.int .i64 m) := by
  refine callQ_of_T (P := Try.prog) hti (nt := 5) (rs := [.tmp 2]) rfl rfl Try.call107 Try.func107 rfl _ (by simp only [go_sem, and_self]) (Nat.le_of_ble_eq_true rfl) _ (by first | exact trivial | (refine lt_flat rfl ?_; simp [SV.flat]; done) | simp only [go_sem]) fun hok => ?_
  simp only [go_sem, Nat.reduceLT]
/-- Does a list hold an element of which something is so? -/
def AnyP (p : Int → Int → Bool) (L : List (Int × Int)) : Prop := ∃ k, k < L.length ∧ p (L.getD k (0, 0)).1 (L.getD k (0, 0)).2 = true
theorem containsFunc_Q (i cap : Nat) (L : List (Int × Int)) (s : Seg) (f a b : Nat) (G F : Nat → SV) (p : Int → Int → Bool) (hs : hget h i = some s) (hi : i < n) (hm9 : L.length ≤ 1000000000) (hL : SpsAt s L) (hF : (SV.fn f a G b F).lt n)
    (hp : ∀ j, j < L.length → ∀ nt n0, CallQ Try.prog ⟨cx.w0, cx.W, nt, n0⟩ f (lst a G ++ [spot (L.getD j (0, 0)).1 (L.getD j (0, 0)).2] ++ lst b F) h n (.bool (p (L.getD j (0, 0)).1 (L.getD j (0, 0)).2))) :
    CallQ Try.prog cx 46 [.sl i 0 L.length cap, .fn f a G b F] h n (.bool (boolOf (AnyP p L))) := by
  refine callQ_of_T (P := Try.prog) hti (nt := 9) (rs := [.tmp 4]) rfl rfl Try.call46 Try.func46 rfl _ (by simp only [go_sem, and_self]) (Nat.le_of_ble_eq_true rfl) _ (by first | exact trivial | (refine lt_flat rfl ?_; simp [SV.flat]; done) | simp only [go_sem]) fun hok => ?_
  simp only [go_sem, Nat.reduceLT]
  refine (indexFunc_Q ⟨cx.w0, cx.W, 9, n⟩ h n i L.length cap L s f a b G F p (fst4 p L) hs hi rfl hm9 hL.1 hL.2 hF (fun hr => fst4_none hr) (fun hr => fst4_some hr) (fun j hj nt n0 => hp j hj nt n0)).A ?_
  by_cases hr : fst4 p L = -1
  · have : ¬ AnyP p L := fun ⟨k, hk, e⟩ => by rw [fst4_none hr k hk] at e; cases e
    simp only [go_sem, Nat.reduceLT, Int.reduceLE, Int.reduceNeg, hr, boolOf_f this]
  · obtain ⟨r0, r1, r2, r3⟩ := fst4_some hr
    have : AnyP p L := ⟨(fst4 p L).toNat, by omega, r2⟩
    simp only [go_sem, Nat.reduceLT, r0, boolOf_t this]
variable (i cap : Nat) (L : List (Int × Int)) (s : Seg) (hs : hget h i = some s) (hi : i < n) (hL : SpsAt s L) (hm9 : L.length ≤ 1000000000)
include hs hi hL hm9 in
theorem isPath_Q : CallQ Try.prog cx 94 [.sl i 0 L.length cap] h n (.bool (boolOf (StepsP L ∧ LenP L))) := by
  have hn := hL.1
  refine callQ_of_T (P := Try.prog) hti (nt := 24) (rs := [.tmp 2]) rfl rfl Try.call94 Try.func94 rfl _ (by simp only [go_sem, and_self]) (Nat.le_of_ble_eq_true rfl) _ (by first | exact trivial | (refine lt_flat rfl ?_; simp [SV.flat]; done) | simp only [go_sem]) fun hok => ?_
  simp only [go_sem, Nat.reduceLT]
  refine T_lp (ι := { q : Nat // (q + 1 ≤ L.length ∨ q = 0) ∧ ∀ k, k < q → StepP (L.getD k (0, 0)) (L.getD (k + 1) (0, 0)) })
    (fun q => ([(0, .sl i 0 L.length cap), (3, .int .i64 ((q.1 : Int) + 1))], h, n)) (fun q => L.length - q.1) ⟨0, by simp, fun k hk => by omega⟩ ?_ ?_
  · refine Imp.id (by simp) ?_ (impH.base0 hok (by simp) HExt.rfl)
    simp only [go_sem, Nat.reduceLT, Int.reduceAdd]
    exact hi
  · rintro ⟨q, hq, hall⟩
    simp only [go_sem, Nat.reduceLT, decide_eq_true_eq, decide_eq_false_iff_not]
    refine ⟨fun h1 => ?_, fun h1 => ?_⟩
    · have e1 : (q : Int) + 1 - 1 = q := by omega
      have e2 : ((q : Int) + 1).toNat = q + 1 := by omega
      have r1 : (0 : Int) ≤ q ∧ (q : Int) < L.length := ⟨by omega, by omega⟩
      have r2 : (0 : Int) ≤ (q : Int) + 1 ∧ (q : Int) + 1 < L.length := ⟨by omega, by omega⟩
      have b1 : q * 2 ≤ s.n - 2 := by omega
      have b2 : (q + 1) * 2 ≤ s.n - 2 := by omega
      have b3 : 2 ≤ s.n := by omega
      refine T_draw hti _ _ (by kernel_rfl) (by kernel_rfl) ?_
      simp only [go_sem, Nat.reduceLT, hs, hi, e1, e2, r1, r2, b1, b2, b3, hL.x (j := q) (by omega), hL.y (j := q) (by omega), hL.x (j := q + 1) (by omega), hL.y (j := q + 1) (by omega), w64 (n := (q : Int)) (by omega)]
      refine ⟨by omega, by omega, (isStep_Q _ _ _ _ _ _ _).A ?_⟩
      by_cases hp : StepP (L.getD q (0, 0)) (L.getD (q + 1) (0, 0))
      · simp only [go_sem, Nat.reduceLT, boolOf_t hp]
        refine ⟨⟨q + 1, .inl (by omega), fun k hk => ?_⟩, by show L.length - (q + 1) < L.length - q; omega, ?_⟩
        · rcases (by omega : k < q ∨ k = q) with h | rfl
          · exact hall k h
          · exact hp
        · refine Imp.id (by simp) ?_ (impH.base0 hok (by simp) HExt.rfl)
          simp only [go_sem, Nat.reduceLT, w64 (n := (q : Int) + 1 + 1) (by omega), Int.natCast_add, Int.natCast_one]
          exact hi
      · have hf : ¬ (StepsP L ∧ LenP L) := fun h => hp (h.1 q (by omega))
        simp only [go_sem, Nat.reduceLT, boolOf_f hp, boolOf_f hf]
    · have hst : StepsP L := fun k hk => hall k (by omega)
      refine (size_Q _ _ _ i 0 L.length cap hm9).A ?_
      simp only [go_sem, Nat.reduceLT]
      refine (within_Q _ _ _ _ _ _).A ?_
      simp only [go_sem, Nat.reduceLT]
      congr 1
      by_cases hl : LenP L
      · rw [boolOf_t ⟨hst, hl⟩]; have := hl.1; have := hl.2; simp; omega
      · rw [boolOf_f fun h => hl h.2]; unfold LenP at hl; simp; omega
theorem validPath1_Q (iv : Nat) (S : Sh) (x y : Int) (hv : hget h iv = some (shS S)) (hvi : iv < n) (hR : ShR S) : CallQ Try.prog cx 95 [spot x y, .ptr iv 0] h n (.bool (!hasB S x y)) := by
  refine callQ_of_T (P := Try.prog) hti (nt := 7) (rs := [.tmp 3]) rfl rfl Try.call95 Try.func95 rfl _ (by simp only [go_sem, and_self]) (Nat.le_of_ble_eq_true rfl) _ (by first | exact trivial | (refine lt_flat rfl ?_; simp [SV.flat]; done) | simp only [go_sem]) fun hok => ?_
  simp only [go_sem, Nat.reduceLT]
  refine (has_Q _ _ _ iv 0 _ S x y (by simp only [go_sem, hv, hvi]) (by omega) (shAt_shC hR)).A ?_
  simp only [go_sem, Nat.reduceLT]
include hs hi hL hm9 in
theorem validPath_Q (S : Sh) (hR : ShR S) : CallQ Try.prog cx 43 [.agg 266 (shC S), .sl i 0 L.length cap] h n (.bool (boolOf (Valid S ∧ PathP S L))) := by
  refine callQ_of_T (P := Try.prog) hti (nt := 17) (rs := [.tmp 4]) rfl rfl Try.call43 Try.func43 rfl _ (by simp only [go_sem, and_self]) (Nat.le_of_ble_eq_true rfl) _ (by first | exact trivial | (refine lt_flat rfl ?_; simp [SV.flat]; done) | simp only [go_sem]) fun hok => ?_
  simp only [go_sem, Nat.reduceLT]
  refine (valid_Q _ _ _ _ S (shF_shC hR)).A ?_
  by_cases hV : Valid S
  · rw [validB_true hV]
    simp only [go_sem, Nat.reduceLT]
    refine (isPath_Q _ _ _ i cap L s (by simp only [go_sem, hs, hi]) (by omega) hL hm9).A ?_
    by_cases hP : StepsP L ∧ LenP L
    · rw [boolOf_t hP]
      simp only [go_sem, Nat.reduceLT]
      refine (containsFunc_Q _ _ _ i cap L s _ _ _ _ _ (fun x y => !hasB S x y) (by simp only [go_sem, hs, hi]) (by omega) hm9 hL (by simp [SV.lt, cl]) (fun j hj nt n0 => validPath1_Q _ _ _ n S _ _ (by simp only [go_sem]) (by omega) hR)).A ?_
      by_cases hI : InP S L
      · have h1 : ¬ AnyP (fun x y => !hasB S x y) L := fun ⟨k, hk, e⟩ => by have e' : (!hasB S (L.getD k (0, 0)).1 (L.getD k (0, 0)).2) = true := e; rw [hI k hk] at e'; cases e'
        simp only [go_sem, Nat.reduceLT, boolOf_f h1, boolOf_t (show Valid S ∧ PathP S L from ⟨hV, hP.1, hP.2, hI⟩)]
      · have h1 : AnyP (fun x y => !hasB S x y) L := by
          refine Classical.byContradiction fun hn => hI fun k hk => ?_
          cases e : hasB S (L.getD k (0, 0)).1 (L.getD k (0, 0)).2 with
          | true => rfl
          | false => exact absurd ⟨k, hk, by show (!hasB S (L.getD k (0, 0)).1 (L.getD k (0, 0)).2) = true; rw [e]; rfl⟩ hn
        simp only [go_sem, Nat.reduceLT, boolOf_t h1, boolOf_f (show ¬ (Valid S ∧ PathP S L) from fun h => hI h.2.2.2)]
    · rw [boolOf_f hP]
      simp only [go_sem, Nat.reduceLT, boolOf_f (show ¬ (Valid S ∧ PathP S L) from fun h => hP ⟨h.2.1, h.2.2.1⟩)]
  · rw [validB_false hV]
    simp only [go_sem, Nat.reduceLT, boolOf_f (show ¬ (Valid S ∧ PathP S L) from fun h => hV h.1)]
/-- What brushCode tells. -/
noncomputable def bCode (S : Sh) (B : Br) (ok : Bool) : Int := if boolOf (Valid S ∧ BrV B) then (if ok then 0 else 2) else 1
theorem bCode_ok {S : Sh} {B : Br} {ok : Bool} (h : Valid S ∧ BrV B) : bCode S B ok = if ok then 0 else 2 := by simp [bCode, boolOf_t h]
theorem bCode_bad {S : Sh} {B : Br} {ok : Bool} (h : ¬ (Valid S ∧ BrV B)) : bCode S B ok = 1 := by simp [bCode, boolOf_f h]
theorem brushCode_Q (S : Sh) (B : Br) (ok : Bool) (hR : ShR S) (hB : BrR B) : CallQ Try.prog cx 42 [.agg 266 (shC S), .agg 5 (brC B), .bool ok] h n (.int .i64 (bCode S B ok)) := by
  refine callQ_of_T (P := Try.prog) hti (nt := 19) (rs := [.tmp 6]) rfl rfl Try.call42 Try.func42 rfl _ (by simp only [go_sem, and_self]) (Nat.le_of_ble_eq_true rfl) _ (by first | exact trivial | (refine lt_flat rfl ?_; simp [SV.flat]; done) | simp only [go_sem]) fun hok => ?_
  simp only [go_sem, Nat.reduceLT]
  refine (valid_Q _ _ _ _ S (shF_shC hR)).A ?_
  by_cases hV : Valid S
  · rw [validB_true hV]
    simp only [go_sem, Nat.reduceLT]
    refine (validBrush_Q _ _ _ B hB).A ?_
    by_cases hb : BrV B
    · cases ok <;> simp only [go_sem, Nat.reduceLT, reduceIte, hb, bCode_ok ⟨hV, hb⟩]
    · cases ok <;> simp only [go_sem, Nat.reduceLT, hb, bCode_bad (show ¬ (Valid S ∧ BrV B) from fun h => hb h.2)]
  · rw [validB_false hV]
    cases ok <;> simp only [go_sem, Nat.reduceLT, bCode_bad (show ¬ (Valid S ∧ BrV B) from fun h => hV h.1)]
end
end Go.Proofs.Ytpcnhenenjblpaa.V

/- Strokes along paths: both codes. -/
namespace Go.Proofs.Ytpcnhenenjblpaa.V

/-- Behind so many cells of a path. -/
def strokeN (S : Sh) (B : Br) (L : List (Int × Int)) : Nat → Sh × Br
  | 0 => (S, B)
  | q + 1 => (touchS (strokeN S B L q).1 (strokeN S B L q).2 (L.getD q (0, 0)).2 (L.getD q (0, 0)).1, touchB (strokeN S B L q).1 (strokeN S B L q).2 (L.getD q (0, 0)).2 (L.getD q (0, 0)).1)
structure OkSB (S0 : Sh) (p : Sh × Br) : Prop where
  R : ShR p.1
  G : Good p.1
  B : BrV p.2
  wide : p.1.wide = S0.wide
  high : p.1.high = S0.high
  wax : p.1.wax = S0.wax
theorem touch_ok {S0 : Sh} {p : Sh × Br} {x y : Int} (h : OkSB S0 p) (hx : 0 ≤ x) (hx8 : x < 8) (hy : 0 ≤ y) (hy8 : y < 8) : OkSB S0 (touchS p.1 p.2 y x, touchB p.1 p.2 y x) :=
  ⟨touchS_R h.R h.G h.B hx hx8 hy hy8, touchS_good h.G h.B hx hx8 hy hy8, touchB_V h.G h.B hx hx8 hy hy8, h.wide, h.high, h.wax⟩
theorem InP.at {S : Sh} {L : List (Int × Int)} (h : InP S L) (hS : Small S) {q : Nat} (hq : q < L.length) : 0 ≤ (L.getD q (0, 0)).1 ∧ (L.getD q (0, 0)).1 < 8 ∧ 0 ≤ (L.getD q (0, 0)).2 ∧ (L.getD q (0, 0)).2 < 8 := hasB_in hS (h q hq)
theorem strokeN_ok {S : Sh} {B : Br} {L : List (Int × Int)} (hI : InP S L) (hS : Small S) (h : OkSB S (S, B)) : ∀ q, q ≤ L.length → OkSB S (strokeN S B L q)
  | 0, _ => h
  | q + 1, hq => by
    obtain ⟨a, b, c, d⟩ := hI.at hS (q := q) (by omega)
    exact touch_ok (strokeN_ok hI hS h q (by omega)) a b c d

section
variable (cx : Cx) (h : List (Nat × Seg)) (n : Nat)
variable (i cap : Nat) (L : List (Int × Int)) (s : Seg) (hs : hget h i = some s) (hi : i < n) (hL : SpsAt s L) (hm9 : L.length ≤ 1000000000)
include hs hi hL hm9 in
theorem path2_Q (p : Nat) (S : Sh) (hp : hget h p = some (shS S)) (hpn : p < n) (hR : ShR S) (hLR : SpotsR L) : CallQ Try.prog cx 87 [.ptr p 0, .sl i 0 L.length cap] h n (.bool (boolOf (PathP S L))) := by
  have hn := hL.1
  refine callQ_of_T (P := Try.prog) hti (nt := 39) (rs := [.tmp 4]) rfl rfl Try.call87 Try.func87 rfl _ (by simp only [go_sem, and_self]) (Nat.le_of_ble_eq_true rfl) _ (by first | exact trivial | (refine lt_flat rfl ?_; simp [SV.flat]; done) | simp only [go_sem]) fun hok => ?_
  simp only [go_sem, Nat.reduceLT]
  refine T_lp (ι := { q : Nat // q ≤ L.length ∧ (∀ k, k < q → hasB S (L.getD k (0, 0)).1 (L.getD k (0, 0)).2 = true) ∧ ∀ k, k + 1 < q → StepP (L.getD k (0, 0)) (L.getD (k + 1) (0, 0)) })
    (fun q => ([(0, .ptr p 0), (1, .sl i 0 L.length cap), (5, .int .i64 q.1)], h, n)) (fun q => L.length - q.1) ⟨0, by simp, fun k hk => by omega, fun k hk => by omega⟩ ?_ ?_
  · refine Imp.id (by simp) ?_ (impH.base0 hok (by simp) HExt.rfl)
    simp only [go_sem, Nat.reduceLT]
    exact ⟨hpn, hi⟩
  · rintro ⟨q, hq, hall, hst⟩
    simp only [go_sem, Nat.reduceLT, decide_eq_true_eq, decide_eq_false_iff_not]
    refine ⟨fun h1 => ?_, fun h1 => ?_⟩
    · have r1 : (0 : Int) ≤ q ∧ (q : Int) < L.length := ⟨by omega, by omega⟩
      have b1 : q * 2 ≤ s.n - 2 := by omega
      have b3 : 2 ≤ s.n := by omega
      have hr := hLR q (by omega)
      have next : hasB S (L.getD q (0, 0)).1 (L.getD q (0, 0)).2 = true → (∀ k, k + 1 < q + 1 → StepP (L.getD k (0, 0)) (L.getD (k + 1) (0, 0))) →
          ∃ j : { q : Nat // q ≤ L.length ∧ (∀ k, k < q → hasB S (L.getD k (0, 0)).1 (L.getD k (0, 0)).2 = true) ∧ ∀ k, k + 1 < q → StepP (L.getD k (0, 0)) (L.getD (k + 1) (0, 0)) }, L.length - j.1 < L.length - q ∧ j.1 = q + 1 := fun ha hb =>
        ⟨⟨q + 1, by omega, fun k hk => by rcases (by omega : k < q ∨ k = q) with h | rfl; exact hall k h; exact ha, hb⟩, by show L.length - (q + 1) < L.length - q; omega, rfl⟩
      refine T_draw hti _ _ (by kernel_rfl) (by kernel_rfl) ?_
      simp only [go_sem, Nat.reduceLT, hs, hi, r1, b1, b3, hL.x (j := q) (by omega), hL.y (j := q) (by omega)]
      refine ⟨by omega, (is_Q _ _ _ p 0 _ S _ _ hp (by omega) (shAt_shC hR) hr.1 hr.2).A ?_⟩
      by_cases hh : hasB S (L.getD q (0, 0)).1 (L.getD q (0, 0)).2 = true
      rotate_left
      · have hf : ¬ PathP S L := fun h => hh (h.2.2 q (by omega))
        simp only [go_sem, Nat.reduceLT, hh, boolOf_f hf]
      have hcont : ∀ (w : List (Nat × SV)), True := fun _ => trivial
      cases q with
      | zero =>
        simp only [go_sem, Nat.reduceLT, Nat.reduceMul, Int.reduceLE, Int.reduceLT, Int.reduceNeg, Int.reduceAdd, hh]
        obtain ⟨j, hj1, hj2⟩ := next hh (fun k hk => by omega)
        refine ⟨j, hj1, ?_⟩
        refine Imp.id (by simp) ?_ (impH.base0 hok (by simp) HExt.rfl)
        rw [hj2]
        simp only [go_sem, Nat.reduceLT]
        exact ⟨hpn, hi⟩
      | succ r =>
        have e1 : ((r + 1 : Nat) : Int) - 1 = r := by omega
        have r0 : (0 : Int) < ((r + 1 : Nat) : Int) := by omega
        have r2 : (0 : Int) ≤ r ∧ (r : Int) < L.length := ⟨by omega, by omega⟩
        have b2 : r * 2 ≤ s.n - 2 := by omega
        simp only [go_sem, Nat.reduceLT, hh, r0, hs, hi, e1, r1, r2, b1, b2, b3, hL.x (j := r) (by omega), hL.y (j := r) (by omega), hL.x (j := r + 1) (by omega), hL.y (j := r + 1) (by omega), w64 (n := (r : Int)) (by omega)]
        refine ⟨by omega, by omega, (step2_Q _ _ _ _ _ _ _).A ?_⟩
        by_cases hp' : StepP (L.getD r (0, 0)) (L.getD (r + 1) (0, 0))
        · simp only [go_sem, Nat.reduceLT, boolOf_t hp']
          obtain ⟨j, hj1, hj2⟩ := next hh (fun k hk => by rcases (by omega : k + 1 < r + 1 ∨ k = r) with h | rfl; exact hst k h; exact hp')
          refine ⟨j, hj1, ?_⟩
          refine Imp.id (by simp) ?_ (impH.base0 hok (by simp) HExt.rfl)
          rw [hj2]
          simp only [go_sem, Nat.reduceLT, w64 (n := (r : Int) + 1 + 1) (by omega), Int.natCast_add, Int.natCast_one]
          exact ⟨hpn, hi, by rw [Int.add_assoc]; rfl⟩
        · have hf : ¬ PathP S L := fun h => hp' (h.1 r (by omega))
          simp only [go_sem, Nat.reduceLT, boolOf_f hp', boolOf_f hf]
    · have hst' : StepsP L := fun k hk => hst k (by omega)
      have hI : InP S L := fun k hk => hall k (by omega)
      refine (in_Q _ _ _ _ _ _).A ?_
      simp only [go_sem, Nat.reduceLT]
      congr 1
      by_cases hl : LenP L
      · rw [boolOf_t (show PathP S L from ⟨hst', hl, hI⟩)]; have := hl.1; have := hl.2; simp; omega
      · rw [boolOf_f fun h => hl h.2.1]; unfold LenP at hl; simp; omega
include hs hi hL hm9 in
theorem along_Q (p j : Nat) (S : Sh) (B : Br) (hp : hget h p = some (shS S)) (hpn : p < n) (hj : hget h j = some (brS B)) (hjn : j < n) (hR : ShR S) (hB : BrR B) (hLR : SpotsR L) :
    CallQ Try.prog cx 50 [.ptr p 0, .ptr j 0, .sl i 0 L.length cap] h n (.int .i64 (bCode S B (boolOf (Valid S ∧ PathP S L)))) := by
  refine callQ_of_T (P := Try.prog) hti (nt := 19) (rs := [.tmp 6]) rfl rfl Try.call50 Try.func50 rfl _ (by simp only [go_sem, and_self]) (Nat.le_of_ble_eq_true rfl) _ (by first | exact trivial | (refine lt_flat rfl ?_; simp [SV.flat]; done) | simp only [go_sem]) fun hok => ?_
  simp only [go_sem, Nat.reduceLT]
  refine (ok2_Q _ _ _ p 0 _ S hp hpn (shAt_shC hR)).A ?_
  by_cases hV : Valid S
  · rw [validB_true hV]
    simp only [go_sem, Nat.reduceLT]
    refine (ok4_Q _ _ _ j B hj hjn hB).A ?_
    by_cases hb : BrV B
    · simp only [go_sem, Nat.reduceLT, hb]
      refine (path2_Q _ _ _ i cap L s hs hi hL hm9 p S hp hpn hR hLR).A ?_
      by_cases hP : PathP S L
      · rw [boolOf_t hP, boolOf_t (show Valid S ∧ PathP S L from ⟨hV, hP⟩)]
        simp only [go_sem, Nat.reduceLT, reduceIte, bCode_ok ⟨hV, hb⟩]
      · rw [boolOf_f hP, boolOf_f (show ¬ (Valid S ∧ PathP S L) from fun h => hP h.2)]
        simp only [go_sem, Nat.reduceLT, reduceIte, bCode_ok ⟨hV, hb⟩]
    · simp only [go_sem, Nat.reduceLT, hb, bCode_bad (show ¬ (Valid S ∧ BrV B) from fun h => hb h.2)]
  · rw [validB_false hV]
    simp only [go_sem, Nat.reduceLT, bCode_bad (show ¬ (Valid S ∧ BrV B) from fun h => hV h.1)]
end
end Go.Proofs.Ytpcnhenenjblpaa.V

/- Strokes along paths, and what StrokePath returns: both codes. -/
namespace Go.Proofs.Ytpcnhenenjblpaa.V
section
variable (cx : Cx) (h : List (Nat × Seg)) (n : Nat)
variable (i cap : Nat) (L : List (Int × Int)) (s : Seg) (hs : hget h i = some s) (hi : i < n) (hL : SpsAt s L) (hm9 : L.length ≤ 1000000000)
include hs hi hL hm9 in
theorem stroke_E (p j : Nat) (S : Sh) (B : Br) (hp : hget h p = some (shS S)) (hpn : p < n) (hj : hget h j = some (brS B)) (hjn : j < n) (hpj : (p == j) = false) (hpi : (p == i) = false) (hji : (j == i) = false)
    (hO : OkSB S (S, B)) (hI : InP S L) (K : HK) (hK : K (.tup 0 (cl [])) (hset (hset h j (brS (strokeN S B L L.length).2)) p (shS (strokeN S B L L.length).1)) n) :
    CallE Try.prog cx 45 [.ptr p 0, .ptr j 0, .sl i 0 L.length cap] h n K := by
  have hn := hL.1
  have hsm := hO.G.small
  have hjp : (j == p) = false := by simp at hpj ⊢; omega
  have hok' : HOk n h → ∀ S' B', HOk n (hset (hset h j (brS B')) p (shS S')) := fun hok S' B' => hok_shS (hok_brS hok)
  refine CallE.to (.tup 0 (cl [])) _ (fun _ h => by omega) (fun hok => hok' hok _ _) hK ?_
  refine callE_of_T (P := Try.prog) hti (nt := 19) (rs := []) rfl rfl Try.call45 Try.func45 rfl _ (by simp only [go_sem, and_self]) (Nat.le_of_ble_eq_true rfl) _ fun hok => ?_
  simp only [go_sem, Nat.reduceLT]
  refine T_lp (ι := { q : Nat // q ≤ L.length })
    (fun q => ([(0, .ptr p 0), (1, .ptr j 0), (8, .sl i 0 L.length cap), (9, .int .i64 L.length), (10, .int .i64 q.1)], hset (hset h j (brS (strokeN S B L q.1).2)) p (shS (strokeN S B L q.1).1), n)) (fun q => L.length - q.1) ⟨0, by omega⟩ ?_ ?_
  · refine Imp.id (by simp) ?_ ?_
    · simp only [go_sem, Nat.reduceLT]
      exact ⟨hpn, hjn, hi⟩
    · have e : hset (hset h j (brS (strokeN S B L 0).2)) p (shS (strokeN S B L 0).1) = h := by
        simp only [strokeN]
        rw [hset_self hj, hset_self hp]
      rw [e]
      exact impH.base0 hok (by simp) HExt.rfl
  · rintro ⟨q, hq⟩
    have hO' := strokeN_ok hI hsm hO q hq
    generalize hSq : (strokeN S B L q).1 = Sq at *
    generalize hBq : (strokeN S B L q).2 = Bq at *
    simp only [go_sem, Nat.reduceLT, decide_eq_true_eq, decide_eq_false_iff_not]
    refine ⟨fun h1 => ?_, fun h1 => ?_⟩
    · have r1 : (0 : Int) ≤ q ∧ (q : Int) < L.length := ⟨by omega, by omega⟩
      have b1 : q * 2 ≤ s.n - 2 := by omega
      have b3 : 2 ≤ s.n := by omega
      obtain ⟨x0, x8, y0, y8⟩ := hI.at hsm (q := q) (by omega)
      have hR := hO'.R; have hG := hO'.G; have hB := hO'.B
      simp only [hSq, hBq] at hR hG hB
      simp only [go_sem, Nat.reduceLT, reduceIte, hs, hi, hpi, hji, r1, b1, b3, hL.x (j := q) (by omega), hL.y (j := q) (by omega)]
      refine ⟨by omega, callA_false (touch_E _ _ _ p Sq Bq _ _ (by simp only [go_sem, hp, hpn, hpj, hjp, hj]) (by omega) hR hG hB x0 x8 y0 y8 j (by simp only [go_sem, hj, hjn, hpj, hjp, hp]) (by omega) hpj _ ?_)⟩
      simp only [go_sem, Nat.reduceLT, hpn, hjn, hpj, hjp]
      refine ⟨⟨q + 1, by omega⟩, by show L.length - (q + 1) < L.length - q; omega, ?_⟩
      refine Imp.id (by simp) ?_ ?_
      · simp only [go_sem, Nat.reduceLT, w64 (n := (q : Int) + 1) (by omega), Int.natCast_add, Int.natCast_one]
        exact ⟨hpn, hjn, hi⟩
      · subst hSq hBq
        exact impH.base0 (hok' hok (strokeN S B L (q + 1)).1 (strokeN S B L (q + 1)).2) (by simp) (HExt.rfl.cons (Nat.le_refl n))
    · have hq' : q = L.length := by omega
      subst hq'
      rw [hSq, hBq]
      exact HExt.rfl
end
end Go.Proofs.Ytpcnhenenjblpaa.V

/- What StrokePath returns: both codes. -/
namespace Go.Proofs.Ytpcnhenenjblpaa.V

def br0 : Br := ⟨0, 0, 0, 0, 0⟩
@[go_sem high] theorem brC_br0 : brC br0 = cl [.int .i16 0, .int .i16 0, .int .i16 0, .int .i16 0, .int .i8 0] := rfl
open Classical in
/-- What StrokePath returns. -/
noncomputable def spR (S : Sh) (B : Br) (L : List (Int × Int)) : SV :=
  if Valid S ∧ BrV B then (if PathP S L then .tup 3 (cl [.agg 266 (shC (strokeN S B L L.length).1), .agg 5 (brC (strokeN S B L L.length).2), .int .i64 0])
    else .tup 3 (cl [.agg 266 (shC sh0), .agg 5 (brC br0), .int .i64 2])) else .tup 3 (cl [.agg 266 (shC sh0), .agg 5 (brC br0), .int .i64 1])
theorem spR_ok {S : Sh} {B : Br} {L : List (Int × Int)} (h : Valid S ∧ BrV B) (hP : PathP S L) : spR S B L = .tup 3 (cl [.agg 266 (shC (strokeN S B L L.length).1), .agg 5 (brC (strokeN S B L L.length).2), .int .i64 0]) := by
  unfold spR; rw [if_pos h, if_pos hP]
theorem spR_path {S : Sh} {B : Br} {L : List (Int × Int)} (h : Valid S ∧ BrV B) (hP : ¬ PathP S L) : spR S B L = .tup 3 (cl [.agg 266 (shC sh0), .agg 5 (brC br0), .int .i64 2]) := by
  unfold spR; rw [if_pos h, if_neg hP]
theorem spR_bad {S : Sh} {B : Br} {L : List (Int × Int)} (h : ¬ (Valid S ∧ BrV B)) : spR S B L = .tup 3 (cl [.agg 266 (shC sh0), .agg 5 (brC br0), .int .i64 1]) := by
  unfold spR; rw [if_neg h]
theorem tup3_lt (S : Sh) (B : Br) (k m : Nat) (z : Int) : (SV.tup 3 (cl [.agg 266 (shC S), .agg 5 (brC B), .int .i64 z])).lt m := by
  rw [lt_tup3]; exact ⟨shC_lt _ _, brC_lt _ _, trivial⟩
theorem spR_lt (S : Sh) (B : Br) (L : List (Int × Int)) (m : Nat) : (spR S B L).lt m := by
  unfold spR; (repeat' split) <;> exact tup3_lt _ _ 0 _ _
theorem Valid.ok {S : Sh} {B : Br} (hV : Valid S) (hb : BrV B) (hR : ShR S) : OkSB S (S, B) := ⟨hR, hV.good, hb, rfl, rfl, rfl⟩

section
variable (cx : Cx) (h : List (Nat × Seg)) (n : Nat)
variable (i cap : Nat) (L : List (Int × Int)) (s : Seg) (hs : hget h i = some s) (hi : i < n) (hL : SpsAt s L) (hm9 : L.length ≤ 1000000000) (S : Sh) (B : Br) (hR : ShR S) (hB : BrR B)
include hs hi hL hm9 hR hB in
theorem strokePath_Q : CallQ Try.prog cx 15 [.agg 266 (shC S), .agg 5 (brC B), .sl i 0 L.length cap] h n (spR S B L) := by
  refine callQ_of_T (P := Try.prog) hti (nt := 25) (rs := [.cell 6 33, .cell 7 36, .tmp 8]) rfl rfl Try.call15 Try.func15 rfl _ (by simp only [go_sem, and_self]) (Nat.le_of_ble_eq_true rfl) _ (spR_lt _ _ _ _) fun hok => ?_
  simp only [go_sem, Nat.reduceLT]
  refine T_draw hti _ _ (by kernel_rfl) (by kernel_rfl) ?_
  simp only [go_sem, Nat.reduceLT]
  refine (validPath_Q _ _ _ i cap L s (by simp only [go_sem, hs, hi]) (by omega) hL hm9 S hR).A ?_
  simp only [go_sem, Nat.reduceLT]
  refine (brushCode_Q _ _ _ S B _ hR hB).A ?_
  by_cases hv : Valid S ∧ BrV B
  · by_cases hP : PathP S L
    · rw [boolOf_t (show Valid S ∧ PathP S L from ⟨hv.1, hP⟩), bCode_ok hv, spR_ok hv hP]
      simp only [go_sem, Nat.reduceLT, reduceIte]
      refine callA_false (stroke_E _ _ _ i cap L s (by simp only [go_sem, hs, hi]) (by omega) hL hm9 n (n + 1) S B (by simp only [go_sem]) (by omega) (by simp only [go_sem, Nat.reduceLT]) (by omega) (by simp only [go_sem]) (by simp only [go_sem, hi]) (by simp only [go_sem, hi]) (hv.1.ok hv.2 hR) hP.2.2 _ ?_)
      simp only [go_sem, Nat.reduceLT]
      refine T_drawG hti 5 [2, 3] (.b 0 0 (.b 2 1 (.b 4 2 (.b 4 3 (.b 0 4 (.f) .o) .o) .o) (.b 4 2 (.b 2 1 (.b 4 3 (.b 0 4 (.f) .o) .o) .o) .o)) .o) _ _ (by kernel_rfl) (by kernel_rfl) ?_
      simp only [go_sem, Nat.reduceLT, reduceIte]
    · rw [boolOf_f (show ¬ (Valid S ∧ PathP S L) from fun h => hP h.2), bCode_ok hv, spR_path hv hP]
      simp only [go_sem, Nat.reduceLT, reduceIte, Int.reduceEq]
  · rw [bCode_bad hv, spR_bad hv]
    simp only [go_sem, Nat.reduceLT, reduceIte, Int.reduceEq]
include hs hi hL hm9 in
theorem stroke2_Q (hO : OkSB S (S, B)) (hI : InP S L) : CallQ Try.prog cx 52 [.agg 266 (shC S), .agg 5 (brC B), .sl i 0 L.length cap] h n (.tup 2 (cl [.agg 266 (shC (strokeN S B L L.length).1), .agg 5 (brC (strokeN S B L L.length).2)])) := by
  have hn := hL.1
  have hsm := hO.G.small
  refine callQ_of_T (P := Try.prog) hti (nt := 22) (rs := [.cell 6 33, .cell 7 36]) rfl rfl Try.call52 Try.func52 rfl _ (by simp only [go_sem, and_self]) (Nat.le_of_ble_eq_true rfl) _ (by rw [lt_tup2]; exact ⟨shC_lt _ _, brC_lt _ _⟩) fun hok => ?_
  simp only [go_sem, Nat.reduceLT]
  refine T_lp (ι := { q : Nat // q ≤ L.length })
    (fun q => ([(2, .sl i 0 L.length cap), (3, .ptr n 0), (4, .ptr (n + 1) 0), (6, .ptr (n + 2) 0), (7, .ptr (n + 3) 0), (8, .int .i64 q.1)], (n + 3, brS br0) :: (n + 2, shS sh0) :: (n + 1, brS (strokeN S B L q.1).2) :: (n, shS (strokeN S B L q.1).1) :: h, n + 4)) (fun q => L.length - q.1) ⟨0, by omega⟩ ?_ ?_
  · refine Imp.id (by simp) ?_ ?_
    · simp only [go_sem, Nat.reduceLT]
      omega
    · (repeat (refine impH.cons0 (by first | (simp only [go_sem, Nat.reduceLT, hget_hset_self]; done) | (simp only [go_sem, Nat.reduceLT, hget_hset_self]; rfl)) (by simp) ?_ ?_; · exact SegLe.flat (Nat.le_refl _) id (by first | exact .inr rfl | exact .inl rfl) fun z hz => ⟨by first | rfl | exact dC_zero hz | exact dC_cl (by rfl) (by rfl) (by rfl) hz, by first | exact shC_flat _ _ | exact brC_flat _ hz | exact pair_flat _ _ hz | exact cellC_flat _ _ | exact dC_flat _ _ | exact stC_flat _ _ | exact cl_flat (l := [_, _, _, _, _]) (by simp [SV.flat]) hz | exact cl_flat (l := [_, _, _]) (by simp [SV.flat]) hz | trivial⟩)); exact impH.base0 (by first | exact hok | exact hok_set hok (fun k hk => stC_flat _ _) | exact hok_set hok (fun k hk => shC_flat _ _)) (by simp) (by first | (simp only [go_sem, HExt_cons]; done) | (simp only [go_sem, Nat.reduceBEq, Nat.reduceLT, Nat.reduceLeDiff, Nat.reduceAdd, Nat.reduceMul, Nat.reduceSub, Nat.reduceMod, Nat.reduceDiv, Nat.reduceEqDiff, Int.reduceToNat, reduceIte, reduceCtorEq, Int.reduceLE, Int.reduceLT, Int.reduceEq, Int.reduceNeg, Int.reduceAdd, Int.reduceSub, Int.reduceMul, HExt_cons]; exact HExt.rfl))
  · rintro ⟨q, hq⟩
    have hO' := strokeN_ok hI hsm hO q hq
    simp only [go_sem, Nat.reduceLT, decide_eq_true_eq, decide_eq_false_iff_not]
    refine ⟨fun h1 => ?_, fun h1 => ?_⟩
    · have r1 : (0 : Int) ≤ q ∧ (q : Int) < L.length := ⟨by omega, by omega⟩
      have b1 : q * 2 ≤ s.n - 2 := by omega
      have b3 : 2 ≤ s.n := by omega
      obtain ⟨x0, x8, y0, y8⟩ := hI.at hsm (q := q) (by omega)
      simp only [go_sem, Nat.reduceLT, hs, hi, r1, b1, b3, hL.x (j := q) (by omega), hL.y (j := q) (by omega)]
      refine ⟨by omega, callA_false (touch2_E _ _ _ n (n + 1) (strokeN S B L q).1 (strokeN S B L q).2 _ _ (by simp only [go_sem]) (by omega) (by simp only [go_sem, Nat.reduceLT]) (by omega) hO'.R hO'.G hO'.B x0 x8 y0 y8 (by simp only [go_sem]) _ ?_)⟩
      simp only [go_sem, Nat.reduceLT]
      refine ⟨⟨q + 1, by omega⟩, by show L.length - (q + 1) < L.length - q; omega, ?_⟩
      refine Imp.id (by simp) ?_ ?_
      · simp only [go_sem, Nat.reduceLT, w64 (n := (q : Int) + 1) (by omega), Int.natCast_add, Int.natCast_one]
        omega
      · (repeat (refine impH.cons0 (by first | (simp only [go_sem, Nat.reduceLT, hget_hset_self]; done) | (simp only [go_sem, Nat.reduceLT, hget_hset_self]; rfl)) (by simp) ?_ ?_; · exact SegLe.flat (Nat.le_refl _) id (by first | exact .inr rfl | exact .inl rfl) fun z hz => ⟨by first | rfl | exact dC_zero hz | exact dC_cl (by rfl) (by rfl) (by rfl) hz, by first | exact shC_flat _ _ | exact brC_flat _ hz | exact pair_flat _ _ hz | exact cellC_flat _ _ | exact dC_flat _ _ | exact stC_flat _ _ | exact cl_flat (l := [_, _, _, _, _]) (by simp [SV.flat]) hz | exact cl_flat (l := [_, _, _]) (by simp [SV.flat]) hz | trivial⟩)); exact impH.base0 (by first | exact hok | exact hok_set hok (fun k hk => stC_flat _ _) | exact hok_set hok (fun k hk => shC_flat _ _)) (by simp) (by first | (simp only [go_sem, HExt_cons]; done) | (simp only [go_sem, Nat.reduceBEq, Nat.reduceLT, Nat.reduceLeDiff, Nat.reduceAdd, Nat.reduceMul, Nat.reduceSub, Nat.reduceMod, Nat.reduceDiv, Nat.reduceEqDiff, Int.reduceToNat, reduceIte, reduceCtorEq, Int.reduceLE, Int.reduceLT, Int.reduceEq, Int.reduceNeg, Int.reduceAdd, Int.reduceSub, Int.reduceMul, HExt_cons]; exact HExt.rfl))
    · have hq' : q = L.length := by omega
      subst hq'
      refine T_drawG hti 4 [2, 3] (.b 0 0 (.b 2 1 (.b 4 2 (.b 4 3 (.f) .o) .o) (.b 4 2 (.b 2 1 (.b 4 3 (.f) .o) .o) .o)) .o) _ _ (by kernel_rfl) (by kernel_rfl) ?_
      simp only [go_sem, Nat.reduceLT, reduceIte]
end
end Go.Proofs.Ytpcnhenenjblpaa.V
