/- Part 1 of the texts that this proof stands on: a symbolic walk over the program, what its functions and the reference's do, plain laws. -/
import Derived.Test.YtckefhnobflhcaaDoorV13
import Derived.Test.YtckefhnobflhcaaDoorTi
set_option linter.all false

/- Sheets as plain data, and as they lie in memory. -/
namespace Go.Proofs.YtckefhnobflhcaaDoor.V

theorem fn_lt {f n : Nat} {xs ys : List SV} (h1 : ∀ v ∈ xs, v.lt n) (h2 : ∀ v ∈ ys, v.lt n) : (SV.fn f xs.length (cl xs) ys.length (cl ys)).lt n := ⟨cl_lt h1, cl_lt h2⟩

theorem lt_flat {m k : Nat} {vs : List SV} (hk : vs.length = k) (h : ∀ v ∈ vs, v.flat) : (SV.agg k (cl vs)).lt m := hk ▸ cl_lt fun v hv => (h v hv).below m

/-- A sheet: sides, water, dye, wax. -/
structure Sh where
  wide : Int
  high : Int
  wet : Int → Int → Int
  dye : Int → Int → Int → Int
  wax : Int → Int

/-- All numbers fit. -/
structure ShR (S : Sh) : Prop where
  wide : -128 ≤ S.wide ∧ S.wide < 128
  high : -128 ≤ S.high ∧ S.high < 128
  wet : ∀ y x, -32768 ≤ S.wet y x ∧ S.wet y x < 32768
  dye : ∀ y x i, -32768 ≤ S.dye y x i ∧ S.dye y x i < 32768
  wax : ∀ y, 0 ≤ S.wax y ∧ S.wax y < 256

/-- Cells that hold a sheet. -/
structure ShF (F : Nat → SV) (S : Sh) : Prop where
  R : ShR S
  wide : F 0 = .int .i8 S.wide
  high : F 1 = .int .i8 S.high
  wet : ∀ y x : Int, 0 ≤ y → y < 8 → 0 ≤ x → x < 8 → F (2 + y.toNat * 8 + x.toNat) = .int .i16 (S.wet y x)
  dye : ∀ y x i : Int, 0 ≤ y → y < 8 → 0 ≤ x → x < 8 → 0 ≤ i → i < 3 → F (66 + y.toNat * 24 + x.toNat * 3 + i.toNat) = .int .i16 (S.dye y x i)
  wax : ∀ y : Int, 0 ≤ y → y < 8 → F (258 + y.toNat) = .int .u8 (S.wax y)
def ShAt (s : Seg) (o : Nat) (S : Sh) : Prop := o + 266 ≤ s.n ∧ ShF (fun j => s.c (o + j)) S

theorem ShAt.wide {s : Seg} {o : Nat} {S : Sh} (h : ShAt s o S) : s.c o = .int .i8 S.wide := h.2.wide
theorem ShAt.high {s : Seg} {o : Nat} {S : Sh} (h : ShAt s o S) : s.c (o + 1) = .int .i8 S.high := h.2.high
theorem ShAt.wet {s : Seg} {o : Nat} {S : Sh} (h : ShAt s o S) {y x : Int} (h1 : 0 ≤ y) (h2 : y < 8) (h3 : 0 ≤ x) (h4 : x < 8) : s.c (o + 2 + y.toNat * 8 + x.toNat) = .int .i16 (S.wet y x) := by
  have := h.2.wet y x h1 h2 h3 h4
  simpa only [Nat.add_assoc] using this
theorem ShAt.dye {s : Seg} {o : Nat} {S : Sh} (h : ShAt s o S) {y x i : Int} (h1 : 0 ≤ y) (h2 : y < 8) (h3 : 0 ≤ x) (h4 : x < 8) (h5 : 0 ≤ i) (h6 : i < 3) :
    s.c (o + 66 + y.toNat * 24 + x.toNat * 3 + i.toNat) = .int .i16 (S.dye y x i) := by
  have := h.2.dye y x i h1 h2 h3 h4 h5 h6
  simpa only [Nat.add_assoc] using this
theorem ShAt.wax {s : Seg} {o : Nat} {S : Sh} (h : ShAt s o S) {y : Int} (h1 : 0 ≤ y) (h2 : y < 8) : s.c (o + 258 + y.toNat) = .int .u8 (S.wax y) := by
  have := h.2.wax y h1 h2
  simpa only [Nat.add_assoc] using this

theorem upd_far {c : Nat → SV} {o z : Nat} {v : SV} (h : z ≠ o) : upd c o v z = c z := by simp [upd, h]
theorem cl_flat {l : List SV} (h : ∀ v ∈ l, v.flat) {k : Nat} (hk : k < l.length) : (cl l k).flat := by
  rw [cl_eq, List.getElem?_eq_getElem hk]; exact h _ (List.getElem_mem hk)
theorem ShAt.flat {s : Seg} {o : Nat} {S : Sh} (h : ShAt s o S) {z : Nat} (h1 : o ≤ z) (h2 : z < o + 266) : (s.c z).flat := by
  obtain ⟨d, rfl⟩ : ∃ d, z = o + d := ⟨z - o, by omega⟩
  obtain ⟨hl, R, a1, a2, a3, a4, a5⟩ := h
  rcases (by omega : d = 0 ∨ d = 1 ∨ (2 ≤ d ∧ d < 66) ∨ (66 ≤ d ∧ d < 258) ∨ 258 ≤ d) with h | h | h | h | h
  · subst h; rw [show s.c (o + 0) = _ from a1]; trivial
  · subst h; rw [show s.c (o + 1) = _ from a2]; trivial
  · have := a3 (((d - 2) / 8 : Nat) : Int) (((d - 2) % 8 : Nat) : Int) (by omega) (by omega) (by omega) (by omega)
    simp only [Int.toNat_natCast] at this
    rw [show o + d = o + (2 + (d - 2) / 8 * 8 + (d - 2) % 8) by omega, this]; trivial
  · have := a4 (((d - 66) / 24 : Nat) : Int) (((d - 66) % 24 / 3 : Nat) : Int) (((d - 66) % 3 : Nat) : Int) (by omega) (by omega) (by omega) (by omega) (by omega) (by omega)
    simp only [Int.toNat_natCast] at this
    rw [show o + d = o + (66 + (d - 66) / 24 * 24 + (d - 66) % 24 / 3 * 3 + (d - 66) % 3) by omega, this]; trivial
  · have := a5 ((d - 258 : Nat) : Int) (by omega) (by omega)
    simp only [Int.toNat_natCast] at this
    rw [show o + d = o + (258 + (d - 258)) by omega, this]; trivial
theorem ShAt.below {sn : Nat} {c sc : Nat → SV} {r : Bool} {w : Option (Nat × Nat)} {o m : Nat} {S : Sh} (h : ShAt ⟨sn, c, r, w⟩ o S) (ho : ∀ z, z < o ∨ o + 266 ≤ z → c z = sc z) (hl : ∀ z, z < sn → (sc z).lt m) : ∀ z, z < sn → (c z).lt m := by
  intro z hz
  rcases (by omega : (z < o ∨ o + 266 ≤ z) ∨ (o ≤ z ∧ z < o + 266)) with h1 | ⟨h1, h2⟩
  · rw [ho z h1]; exact hl z hz
  · exact (h.flat h1 h2).below m

theorem w64 {n : Int} (h : -9223372036854775808 ≤ n ∧ n < 9223372036854775808) : IntKind.i64.wrap n = n := by rw [IntKind.wrap_i64]; omega
theorem w8 {n : Int} (h : -128 ≤ n ∧ n < 128) : IntKind.i8.wrap n = n := by simp [IntKind.wrap, IntKind.bits, IntKind.signed]; omega
def zeroC (j : Nat) : SV := if j < 2 then .int .i8 0 else if j < 258 then .int .i16 0 else .int .u8 0
theorem lt_aggF {k m : Nat} {F : Nat → SV} (h : ∀ j, j < k → (F j).flat) : (SV.agg k F).lt m := fun j hj => (h j hj).below m
@[go_sem] theorem mkAgg_266 (F : Nat → SV) : mkAgg 266 F = .agg 266 F := rfl
theorem SV.flat.one {v : SV} (h : v.flat) : v.one := by cases v <;> first | trivial | exact h.elim
theorem ShF.flat {F : Nat → SV} {S : Sh} (h : ShF F S) {z : Nat} (hz : z < 266) : (F z).flat := by
  have := ShAt.flat (s := ⟨266, F, true, none⟩) (o := 0) (S := S) ⟨by simp, by simpa using h⟩ (Nat.zero_le z) (by simpa using hz)
  exact this
theorem ShF.ones {F : Nat → SV} {S : Sh} (h : ShF F S) : V.ones (.agg 266 F) = True := eq_true fun j hj => (h.flat hj).one

abbrev spot (x y : Int) : SV := .agg 2 (cl [.int .i8 x, .int .i8 y])

/-- Has a sheet a cell? -/
def hasB (S : Sh) (x y : Int) : Bool := ((decide (0 ≤ x) && decide (x < S.wide)) && decide (0 ≤ y)) && decide (y < S.high)
def waxB (S : Sh) (x y : Int) : Bool := decide (bitsI .and .u8 (shrI .u8 (S.wax y) x) 1 = 1)

section
variable (cx : Cx) (h : List (Nat × Seg)) (n : Nat)

theorem has_Q (i o : Nat) (s : Seg) (S : Sh) (x y : Int) (hs : hget h i = some s) (hi : i < n) (hS : ShAt s o S) :
    CallQ Tryd.prog cx 42 [.ptr i o, spot x y] h n (.bool (hasB S x y)) := by
  have hne : (n == i) = false := by simp; omega
  have hlen := hS.1
  refine callQ_of_T (P := Tryd.prog) hti (nt := 31) (rs := [.tmp 4]) rfl rfl Tryd.call42 Tryd.func42 rfl _ (by simp only [go_sem, and_self]) (Nat.le_of_ble_eq_true rfl) _ (by first | exact trivial | (refine lt_flat rfl ?_; simp [SV.flat]; done) | simp only [go_sem]) fun hok => ?_
  simp only [go_sem, Nat.reduceBEq, Nat.reduceLT]
  refine T_draw hti _ _ (by kernel_rfl) (by kernel_rfl) ?_
  simp only [go_sem, Nat.reduceBEq, Nat.reduceLT, Nat.reduceLeDiff, reduceCtorEq, hne, hs, hS.wide, hS.high, HExt_cons, SV.bool.injEq, decide_eq_true_eq, decide_eq_false_iff_not, hasB]
  refine ⟨fun h1 => ⟨by omega, fun h2 => ⟨fun h3 => ⟨by omega, ?_⟩, fun h3 => ?_⟩, fun h2 => ?_⟩, fun h1 => ?_⟩ <;> simp [*]
theorem waxed_Q (i o : Nat) (s : Seg) (S : Sh) (x y : Int) (hs : hget h i = some s) (hi : i < n) (hS : ShAt s o S) (hx : 0 ≤ x) (hy : 0 ≤ y) (hy8 : y < 8) :
    CallQ Tryd.prog cx 43 [.ptr i o, spot x y] h n (.bool (waxB S x y)) := by
  have hne : (n == i) = false := by simp; omega
  have hlen := hS.1
  refine callQ_of_T (P := Tryd.prog) hti (nt := 17) (rs := [.tmp 4]) rfl rfl Tryd.call43 Tryd.func43 rfl _ (by simp only [go_sem, and_self]) (Nat.le_of_ble_eq_true rfl) _ (by first | exact trivial | (refine lt_flat rfl ?_; simp [SV.flat]; done) | simp only [go_sem]) fun hok => ?_
  simp only [go_sem, Nat.reduceBEq, Nat.reduceLT]
  refine T_draw hti _ _ (by kernel_rfl) (by kernel_rfl) ?_
  simp only [go_sem, Nat.reduceBEq, Nat.reduceLT, Nat.reduceLeDiff, reduceCtorEq, hne, hs, hS.wax hy hy8, HExt_cons, SV.bool.injEq, waxB, hx, hy, hy8]
  omega
theorem wet_Q (i o : Nat) (s : Seg) (S : Sh) (x y : Int) (hs : hget h i = some s) (hi : i < n) (hS : ShAt s o S) (hx : 0 ≤ x) (hx8 : x < 8) (hy : 0 ≤ y) (hy8 : y < 8) :
    CallQ Tryd.prog cx 44 [.ptr i o, spot x y] h n (.int .i64 (S.wet y x)) := by
  have hne : (n == i) = false := by simp; omega
  have hlen := hS.1
  refine callQ_of_T (P := Tryd.prog) hti (nt := 16) (rs := [.tmp 4]) rfl rfl Tryd.call44 Tryd.func44 rfl _ (by simp only [go_sem, and_self]) (Nat.le_of_ble_eq_true rfl) _ (by first | exact trivial | (refine lt_flat rfl ?_; simp [SV.flat]; done) | simp only [go_sem]) fun hok => ?_
  simp only [go_sem, Nat.reduceBEq, Nat.reduceLT]
  refine T_draw hti _ _ (by kernel_rfl) (by kernel_rfl) ?_
  simp only [go_sem, Nat.reduceBEq, Nat.reduceLT, Nat.reduceLeDiff, reduceCtorEq, hne, hs, hS.wet hy hy8 hx hx8, HExt_cons, hx, hx8, hy, hy8]
  refine ⟨by omega, ?_⟩
  rw [w64]
  have := hS.2.R.wet y x
  omega

end
end Go.Proofs.YtckefhnobflhcaaDoor.V

/- Neighbours of a cell: what the program's code shows of them. -/
namespace Go.Proofs.YtckefhnobflhcaaDoor.V

/-- The spots on the four sides. -/
def besideL (x y : Int) : List (Int × Int) := [(x, IntKind.i8.wrap (y - 1)), (IntKind.i8.wrap (x + 1), y), (x, IntKind.i8.wrap (y + 1)), (IntKind.i8.wrap (x - 1), y)]

section
variable (cx : Cx) (h : List (Nat × Seg)) (n : Nat)

end
end Go.Proofs.YtckefhnobflhcaaDoor.V

/- Neighbours, giving, running, drying: what the program's code does to a sheet. -/
namespace Go.Proofs.YtckefhnobflhcaaDoor.V

/-- Sides of a sheet that has no more than 8 by 8 cells. -/
def Small (S : Sh) : Prop := 1 ≤ S.wide ∧ S.wide ≤ 8 ∧ 1 ≤ S.high ∧ S.high ≤ 8
/-- The neighbours of a cell. -/
def nbB (S : Sh) (x y : Int) : Bool := !hasB S x y || waxB S x y
def nb (S : Sh) (x y : Int) : List (Int × Int) := (besideL x y).filter fun a => !nbB S a.1 a.2
section
variable (cx : Cx) (h : List (Nat × Seg)) (n : Nat)

end

/-! ### Changes of a sheet -/
def Sh.setDye (S : Sh) (y x i v : Int) : Sh := { S with dye := fun y' x' i' => if y' = y ∧ x' = x ∧ i' = i then v else S.dye y' x' i' }
def Sh.setWet (S : Sh) (y x v : Int) : Sh := { S with wet := fun y' x' => if y' = y ∧ x' = x then v else S.wet y' x' }
theorem ShAt.dyeN {s : Seg} {o : Nat} {S : Sh} (h : ShAt s o S) {y x : Int} (k : Nat) (h1 : 0 ≤ y) (h2 : y < 8) (h3 : 0 ≤ x) (h4 : x < 8) (h6 : k < 3) :
    s.c (o + 66 + y.toNat * 24 + x.toNat * 3 + k) = .int .i16 (S.dye y x k) := by
  have := h.dye h1 h2 h3 h4 (i := (k : Int)) (by omega) (by omega)
  simpa using this
theorem ShAt.setDye {sn : Nat} {c : Nat → SV} {r : Bool} {w : Option (Nat × Nat)} {o : Nat} {S : Sh} (h : ShAt ⟨sn, c, r, w⟩ o S) {y x v : Int} (k : Nat) (h1 : 0 ≤ y) (h2 : y < 8) (h3 : 0 ≤ x) (h4 : x < 8) (h6 : k < 3) (hv : -32768 ≤ v ∧ v < 32768) :
    ShAt ⟨sn, upd c (o + 66 + y.toNat * 24 + x.toNat * 3 + k) (.int .i16 v), r, w⟩ o (S.setDye y x k v) := by
  obtain ⟨hl, ⟨R1, R2, R3, R4, R5⟩, a1, a2, a3, a4, a5⟩ := h
  have ne : ∀ z, o + z ≠ o + 66 + y.toNat * 24 + x.toNat * 3 + k → upd c (o + 66 + y.toNat * 24 + x.toNat * 3 + k) (.int .i16 v) (o + z) = c (o + z) := fun z hz => by simp [upd, hz]
  refine ⟨hl, ⟨R1, R2, R3, fun y' x' i' => ?_, R5⟩, ?_, ?_, fun y' x' b1 b2 b3 b4 => ?_, fun y' x' i' b1 b2 b3 b4 b5 b6 => ?_, fun y' b1 b2 => ?_⟩
  · simp only [Sh.setDye]; split
    · exact hv
    · exact R4 _ _ _
  · exact (ne 0 (by omega)).trans a1
  · exact (ne 1 (by omega)).trans a2
  · exact (ne _ (by omega)).trans (a3 y' x' b1 b2 b3 b4)
  · simp only [Sh.setDye]
    split
    · rename_i he
      obtain ⟨rfl, rfl, rfl⟩ := he
      simp [upd, Nat.add_assoc]
    · rename_i he
      exact (ne _ (by omega)).trans (a4 y' x' i' b1 b2 b3 b4 b5 b6)
  · exact (ne _ (by omega)).trans (a5 y' b1 b2)
theorem ShAt.setWet {sn : Nat} {c : Nat → SV} {r : Bool} {w : Option (Nat × Nat)} {o : Nat} {S : Sh} (h : ShAt ⟨sn, c, r, w⟩ o S) {y x v : Int} (h1 : 0 ≤ y) (h2 : y < 8) (h3 : 0 ≤ x) (h4 : x < 8) (hv : -32768 ≤ v ∧ v < 32768) :
    ShAt ⟨sn, upd c (o + 2 + y.toNat * 8 + x.toNat) (.int .i16 v), r, w⟩ o (S.setWet y x v) := by
  obtain ⟨hl, ⟨R1, R2, R3, R4, R5⟩, a1, a2, a3, a4, a5⟩ := h
  have ne : ∀ z, o + z ≠ o + 2 + y.toNat * 8 + x.toNat → upd c (o + 2 + y.toNat * 8 + x.toNat) (.int .i16 v) (o + z) = c (o + z) := fun z hz => by simp [upd, hz]
  refine ⟨hl, ⟨R1, R2, fun y' x' => ?_, R4, R5⟩, ?_, ?_, fun y' x' b1 b2 b3 b4 => ?_, fun y' x' i' b1 b2 b3 b4 b5 b6 => ?_, fun y' b1 b2 => ?_⟩
  · simp only [Sh.setWet]; split
    · exact hv
    · exact R3 _ _
  · exact (ne 0 (by omega)).trans a1
  · exact (ne 1 (by omega)).trans a2
  · simp only [Sh.setWet]
    split
    · rename_i he
      obtain ⟨rfl, rfl⟩ := he
      simp [upd, Nat.add_assoc]
    · rename_i he
      exact (ne _ (by omega)).trans (a3 y' x' b1 b2 b3 b4)
  · exact (ne _ (by omega)).trans (a4 y' x' i' b1 b2 b3 b4 b5 b6)
  · exact (ne _ (by omega)).trans (a5 y' b1 b2)

section
variable (cx : Cx) (h : List (Nat × Seg)) (n : Nat)

end
end Go.Proofs.YtckefhnobflhcaaDoor.V

/- Plain laws of sheets: what a unit given, a round run or dried, leaves. -/
namespace Go.Proofs.YtckefhnobflhcaaDoor.V

/-- Water and dye are within their bounds. -/
structure Good (S : Sh) : Prop where
  small : Small S
  wet : ∀ y x : Int, 0 ≤ y → y < 8 → 0 ≤ x → x < 8 → 0 ≤ S.wet y x ∧ S.wet y x ≤ 200
  dye : ∀ y x i : Int, 0 ≤ y → y < 8 → 0 ≤ x → x < 8 → 0 ≤ i → i < 3 → 0 ≤ S.dye y x i ∧ S.dye y x i ≤ 1000

section
variable {S : Sh} {w fx fy tx ty : Int} (hw : 0 < w) (hfx : 0 ≤ fx) (hfx8 : fx < 8) (hfy : 0 ≤ fy) (hfy8 : fy < 8) (htx : 0 ≤ tx) (htx8 : tx < 8) (hty : 0 ≤ ty) (hty8 : ty < 8) (hne : ¬ (ty = fy ∧ tx = fx))

end

/-- Sides and wax are the same. -/
structure Alike' (S S' : Sh) : Prop where
  wide : S'.wide = S.wide
  high : S'.high = S.high
  wax : S'.wax = S.wax
theorem Alike'.refl (S : Sh) : Alike' S S := ⟨rfl, rfl, rfl⟩
theorem Alike'.trans {A B C : Sh} (h : Alike' A B) (k : Alike' B C) : Alike' A C := ⟨k.wide.trans h.wide, k.high.trans h.high, k.wax.trans h.wax⟩
theorem Alike'.hasB {S S' : Sh} (h : Alike' S S') (x y : Int) : V.hasB S' x y = V.hasB S x y := by simp [V.hasB, h.wide, h.high]
theorem Alike'.waxB {S S' : Sh} (h : Alike' S S') (x y : Int) : V.waxB S' x y = V.waxB S x y := by simp [V.waxB, h.wax]
theorem Alike'.nb {S S' : Sh} (h : Alike' S S') (x y : Int) : V.nb S' x y = V.nb S x y := by
  simp only [V.nb, V.nbB, h.hasB, h.waxB]

section
variable {S : Sh} {fx fy tx ty : Int} (hG : Good S) (hfx : 0 ≤ fx) (hfx8 : fx < 8) (hfy : 0 ≤ fy) (hfy8 : fy < 8) (htx : 0 ≤ tx) (htx8 : tx < 8) (hty : 0 ≤ ty) (hty8 : ty < 8) (h2 : 2 ≤ S.wet fy fx - S.wet ty tx)
include hG hfx hfx8 hfy hfy8 htx htx8 hty hty8 h2

end

end Go.Proofs.YtckefhnobflhcaaDoor.V

/- Running and drying: the walk. -/
namespace Go.Proofs.YtckefhnobflhcaaDoor.V

theorem pair_flat (x y : Int) {z : Nat} (hz : z < 2) : (cl [SV.int .i8 x, SV.int .i8 y] z).flat := cl_flat (l := [_, _]) (fun v hv => by simp at hv; rcases hv with rfl | rfl <;> trivial) hz

section
variable (cx : Cx) (h : List (Nat × Seg)) (n : Nat)

end
end Go.Proofs.YtckefhnobflhcaaDoor.V

/- Plain laws of drying. -/
namespace Go.Proofs.YtckefhnobflhcaaDoor.V

/-- Cells before number j. -/
def before (W j : Nat) (y x : Int) : Prop := ∃ k, k < j ∧ y = ((k / W : Nat) : Int) ∧ x = ((k % W : Nat) : Int)
end Go.Proofs.YtckefhnobflhcaaDoor.V

/- Validity of a sheet, its water: the walk of the program's own. -/
namespace Go.Proofs.YtckefhnobflhcaaDoor.V

/-- A place of a sheet is as it should be. -/
def CellOk (S : Sh) (x y : Int) : Prop :=
  (waxB S x y = true → hasB S x y = true) ∧ (0 ≤ S.wet y x ∧ S.wet y x ≤ 200) ∧ (∀ i : Int, 0 ≤ i → i < 3 → 0 ≤ S.dye y x i ∧ S.dye y x i ≤ 1000) ∧
    ((hasB S x y = true ∧ waxB S x y = false) ∨ (S.wet y x = 0 ∧ S.dye y x 0 = 0 ∧ S.dye y x 1 = 0 ∧ S.dye y x 2 = 0))
def Valid (S : Sh) : Prop := Small S ∧ ∀ y x : Int, 0 ≤ y → y < 8 → 0 ≤ x → x < 8 → CellOk S x y
open Classical in
noncomputable def validB (S : Sh) : Bool := decide (Valid S)
theorem validB_true {S : Sh} (h : Valid S) : validB S = true := by simp [validB, h]
theorem validB_false {S : Sh} (h : ¬ Valid S) : validB S = false := by simp [validB, h]
theorem Valid.good {S : Sh} (h : Valid S) : Good S := ⟨h.1, fun y x a b c d => (h.2 y x a b c d).2.1, fun y x i a b c d e f => (h.2 y x a b c d).2.2.1 i e f⟩

section
variable (cx : Cx) (h : List (Nat × Seg)) (n : Nat)

theorem within_Q (a lo hi : Int) : CallQ Tryd.prog cx 41 [.int .i64 a, .int .i64 lo, .int .i64 hi] h n (.bool (decide (lo ≤ a ∧ a ≤ hi))) := by
  refine callQ_of_T (P := Tryd.prog) hti (nt := 15) (rs := [.tmp 6]) rfl rfl Tryd.call41 Tryd.func41 rfl _ (by simp only [go_sem, and_self]) (Nat.le_of_ble_eq_true rfl) _ (by first | exact trivial | (refine lt_flat rfl ?_; simp [SV.flat]; done) | simp only [go_sem]) fun hok => ?_
  simp only [go_sem, Nat.reduceBEq, Nat.reduceLT, HExt_cons, SV.bool.injEq, decide_eq_true_eq, decide_eq_false_iff_not]
  constructor <;> intro h1 <;> simp [h1]
theorem dye_Q (i o : Nat) (s : Seg) (S : Sh) (x y : Int) (hs : hget h i = some s) (hi : i < n) (hS : ShAt s o S) (hx : 0 ≤ x) (hx8 : x < 8) (hy : 0 ≤ y) (hy8 : y < 8) :
    CallQ Tryd.prog cx 45 [.ptr i o, spot x y] h n (.agg 3 (cl [.int .i16 (S.dye y x 0), .int .i16 (S.dye y x 1), .int .i16 (S.dye y x 2)])) := by
  have hne : (n == i) = false := by simp; omega
  have hlen := hS.1
  have d0 : s.c (o + 66 + y.toNat * 24 + x.toNat * 3) = .int .i16 (S.dye y x 0) := hS.dyeN 0 hy hy8 hx hx8 (by omega)
  have d1 : s.c (o + 66 + y.toNat * 24 + x.toNat * 3 + 1) = .int .i16 (S.dye y x 1) := hS.dyeN 1 hy hy8 hx hx8 (by omega)
  have d2 : s.c (o + 66 + y.toNat * 24 + x.toNat * 3 + 2) = .int .i16 (S.dye y x 2) := hS.dyeN 2 hy hy8 hx hx8 (by omega)
  refine callQ_of_T (P := Tryd.prog) hti (nt := 15) (rs := [.cell 4 26]) rfl rfl Tryd.call45 Tryd.func45 rfl _ (by simp only [go_sem, and_self]) (Nat.le_of_ble_eq_true rfl) _ (by first | exact trivial | (refine lt_flat rfl ?_; simp [SV.flat]; done) | simp only [go_sem]) fun hok => ?_
  simp only [go_sem, Nat.reduceBEq, Nat.reduceLT, Nat.reduceEqDiff, reduceIte]
  refine T_drawT hti 10 _ _ (by kernel_rfl) (by kernel_rfl) ?_
  have hnk : ∀ k, (n + k == i) = false := fun k => by simp; omega
  simp only [go_sem, Nat.reduceBEq, Nat.reduceLT, Nat.reduceLeDiff, reduceIte, reduceCtorEq, hne, hnk, hs, hx, hx8, hy, hy8, d0, d1, d2, HExt_cons]
  omega

theorem valid_Q (F : Nat → SV) (S : Sh) (hF : ShF F S) : CallQ Tryd.prog cx 22 [.agg 266 F] h n (.bool (validB S)) := by
  have hS : ShAt ⟨266, F, true, none⟩ 0 S := ⟨by simp, by simpa using hF⟩
  have hR := hF.R
  have wW := w64 (n := S.wide) (by have := hR.wide; omega)
  have wH := w64 (n := S.high) (by have := hR.high; omega)
  refine callQ_of_T (P := Tryd.prog) hti (nt := 77) (rs := [.tmp 2]) rfl rfl Tryd.call22 Tryd.func22 rfl _ (by simp only [go_sem, and_self]) (Nat.le_of_ble_eq_true rfl) _ (by first | exact trivial | (refine lt_flat rfl ?_; simp [SV.flat]; done) | simp only [go_sem]) fun hok => ?_
  simp only [go_sem, Nat.reduceBEq, Nat.reduceLT, Nat.reduceLeDiff, reduceCtorEq, hF.wide, hF.high, wW, wH]
  refine (within_Q _ _ _ S.wide 1 8).A ?_
  by_cases hw : 1 ≤ S.wide ∧ S.wide ≤ 8
  rotate_left
  · simp only [go_sem, Nat.reduceBEq, Nat.reduceLT, hF.wide, hF.high, wW, wH, decide_eq_false hw, Bool.not_false, HExt_cons, SV.bool.injEq]
    exact (validB_false fun hv => hw ⟨hv.1.1, hv.1.2.1⟩).symm
  simp only [go_sem, Nat.reduceBEq, Nat.reduceLT, Nat.reduceLeDiff, reduceCtorEq, hF.wide, hF.high, wW, wH, decide_eq_true hw, Bool.not_true]
  refine (within_Q _ _ _ S.high 1 8).A ?_
  by_cases hh : 1 ≤ S.high ∧ S.high ≤ 8
  rotate_left
  · simp only [go_sem, Nat.reduceBEq, Nat.reduceLT, decide_eq_false hh, Bool.not_false, HExt_cons, SV.bool.injEq]
    exact (validB_false fun hv => hh ⟨hv.1.2.2.1, hv.1.2.2.2⟩).symm
  simp only [go_sem, Nat.reduceBEq, Nat.reduceLT, decide_eq_true hh, Bool.not_true]
  have hsm : Small S := ⟨hw.1, hw.2, hh.1, hh.2⟩
  refine T_lp (ι := { y : Nat // y ≤ 8 ∧ ∀ y' x' : Int, 0 ≤ y' → y' < y → 0 ≤ x' → x' < 8 → CellOk S x' y' })
    (fun y => ([(1, .ptr n 0), (21, .int .i8 y.1)], (n, ⟨266, F, true, none⟩) :: h, n + 1)) (fun y => 8 - y.1) ⟨0, by omega, fun _ _ _ _ => by omega⟩ ?_ ?_
  · refine Imp.id (by simp) ?_ ?_
    · simp only [go_sem, Nat.reduceBEq]
      omega
    · exact impH.cons0 (by simp only [go_sem]) (by simp) (SegLe.flat (Nat.le_refl _) id (.inr rfl) fun z hz => ⟨rfl, hF.flat hz⟩) (impH.base0 hok (by simp) (HExt.rfl.cons (Nat.le_refl n)))
  · rintro ⟨y, hy, hally⟩
    try simp only at hy hally
    simp only [go_sem, Nat.reduceBEq, Nat.reduceLT, decide_eq_true_eq, decide_eq_false_iff_not]
    refine ⟨fun h1 => ?_, fun h1 => ?_⟩
    · refine T_lp (ι := { x : Nat // x ≤ 8 ∧ ∀ x' : Int, 0 ≤ x' → x' < x → CellOk S x' y })
        (fun x => ([(1, .ptr n 0), (3, .int .i8 y), (21, .int .i8 y), (24, .int .i8 x.1)], (n, ⟨266, F, true, none⟩) :: h, n + 1)) (fun x => 8 - x.1) ⟨0, by omega, fun _ _ => by omega⟩ ?_ ?_
      · refine Imp.id (by simp) ?_ ?_
        · simp only [go_sem, Nat.reduceBEq]
          omega
        · exact impH.cons0 (by simp only [go_sem]) (by simp) (SegLe.flat (Nat.le_refl _) id (.inr rfl) fun z hz => ⟨rfl, hF.flat hz⟩) (impH.base0 hok (by simp) (HExt.rfl.cons (Nat.le_refl n)))
      · rintro ⟨x, hx, hallx⟩
        try simp only at hx hallx
        simp only [go_sem, Nat.reduceBEq, Nat.reduceLT, Nat.reduceLeDiff, Nat.reduceEqDiff, reduceIte, decide_eq_true_eq, decide_eq_false_iff_not]
        refine ⟨fun h2 => ?_, fun h2 => ?_⟩
        · have x0 : (0 : Int) ≤ x := by omega
          have y0 : (0 : Int) ≤ y := by omega
          have hbad : ¬ CellOk S x y → validB S = false := fun hc => validB_false fun hv => hc (hv.2 y x y0 h1 x0 h2)
          refine (has_Q _ _ _ n 0 _ S x y (by simp only [go_sem]) (by omega) hS).A ?_
          cases hb : hasB S x y <;> cases wb : waxB S x y
          · have hwh : waxB S x y = true → hasB S x y = true := fun h => by rw [wb] at h; cases h
            simp only [go_sem, Nat.reduceBEq, Nat.reduceLT, Bool.not_true, Bool.not_false, decide_eq_true_eq, decide_eq_false_iff_not]
            refine (waxed_Q _ _ _ n 0 _ S x y (by simp only [go_sem]) (by omega) hS x0 y0 h1).A ?_
            simp only [go_sem, Nat.reduceBEq, Nat.reduceLT, Bool.not_true, Bool.not_false, decide_eq_true_eq, decide_eq_false_iff_not, wb]
            refine (wet_Q _ _ _ n 0 _ S x y (by simp only [go_sem]) (by omega) hS x0 h2 y0 h1).A ?_
            by_cases hz : S.wet y x = 0
            rotate_left
            · simp only [go_sem, Nat.reduceBEq, Nat.reduceLT, Bool.not_true, Bool.not_false, decide_eq_true_eq, decide_eq_false_iff_not, decide_eq_false hz, HExt_cons, SV.bool.injEq]
              exact (hbad fun hc => hc.2.2.2.elim (fun h => by simp [hb, wb] at h) (fun h => hz h.1)).symm
            simp only [go_sem, Nat.reduceBEq, Nat.reduceLT, Bool.not_true, Bool.not_false, decide_eq_true_eq, decide_eq_false_iff_not, decide_eq_true hz]
            refine (dye_Q _ _ _ n 0 _ S x y (by simp only [go_sem]) (by omega) hS x0 h2 y0 h1).A ?_
            by_cases hd : S.dye y x 0 = 0 ∧ S.dye y x 1 = 0 ∧ S.dye y x 2 = 0
            rotate_left
            · have hd' : ((decide (S.dye y x 0 = 0) && decide (S.dye y x 1 = 0)) && decide (S.dye y x 2 = 0)) = false := by
                rw [Bool.eq_false_iff]; simp only [ne_eq, Bool.and_eq_true, decide_eq_true_eq]; exact fun h => hd ⟨h.1.1, h.1.2, h.2⟩
              simp only [go_sem, Nat.reduceBEq, Nat.reduceLT, Nat.reduceMod, Bool.not_true, Bool.not_false, decide_eq_true_eq, decide_eq_false_iff_not, Bool.true_and, hd', HExt_cons, SV.bool.injEq]
              exact (hbad fun hc => hc.2.2.2.elim (fun h => by simp [hb, wb] at h) (fun h => hd h.2)).symm
            simp only [go_sem, Nat.reduceBEq, Nat.reduceLT, Nat.reduceMod, Bool.not_true, Bool.not_false, decide_eq_true_eq, decide_eq_false_iff_not, Bool.true_and, decide_eq_true hd.1, decide_eq_true hd.2.1, decide_eq_true hd.2.2, Bool.and_self]
            refine (wet_Q _ _ _ n 0 _ S x y (by simp only [go_sem]) (by omega) hS x0 h2 y0 h1).A ?_
            simp only [go_sem, Nat.reduceBEq, Nat.reduceLT, Bool.not_true, Bool.not_false, decide_eq_true_eq, decide_eq_false_iff_not, hz]
            refine (within_Q _ _ _ _ _ _).A ?_
            have hwn : 0 ≤ S.wet y x ∧ S.wet y x ≤ 200 := by omega
            have hfz : (hasB S x y = true ∧ waxB S x y = false) ∨ (S.wet y x = 0 ∧ S.dye y x 0 = 0 ∧ S.dye y x 1 = 0 ∧ S.dye y x 2 = 0) := .inr ⟨hz, hd⟩
            have hwn0 : decide ((0 : Int) ≤ 0 ∧ (0 : Int) ≤ 200) = true := by decide
            simp only [go_sem, Nat.reduceBEq, Nat.reduceLT, Int.reduceLE, Bool.not_true, Bool.not_false, decide_eq_true_eq, decide_eq_false_iff_not, hwn0, hz]
            refine (dye_Q _ _ _ n 0 _ S x y (by simp only [go_sem]) (by omega) hS x0 h2 y0 h1).A ?_
            simp only [go_sem, Nat.reduceLT, Bool.not_true, Bool.not_false, decide_eq_true_eq, decide_eq_false_iff_not]
            refine T_lp (ι := { k : Nat // k ≤ 3 ∧ ∀ k' : Int, 0 ≤ k' → k' < k → 0 ≤ S.dye y x k' ∧ S.dye y x k' ≤ 1000 })
              (fun k => ([(1, .ptr n 0), (3, .int .i8 y), (21, .int .i8 y), (24, .int .i8 x), (66, .agg 3 (cl [.int .i16 (S.dye y x 0), .int .i16 (S.dye y x 1), .int .i16 (S.dye y x 2)])), (67, .int .i64 k.1)], (n, ⟨266, F, true, none⟩) :: h, n + 1)) (fun k => 3 - k.1) ⟨0, by omega, fun _ _ => by omega⟩ ?_ ?_
            · refine Imp.id (by simp) ?_ ?_
              · simp only [go_sem, Nat.reduceBEq]
                exact ⟨by omega, lt_flat (vs := [_, _, _]) rfl (by simp [SV.flat])⟩
              · exact impH.cons0 (by simp only [go_sem]) (by simp) (SegLe.flat (Nat.le_refl _) id (.inr rfl) fun z hz => ⟨rfl, hF.flat hz⟩) (impH.base0 hok (by simp) ((HExt.rfl.cons (Nat.le_refl n)).cons (by simp)))
            · rintro ⟨k, hk, hallk⟩
              try simp only at hk hallk
              simp only [go_sem, Nat.reduceBEq, Nat.reduceLT, decide_eq_true_eq, decide_eq_false_iff_not]
              refine ⟨fun h3 => ⟨by omega, ?_⟩, fun h3 => ?_⟩
              · have hcl : cl [SV.int .i16 (S.dye y x 0), .int .i16 (S.dye y x 1), .int .i16 (S.dye y x 2)] k = .int .i16 (S.dye y x k) := by
                  rcases (by omega : k = 0 ∨ k = 1 ∨ k = 2) with rfl | rfl | rfl <;> rfl
                have hdr := hR.dye y x k
                simp only [go_sem, Nat.reduceLT, hcl, w64 (n := S.dye y x k) (by omega)]
                refine (within_Q _ _ _ _ _ _).A ?_
                by_cases hdk : 0 ≤ S.dye y x k ∧ S.dye y x k ≤ 1000
                · simp only [go_sem, Nat.reduceBEq, Nat.reduceLT, decide_eq_true hdk, Bool.not_true]
                  refine ⟨⟨k + 1, by omega, fun k' a b => ?_⟩, by show 3 - (k + 1) < 3 - k; omega, ?_⟩
                  · rcases (by omega : k' < k ∨ k' = k) with h | rfl
                    · exact hallk k' a h
                    · exact hdk
                  · refine Imp.id (by simp) ?_ ?_
                    · simp only [go_sem, Nat.reduceBEq, w64 (n := (k : Int) + 1) (by omega), Int.natCast_add, Int.natCast_one]
                      exact ⟨by omega, lt_flat (vs := [_, _, _]) rfl (by simp [SV.flat])⟩
                    · exact impH.cons0 (by simp only [go_sem]) (by simp) (SegLe.flat (Nat.le_refl _) id (.inr rfl) fun z hz => ⟨rfl, hF.flat hz⟩) (impH.base0 hok (by simp) (HExt.rfl.cons (Nat.le_refl n)))
                · simp only [go_sem, Nat.reduceLT, decide_eq_false hdk, Bool.not_false, HExt_cons, SV.bool.injEq]
                  exact (hbad fun hc => hdk (hc.2.2.1 k (by omega) h3)).symm
              · have hcell : CellOk S x y := ⟨hwh, hwn, fun k' a b => hallk k' a (by omega), hfz⟩
                refine ⟨⟨x + 1, by omega, fun x' a b => ?_⟩, by show 8 - (x + 1) < 8 - x; omega, ?_⟩
                · rcases (by omega : x' < x ∨ x' = x) with h | rfl
                  · exact hallx x' a h
                  · exact hcell
                · refine Imp.id (by simp) ?_ ?_
                  · simp only [go_sem, Nat.reduceBEq, w8 (n := (x : Int) + 1) (by omega), Int.natCast_add, Int.natCast_one]
                    omega
                  · exact impH.cons0 (by simp only [go_sem]) (by simp) (SegLe.flat (Nat.le_refl _) id (.inr rfl) fun z hz => ⟨rfl, hF.flat hz⟩) (impH.base0 hok (by simp) (HExt.rfl.cons (Nat.le_refl n)))
          · simp only [go_sem, Nat.reduceBEq, Nat.reduceLT, Bool.not_true, Bool.not_false, decide_eq_true_eq, decide_eq_false_iff_not]
            refine (waxed_Q _ _ _ n 0 _ S x y (by simp only [go_sem]) (by omega) hS x0 y0 h1).A ?_
            simp only [go_sem, Nat.reduceBEq, Nat.reduceLT, Bool.not_true, Bool.not_false, decide_eq_true_eq, decide_eq_false_iff_not, wb]
            refine (has_Q _ _ _ n 0 _ S x y (by simp only [go_sem]) (by omega) hS).A ?_
            simp only [go_sem, Nat.reduceBEq, Nat.reduceLT, Bool.not_true, Bool.not_false, decide_eq_true_eq, decide_eq_false_iff_not, hb, HExt_cons, SV.bool.injEq]
            exact (hbad fun hc => by have := hc.1 wb; rw [hb] at this; cases this).symm
          · have hwh : waxB S x y = true → hasB S x y = true := fun _ => hb
            simp only [go_sem, Nat.reduceBEq, Nat.reduceLT, Bool.not_true, Bool.not_false, decide_eq_true_eq, decide_eq_false_iff_not]
            refine (waxed_Q _ _ _ n 0 _ S x y (by simp only [go_sem]) (by omega) hS x0 y0 h1).A ?_
            simp only [go_sem, Nat.reduceBEq, Nat.reduceLT, Bool.not_true, Bool.not_false, decide_eq_true_eq, decide_eq_false_iff_not, wb]
            refine (waxed_Q _ _ _ n 0 _ S x y (by simp only [go_sem]) (by omega) hS x0 y0 h1).A ?_
            simp only [go_sem, Nat.reduceBEq, Nat.reduceLT, Bool.not_true, Bool.not_false, decide_eq_true_eq, decide_eq_false_iff_not, wb]
            refine (wet_Q _ _ _ n 0 _ S x y (by simp only [go_sem]) (by omega) hS x0 h2 y0 h1).A ?_
            simp only [go_sem, Nat.reduceBEq, Nat.reduceLT, Bool.not_true, Bool.not_false, decide_eq_true_eq, decide_eq_false_iff_not]
            refine (within_Q _ _ _ _ _ _).A ?_
            by_cases hwn : 0 ≤ S.wet y x ∧ S.wet y x ≤ 200
            rotate_left
            · simp only [go_sem, Nat.reduceBEq, Nat.reduceLT, Bool.not_true, Bool.not_false, decide_eq_true_eq, decide_eq_false_iff_not, decide_eq_false hwn, HExt_cons, SV.bool.injEq]
              exact (hbad fun hc => hwn hc.2.1).symm
            have hfz : (hasB S x y = true ∧ waxB S x y = false) ∨ (S.wet y x = 0 ∧ S.dye y x 0 = 0 ∧ S.dye y x 1 = 0 ∧ S.dye y x 2 = 0) := .inl ⟨hb, wb⟩
            simp only [go_sem, Nat.reduceBEq, Nat.reduceLT, Bool.not_true, Bool.not_false, decide_eq_true_eq, decide_eq_false_iff_not, decide_eq_true hwn]
            refine (dye_Q _ _ _ n 0 _ S x y (by simp only [go_sem]) (by omega) hS x0 h2 y0 h1).A ?_
            simp only [go_sem, Nat.reduceLT, Bool.not_true, Bool.not_false, decide_eq_true_eq, decide_eq_false_iff_not]
            refine T_lp (ι := { k : Nat // k ≤ 3 ∧ ∀ k' : Int, 0 ≤ k' → k' < k → 0 ≤ S.dye y x k' ∧ S.dye y x k' ≤ 1000 })
              (fun k => ([(1, .ptr n 0), (3, .int .i8 y), (21, .int .i8 y), (24, .int .i8 x), (66, .agg 3 (cl [.int .i16 (S.dye y x 0), .int .i16 (S.dye y x 1), .int .i16 (S.dye y x 2)])), (67, .int .i64 k.1)], (n, ⟨266, F, true, none⟩) :: h, n + 1)) (fun k => 3 - k.1) ⟨0, by omega, fun _ _ => by omega⟩ ?_ ?_
            · refine Imp.id (by simp) ?_ ?_
              · simp only [go_sem, Nat.reduceBEq]
                exact ⟨by omega, lt_flat (vs := [_, _, _]) rfl (by simp [SV.flat])⟩
              · exact impH.cons0 (by simp only [go_sem]) (by simp) (SegLe.flat (Nat.le_refl _) id (.inr rfl) fun z hz => ⟨rfl, hF.flat hz⟩) (impH.base0 hok (by simp) ((HExt.rfl.cons (Nat.le_refl n)).cons (by simp)))
            · rintro ⟨k, hk, hallk⟩
              try simp only at hk hallk
              simp only [go_sem, Nat.reduceBEq, Nat.reduceLT, decide_eq_true_eq, decide_eq_false_iff_not]
              refine ⟨fun h3 => ⟨by omega, ?_⟩, fun h3 => ?_⟩
              · have hcl : cl [SV.int .i16 (S.dye y x 0), .int .i16 (S.dye y x 1), .int .i16 (S.dye y x 2)] k = .int .i16 (S.dye y x k) := by
                  rcases (by omega : k = 0 ∨ k = 1 ∨ k = 2) with rfl | rfl | rfl <;> rfl
                have hdr := hR.dye y x k
                simp only [go_sem, Nat.reduceLT, hcl, w64 (n := S.dye y x k) (by omega)]
                refine (within_Q _ _ _ _ _ _).A ?_
                by_cases hdk : 0 ≤ S.dye y x k ∧ S.dye y x k ≤ 1000
                · simp only [go_sem, Nat.reduceBEq, Nat.reduceLT, decide_eq_true hdk, Bool.not_true]
                  refine ⟨⟨k + 1, by omega, fun k' a b => ?_⟩, by show 3 - (k + 1) < 3 - k; omega, ?_⟩
                  · rcases (by omega : k' < k ∨ k' = k) with h | rfl
                    · exact hallk k' a h
                    · exact hdk
                  · refine Imp.id (by simp) ?_ ?_
                    · simp only [go_sem, Nat.reduceBEq, w64 (n := (k : Int) + 1) (by omega), Int.natCast_add, Int.natCast_one]
                      exact ⟨by omega, lt_flat (vs := [_, _, _]) rfl (by simp [SV.flat])⟩
                    · exact impH.cons0 (by simp only [go_sem]) (by simp) (SegLe.flat (Nat.le_refl _) id (.inr rfl) fun z hz => ⟨rfl, hF.flat hz⟩) (impH.base0 hok (by simp) (HExt.rfl.cons (Nat.le_refl n)))
                · simp only [go_sem, Nat.reduceLT, decide_eq_false hdk, Bool.not_false, HExt_cons, SV.bool.injEq]
                  exact (hbad fun hc => hdk (hc.2.2.1 k (by omega) h3)).symm
              · have hcell : CellOk S x y := ⟨hwh, hwn, fun k' a b => hallk k' a (by omega), hfz⟩
                refine ⟨⟨x + 1, by omega, fun x' a b => ?_⟩, by show 8 - (x + 1) < 8 - x; omega, ?_⟩
                · rcases (by omega : x' < x ∨ x' = x) with h | rfl
                  · exact hallx x' a h
                  · exact hcell
                · refine Imp.id (by simp) ?_ ?_
                  · simp only [go_sem, Nat.reduceBEq, w8 (n := (x : Int) + 1) (by omega), Int.natCast_add, Int.natCast_one]
                    omega
                  · exact impH.cons0 (by simp only [go_sem]) (by simp) (SegLe.flat (Nat.le_refl _) id (.inr rfl) fun z hz => ⟨rfl, hF.flat hz⟩) (impH.base0 hok (by simp) (HExt.rfl.cons (Nat.le_refl n)))
          · have hwh : waxB S x y = true → hasB S x y = true := fun _ => hb
            simp only [go_sem, Nat.reduceBEq, Nat.reduceLT, Bool.not_true, Bool.not_false, decide_eq_true_eq, decide_eq_false_iff_not]
            refine (waxed_Q _ _ _ n 0 _ S x y (by simp only [go_sem]) (by omega) hS x0 y0 h1).A ?_
            simp only [go_sem, Nat.reduceBEq, Nat.reduceLT, Bool.not_true, Bool.not_false, decide_eq_true_eq, decide_eq_false_iff_not, wb]
            refine (waxed_Q _ _ _ n 0 _ S x y (by simp only [go_sem]) (by omega) hS x0 y0 h1).A ?_
            simp only [go_sem, Nat.reduceBEq, Nat.reduceLT, Bool.not_true, Bool.not_false, decide_eq_true_eq, decide_eq_false_iff_not, wb]
            refine (has_Q _ _ _ n 0 _ S x y (by simp only [go_sem]) (by omega) hS).A ?_
            simp only [go_sem, Nat.reduceBEq, Nat.reduceLT, Bool.not_true, Bool.not_false, decide_eq_true_eq, decide_eq_false_iff_not, hb]
            refine (wet_Q _ _ _ n 0 _ S x y (by simp only [go_sem]) (by omega) hS x0 h2 y0 h1).A ?_
            by_cases hz : S.wet y x = 0
            rotate_left
            · simp only [go_sem, Nat.reduceBEq, Nat.reduceLT, Bool.not_true, Bool.not_false, decide_eq_true_eq, decide_eq_false_iff_not, decide_eq_false hz, HExt_cons, SV.bool.injEq]
              exact (hbad fun hc => hc.2.2.2.elim (fun h => by simp [hb, wb] at h) (fun h => hz h.1)).symm
            simp only [go_sem, Nat.reduceBEq, Nat.reduceLT, Bool.not_true, Bool.not_false, decide_eq_true_eq, decide_eq_false_iff_not, decide_eq_true hz]
            refine (dye_Q _ _ _ n 0 _ S x y (by simp only [go_sem]) (by omega) hS x0 h2 y0 h1).A ?_
            by_cases hd : S.dye y x 0 = 0 ∧ S.dye y x 1 = 0 ∧ S.dye y x 2 = 0
            rotate_left
            · have hd' : ((decide (S.dye y x 0 = 0) && decide (S.dye y x 1 = 0)) && decide (S.dye y x 2 = 0)) = false := by
                rw [Bool.eq_false_iff]; simp only [ne_eq, Bool.and_eq_true, decide_eq_true_eq]; exact fun h => hd ⟨h.1.1, h.1.2, h.2⟩
              simp only [go_sem, Nat.reduceBEq, Nat.reduceLT, Nat.reduceMod, Bool.not_true, Bool.not_false, decide_eq_true_eq, decide_eq_false_iff_not, Bool.true_and, hd', HExt_cons, SV.bool.injEq]
              exact (hbad fun hc => hc.2.2.2.elim (fun h => by simp [hb, wb] at h) (fun h => hd h.2)).symm
            simp only [go_sem, Nat.reduceBEq, Nat.reduceLT, Nat.reduceMod, Bool.not_true, Bool.not_false, decide_eq_true_eq, decide_eq_false_iff_not, Bool.true_and, decide_eq_true hd.1, decide_eq_true hd.2.1, decide_eq_true hd.2.2, Bool.and_self]
            refine (wet_Q _ _ _ n 0 _ S x y (by simp only [go_sem]) (by omega) hS x0 h2 y0 h1).A ?_
            simp only [go_sem, Nat.reduceBEq, Nat.reduceLT, Bool.not_true, Bool.not_false, decide_eq_true_eq, decide_eq_false_iff_not, hz]
            refine (within_Q _ _ _ _ _ _).A ?_
            have hwn : 0 ≤ S.wet y x ∧ S.wet y x ≤ 200 := by omega
            have hfz : (hasB S x y = true ∧ waxB S x y = false) ∨ (S.wet y x = 0 ∧ S.dye y x 0 = 0 ∧ S.dye y x 1 = 0 ∧ S.dye y x 2 = 0) := .inr ⟨hz, hd⟩
            have hwn0 : decide ((0 : Int) ≤ 0 ∧ (0 : Int) ≤ 200) = true := by decide
            simp only [go_sem, Nat.reduceBEq, Nat.reduceLT, Int.reduceLE, Bool.not_true, Bool.not_false, decide_eq_true_eq, decide_eq_false_iff_not, hwn0, hz]
            refine (dye_Q _ _ _ n 0 _ S x y (by simp only [go_sem]) (by omega) hS x0 h2 y0 h1).A ?_
            simp only [go_sem, Nat.reduceLT, Bool.not_true, Bool.not_false, decide_eq_true_eq, decide_eq_false_iff_not]
            refine T_lp (ι := { k : Nat // k ≤ 3 ∧ ∀ k' : Int, 0 ≤ k' → k' < k → 0 ≤ S.dye y x k' ∧ S.dye y x k' ≤ 1000 })
              (fun k => ([(1, .ptr n 0), (3, .int .i8 y), (21, .int .i8 y), (24, .int .i8 x), (66, .agg 3 (cl [.int .i16 (S.dye y x 0), .int .i16 (S.dye y x 1), .int .i16 (S.dye y x 2)])), (67, .int .i64 k.1)], (n, ⟨266, F, true, none⟩) :: h, n + 1)) (fun k => 3 - k.1) ⟨0, by omega, fun _ _ => by omega⟩ ?_ ?_
            · refine Imp.id (by simp) ?_ ?_
              · simp only [go_sem, Nat.reduceBEq]
                exact ⟨by omega, lt_flat (vs := [_, _, _]) rfl (by simp [SV.flat])⟩
              · exact impH.cons0 (by simp only [go_sem]) (by simp) (SegLe.flat (Nat.le_refl _) id (.inr rfl) fun z hz => ⟨rfl, hF.flat hz⟩) (impH.base0 hok (by simp) ((HExt.rfl.cons (Nat.le_refl n)).cons (by simp)))
            · rintro ⟨k, hk, hallk⟩
              try simp only at hk hallk
              simp only [go_sem, Nat.reduceBEq, Nat.reduceLT, decide_eq_true_eq, decide_eq_false_iff_not]
              refine ⟨fun h3 => ⟨by omega, ?_⟩, fun h3 => ?_⟩
              · have hcl : cl [SV.int .i16 (S.dye y x 0), .int .i16 (S.dye y x 1), .int .i16 (S.dye y x 2)] k = .int .i16 (S.dye y x k) := by
                  rcases (by omega : k = 0 ∨ k = 1 ∨ k = 2) with rfl | rfl | rfl <;> rfl
                have hdr := hR.dye y x k
                simp only [go_sem, Nat.reduceLT, hcl, w64 (n := S.dye y x k) (by omega)]
                refine (within_Q _ _ _ _ _ _).A ?_
                by_cases hdk : 0 ≤ S.dye y x k ∧ S.dye y x k ≤ 1000
                · simp only [go_sem, Nat.reduceBEq, Nat.reduceLT, decide_eq_true hdk, Bool.not_true]
                  refine ⟨⟨k + 1, by omega, fun k' a b => ?_⟩, by show 3 - (k + 1) < 3 - k; omega, ?_⟩
                  · rcases (by omega : k' < k ∨ k' = k) with h | rfl
                    · exact hallk k' a h
                    · exact hdk
                  · refine Imp.id (by simp) ?_ ?_
                    · simp only [go_sem, Nat.reduceBEq, w64 (n := (k : Int) + 1) (by omega), Int.natCast_add, Int.natCast_one]
                      exact ⟨by omega, lt_flat (vs := [_, _, _]) rfl (by simp [SV.flat])⟩
                    · exact impH.cons0 (by simp only [go_sem]) (by simp) (SegLe.flat (Nat.le_refl _) id (.inr rfl) fun z hz => ⟨rfl, hF.flat hz⟩) (impH.base0 hok (by simp) (HExt.rfl.cons (Nat.le_refl n)))
                · simp only [go_sem, Nat.reduceLT, decide_eq_false hdk, Bool.not_false, HExt_cons, SV.bool.injEq]
                  exact (hbad fun hc => hdk (hc.2.2.1 k (by omega) h3)).symm
              · have hcell : CellOk S x y := ⟨hwh, hwn, fun k' a b => hallk k' a (by omega), hfz⟩
                refine ⟨⟨x + 1, by omega, fun x' a b => ?_⟩, by show 8 - (x + 1) < 8 - x; omega, ?_⟩
                · rcases (by omega : x' < x ∨ x' = x) with h | rfl
                  · exact hallx x' a h
                  · exact hcell
                · refine Imp.id (by simp) ?_ ?_
                  · simp only [go_sem, Nat.reduceBEq, w8 (n := (x : Int) + 1) (by omega), Int.natCast_add, Int.natCast_one]
                    omega
                  · exact impH.cons0 (by simp only [go_sem]) (by simp) (SegLe.flat (Nat.le_refl _) id (.inr rfl) fun z hz => ⟨rfl, hF.flat hz⟩) (impH.base0 hok (by simp) (HExt.rfl.cons (Nat.le_refl n)))
        · have hx8 : x = 8 := by omega
          refine ⟨⟨y + 1, by omega, fun y' x' a b c d => ?_⟩, by show 8 - (y + 1) < 8 - y; omega, ?_⟩
          · rcases (by omega : y' < y ∨ y' = y) with h | rfl
            · exact hally y' x' a h c d
            · exact hallx x' c (by omega)
          · refine Imp.id (by simp) ?_ ?_
            · simp only [go_sem, Nat.reduceBEq, w8 (n := (y : Int) + 1) (by omega), Int.natCast_add, Int.natCast_one]
              omega
            · exact impH.cons0 (by simp only [go_sem]) (by simp) (SegLe.flat (Nat.le_refl _) id (.inr rfl) fun z hz => ⟨rfl, hF.flat hz⟩) (impH.base0 hok (by simp) (HExt.rfl.cons (Nat.le_refl n)))
    · simp only [go_sem, HExt_cons, SV.bool.injEq]
      exact (validB_true ⟨hsm, fun y' x' a b c d => hally y' x' a (by omega) c d⟩).symm
end
end Go.Proofs.YtckefhnobflhcaaDoor.V

/- The reference's small functions of sheets. -/
namespace Go.Proofs.YtckefhnobflhcaaDoor.V

theorem wu64 {n : Int} (h : 0 ≤ n ∧ n < 18446744073709551616) : IntKind.u64.wrap n = n := by simp [IntKind.wrap, IntKind.bits, IntKind.signed]; omega

section
variable (cx : Cx) (h : List (Nat × Seg)) (n : Nat)

theorem in_Q (a lo hi : Int) : CallQ Tryd.prog cx 34 [.int .i64 a, .int .i64 lo, .int .i64 hi] h n (.bool (decide (lo ≤ a ∧ a ≤ hi))) := by
  refine callQ_of_T (P := Tryd.prog) hti (nt := 15) (rs := [.tmp 6]) rfl rfl Tryd.call34 Tryd.func34 rfl _ (by simp only [go_sem, and_self]) (Nat.le_of_ble_eq_true rfl) _ (by first | exact trivial | (refine lt_flat rfl ?_; simp [SV.flat]; done) | simp only [go_sem]) fun hok => ?_
  simp only [go_sem, Nat.reduceBEq, Nat.reduceLT, HExt_cons, SV.bool.injEq, decide_eq_true_eq, decide_eq_false_iff_not]
  constructor <;> intro h1 <;> simp [h1]
theorem waxed2_Q (i o : Nat) (s : Seg) (S : Sh) (x y : Int) (hs : hget h i = some s) (hi : i < n) (hS : ShAt s o S) (hx : 0 ≤ x) (hx8 : x < 128) (hy : 0 ≤ y) (hy8 : y < 8) :
    CallQ Tryd.prog cx 36 [.ptr i o, spot x y] h n (.bool (waxB S x y)) := by
  have hne : (n == i) = false := by simp; omega
  have hlen := hS.1
  refine callQ_of_T (P := Tryd.prog) hti (nt := 18) (rs := [.tmp 4]) rfl rfl Tryd.call36 Tryd.func36 rfl _ (by simp only [go_sem, and_self]) (Nat.le_of_ble_eq_true rfl) _ (by first | exact trivial | (refine lt_flat rfl ?_; simp [SV.flat]; done) | simp only [go_sem]) fun hok => ?_
  simp only [go_sem, Nat.reduceBEq, Nat.reduceLT]
  refine T_draw hti _ _ (by kernel_rfl) (by kernel_rfl) ?_
  simp only [go_sem, Nat.reduceBEq, Nat.reduceLT, Nat.reduceLeDiff, reduceCtorEq, hne, hs, hS.wax hy hy8, HExt_cons, SV.bool.injEq, waxB, hx, hy, hy8, wu64 (n := x) (by omega)]
  omega
theorem is_Q (i o : Nat) (s : Seg) (S : Sh) (x y : Int) (hs : hget h i = some s) (hi : i < n) (hS : ShAt s o S) (hx : -128 ≤ x ∧ x < 128) (hy : -128 ≤ y ∧ y < 128) :
    CallQ Tryd.prog cx 35 [.ptr i o, spot x y] h n (.bool (hasB S x y)) := by
  have hne : (n == i) = false := by simp; omega
  have hlen := hS.1
  have hRw := hS.2.R.wide
  have hRh := hS.2.R.high
  refine callQ_of_T (P := Tryd.prog) hti (nt := 27) (rs := [.tmp 4]) rfl rfl Tryd.call35 Tryd.func35 rfl _ (by simp only [go_sem, and_self]) (Nat.le_of_ble_eq_true rfl) _ (by first | exact trivial | (refine lt_flat rfl ?_; simp [SV.flat]; done) | simp only [go_sem]) fun hok => ?_
  simp only [go_sem, Nat.reduceBEq, Nat.reduceLT]
  refine T_draw hti _ _ (by kernel_rfl) (by kernel_rfl) ?_
  simp only [go_sem, Nat.reduceBEq, Nat.reduceLT, Nat.reduceLeDiff, reduceCtorEq, hne, hs, hS.wide, hS.high, w64 (n := x) (by omega), w64 (n := y) (by omega), w64 (n := S.wide) (by omega), w64 (n := S.high) (by omega), w64 (n := S.wide - 1) (by omega), w64 (n := S.high - 1) (by omega)]
  refine ⟨by omega, (in_Q _ _ _ x 0 (S.wide - 1)).A ?_⟩
  simp only [go_sem, Nat.reduceBEq, Nat.reduceLT, reduceCtorEq, hne, hs, hS.wide, hS.high, w64 (n := x) (by omega), w64 (n := y) (by omega), w64 (n := S.wide) (by omega), w64 (n := S.high) (by omega), w64 (n := S.wide - 1) (by omega), w64 (n := S.high - 1) (by omega), decide_eq_true_eq, decide_eq_false_iff_not, HExt_cons, SV.bool.injEq]
  refine ⟨fun h1 => ⟨by omega, (in_Q _ _ _ y 0 (S.high - 1)).A ?_⟩, fun h1 => ?_⟩
  · simp only [go_sem, Nat.reduceBEq, Nat.reduceLT, HExt_cons, SV.bool.injEq]
    rw [Bool.eq_iff_iff]
    simp only [hasB, Bool.and_eq_true, decide_eq_true_eq]
    omega
  · symm
    rw [Bool.eq_false_iff]
    simp only [hasB, ne_eq, Bool.and_eq_true, decide_eq_true_eq]
    omega
end
end Go.Proofs.YtckefhnobflhcaaDoor.V

/- The law's copies of arrays: the walk. -/
namespace Go.Proofs.YtckefhnobflhcaaDoor.V

@[go_sem] theorem mkAgg_8 (F : Nat → SV) : mkAgg 8 F = .agg 8 F := rfl
@[go_sem] theorem mkAgg_24 (F : Nat → SV) : mkAgg 24 F = .agg 24 F := rfl
@[go_sem] theorem mkAgg_64 (F : Nat → SV) : mkAgg 64 F = .agg 64 F := rfl
@[go_sem] theorem mkAgg_192 (F : Nat → SV) : mkAgg 192 F = .agg 192 F := rfl
/-- Cells all plain. -/
def Flat (k : Nat) (F : Nat → SV) : Prop := ∀ j, j < k → (F j).flat
theorem Flat.ones {k : Nat} {F : Nat → SV} (h : Flat k F) : V.ones (.agg k F) = True := eq_true fun j hj => (h j hj).one

section
variable (cx : Cx) (h : List (Nat × Seg)) (n : Nat)

theorem toInt16A8_E (F : Nat → SV) (hF : ∀ j, j < 8 → ∃ v, F j = .int .i16 v) (K : HK) (hK : ∀ F', (∀ j, j < 8 → F' j = F j) → K (.agg 8 F') h n) : CallE Tryd.prog cx 39 [.agg 8 F] h n K := by
  have hfl : Flat 8 F := fun j hj => by obtain ⟨v, hv⟩ := hF j hj; rw [hv]; trivial
  refine CallE.imp0 (K := fun r h' n' => n ≤ n' ∧ HExt n h h' ∧ ∃ F', (∀ j, j < 8 → F' j = F j) ∧ r = .agg 8 F') ?_ ?_
  rotate_left
  · rintro hok r h' n' ⟨h0, hx, F', hF', rfl⟩
    exact ⟨.agg 8 F', h, n, Nat.le_refl _, by simp only [ren_nil], lt_aggF fun j hj => by rw [hF' j hj]; exact hfl j hj, impH.base0 hok (Nat.le_refl n) hx, hK F' hF'⟩
  refine callE_of_T (P := Tryd.prog) hti (nt := 15) (rs := [.cell 2 24]) rfl rfl Tryd.call39 Tryd.func39 rfl _ (by simp only [go_sem, and_self]) (Nat.le_of_ble_eq_true rfl) _ fun hok => ?_
  simp only [go_sem, Nat.reduceLT, Nat.reduceEqDiff, reduceIte]
  refine T_lp (ι := { q : Nat × (Nat → SV) // q.1 ≤ 8 ∧ (∀ j, j < q.1 → q.2 j = F j) ∧ Flat 8 q.2 })
    (fun q => ([(1, .ptr n 0), (2, .ptr (n + 1) 0), (3, .ptr (n + 2) 0), (4, .int .i64 q.1.1)], (n + 2, ⟨8, q.1.2, true, none⟩) :: (n + 1, ⟨8, (ti 24).z, true, none⟩) :: (n, ⟨8, F, true, none⟩) :: h, n + 3)) (fun q => 8 - q.1.1) ⟨(0, (ti 24).z), by omega, fun _ hj => by omega, fun _ _ => trivial⟩ ?_ ?_
  · refine Imp.id (by simp) ?_ ?_
    · simp only [go_sem, Nat.reduceBEq]
      omega
    · exact impH.cons0 (hget_hit _ _ _) (by simp) (SegLe.flat (Nat.le_refl _) id (.inr rfl) fun z hz => ⟨rfl, trivial⟩) (impH.cons0 ((hget_miss _ _ _ _ (by simp)).trans (hget_hit _ _ _)) (by simp) (SegLe.flat (Nat.le_refl _) id (.inr rfl) fun z hz => ⟨rfl, trivial⟩)
        (impH.cons0 (by simp only [go_sem]) (by simp) (SegLe.flat (Nat.le_refl _) id (.inr rfl) fun z hz => ⟨rfl, hfl z hz⟩) (impH.base0 hok (by simp) (((HExt.rfl.cons (Nat.le_refl n)).cons (by simp)).cons (by simp)))))
  · rintro ⟨⟨k, c⟩, hk, hc, hcf⟩
    simp only at hk hc hcf
    simp only [go_sem, Nat.reduceBEq, Nat.reduceLT, Nat.reduceLeDiff, reduceIte, decide_eq_true_eq, decide_eq_false_iff_not]
    refine ⟨fun h1 => ?_, fun h1 => ?_⟩
    · obtain ⟨v, hv⟩ := hF k (by omega)
      have hkr : (0 : Int) ≤ k ∧ (k : Int) < 8 := ⟨by omega, h1⟩
      simp only [go_sem, Nat.reduceEqDiff, reduceIte, hkr, hv]
      refine ⟨by omega, by omega, ⟨(k + 1, upd c k (.int .i16 v)), by omega, fun j hj => ?_, fun j hj => ?_⟩, by show 8 - (k + 1) < 8 - k; omega, ?_⟩
      · have hj : j < k + 1 := hj
        rcases (by omega : j < k ∨ j = k) with h | rfl
        · exact (upd_far (by omega)).trans (hc j h)
        · rw [hv]; exact upd_same _ _ _
      · rcases (by omega : j ≠ k ∨ j = k) with h | rfl
        · show (upd c k _ j).flat
          rw [upd_far h]; exact hcf j hj
        · show (upd c j _ j).flat
          rw [upd_same]; trivial
      · refine Imp.id (by simp) ?_ ?_
        · simp only [go_sem, Nat.reduceBEq, w64 (n := (k : Int) + 1) (by omega), Int.natCast_add, Int.natCast_one]
          omega
        · refine impH.cons0 (hget_hit _ _ _) (by simp) (SegLe.flat (Nat.le_refl _) id (.inr rfl) fun z hz => ⟨rfl, ?_⟩) (impH.cons0 ((hget_miss _ _ _ _ (by simp)).trans (hget_hit _ _ _)) (by simp) (SegLe.flat (Nat.le_refl _) id (.inr rfl) fun z hz => ⟨rfl, trivial⟩)
            (impH.cons0 (by simp only [go_sem]) (by simp) (SegLe.flat (Nat.le_refl _) id (.inr rfl) fun z hz => ⟨rfl, hfl z hz⟩) (impH.base0 hok (by simp) (((HExt.rfl.cons (Nat.le_refl n)).cons (by simp)).cons (by simp)))))
          rcases (by omega : z ≠ k ∨ z = k) with h | rfl
          · show (upd c k _ z).flat
            rw [upd_far h]; exact hcf z hz
          · show (upd c z _ z).flat
            rw [upd_same]; trivial
    · have hone : ones (.agg 8 fun j => c j) = True := hcf.ones
      have hk8 : k = 8 := by omega
      subst hk8
      simp only [go_sem, hone]
      exact ⟨c, hc, rfl⟩
end
end Go.Proofs.YtckefhnobflhcaaDoor.V

/- The law's copies of nested arrays: the walk. -/
namespace Go.Proofs.YtckefhnobflhcaaDoor.V
section
variable (cx : Cx) (h : List (Nat × Seg)) (n : Nat)

theorem toInt16A8A8_E (F : Nat → SV) (hF : ∀ j, j < 64 → ∃ v, F j = .int .i16 v) (K : HK) (hK : ∀ F', (∀ j, j < 64 → F' j = F j) → K (.agg 64 F') h n) : CallE Tryd.prog cx 19 [.agg 64 F] h n K := by
  have hfl : Flat 64 F := fun j hj => by obtain ⟨v, hv⟩ := hF j hj; rw [hv]; trivial
  refine CallE.imp0 (K := fun r h' n' => n ≤ n' ∧ HExt n h h' ∧ ∃ F', (∀ j, j < 64 → F' j = F j) ∧ r = .agg 64 F') ?_ ?_
  rotate_left
  · rintro hok r h' n' ⟨h0, hx, F', hF', rfl⟩
    exact ⟨.agg 64 F', h, n, Nat.le_refl _, by simp only [ren_nil], lt_aggF fun j hj => by rw [hF' j hj]; exact hfl j hj, impH.base0 hok (Nat.le_refl n) hx, hK F' hF'⟩
  refine callE_of_T (P := Tryd.prog) hti (nt := 16) (rs := [.cell 2 25]) rfl rfl Tryd.call19 Tryd.func19 rfl _ (by simp only [go_sem, and_self]) (Nat.le_of_ble_eq_true rfl) _ fun hok => ?_
  simp only [go_sem, Nat.reduceLT, Nat.reduceEqDiff, reduceIte]
  refine T_lp (ι := { q : Nat × (Nat → SV) // q.1 ≤ 8 ∧ (∀ j, j < q.1 * 8 → q.2 j = F j) ∧ Flat 64 q.2 })
    (fun q => ([(1, .ptr n 0), (2, .ptr (n + 1) 0), (3, .ptr (n + 2) 0), (4, .int .i64 q.1.1)], (n + 2, ⟨64, q.1.2, true, none⟩) :: (n + 1, ⟨64, (ti 25).z, true, none⟩) :: (n, ⟨64, F, true, none⟩) :: h, n + 3)) (fun q => 8 - q.1.1) ⟨(0, (ti 25).z), by omega, fun _ hj => by omega, fun _ _ => trivial⟩ ?_ ?_
  · refine Imp.id (by simp) ?_ ?_
    · simp only [go_sem, Nat.reduceBEq]
      omega
    · exact impH.cons0 (hget_hit _ _ _) (by simp) (SegLe.flat (Nat.le_refl _) id (.inr rfl) fun z hz => ⟨rfl, trivial⟩) (impH.cons0 ((hget_miss _ _ _ _ (by simp)).trans (hget_hit _ _ _)) (by simp) (SegLe.flat (Nat.le_refl _) id (.inr rfl) fun z hz => ⟨rfl, trivial⟩)
        (impH.cons0 (by simp only [go_sem]) (by simp) (SegLe.flat (Nat.le_refl _) id (.inr rfl) fun z hz => ⟨rfl, hfl z hz⟩) (impH.base0 hok (by simp) (((HExt.rfl.cons (Nat.le_refl n)).cons (by simp)).cons (by simp)))))
  · rintro ⟨⟨k, c⟩, hk, hc, hcf⟩
    simp only at hk hc hcf
    simp only [go_sem, Nat.reduceBEq, Nat.reduceLT, Nat.reduceLeDiff, reduceIte, decide_eq_true_eq, decide_eq_false_iff_not]
    refine ⟨fun h1 => ⟨⟨by omega, h1⟩, by omega, ?_⟩, fun h1 => ?_⟩
    · have hkr : (0 : Int) ≤ k ∧ (k : Int) < 8 := ⟨by omega, h1⟩
      refine callA_false (toInt16A8_E _ _ _ (fun j => F (k * 8 + j)) (fun j hj => hF (k * 8 + j) (by omega)) _ fun F' hF' => ?_)
      have hfl' : Flat 8 F' := fun j hj => by rw [hF' j hj]; exact hfl _ (by omega)
      simp only [go_sem, Nat.reduceBEq, Nat.reduceLT, Nat.reduceLeDiff, Nat.reduceEqDiff, reduceIte, hkr, hfl'.ones]
      have hput : ∀ j, j < 64 → (if k * 8 ≤ j ∧ j < k * 8 + 8 then F' (j - k * 8) else c j).flat := fun j hj => by
        split
        · rename_i h; exact hfl' _ (by omega)
        · exact hcf j hj
      refine ⟨by omega, ⟨(k + 1, fun j => if k * 8 ≤ j ∧ j < k * 8 + 8 then F' (j - k * 8) else c j), by omega, fun j hj => ?_, hput⟩, by show 8 - (k + 1) < 8 - k; omega, ?_⟩
      · have hj : j < (k + 1) * 8 := hj
        show (if k * 8 ≤ j ∧ j < k * 8 + 8 then F' (j - k * 8) else c j) = F j
        split
        · rename_i h; rw [hF' _ (by omega), show k * 8 + (j - k * 8) = j by omega]
        · exact hc j (by omega)
      · refine Imp.id (by simp) ?_ ?_
        · simp only [go_sem, Nat.reduceBEq, w64 (n := (k : Int) + 1) (by omega), Int.natCast_add, Int.natCast_one]
          omega
        · exact impH.cons0 (hget_hit _ _ _) (by simp) (SegLe.flat (Nat.le_refl _) id (.inr rfl) fun z hz => ⟨rfl, hput z hz⟩) (impH.cons0 ((hget_miss _ _ _ _ (by simp)).trans (hget_hit _ _ _)) (by simp) (SegLe.flat (Nat.le_refl _) id (.inr rfl) fun z hz => ⟨rfl, trivial⟩)
            (impH.cons0 (by simp only [go_sem]) (by simp) (SegLe.flat (Nat.le_refl _) id (.inr rfl) fun z hz => ⟨rfl, hfl z hz⟩) (impH.base0 hok (by simp) (((HExt.rfl.cons (Nat.le_refl n)).cons (by simp)).cons (by simp)))))
    · have hk8 : k = 8 := by omega
      subst hk8
      have hone : ones (.agg 64 fun j => c j) = True := hcf.ones
      simp only [go_sem, hone]
      exact ⟨c, hc, rfl⟩
theorem toByteA8_E (F : Nat → SV) (hF : ∀ j, j < 8 → ∃ v, F j = .int .u8 v) (K : HK) (hK : ∀ F', (∀ j, j < 8 → F' j = F j) → K (.agg 8 F') h n) : CallE Tryd.prog cx 21 [.agg 8 F] h n K := by
  have hfl : Flat 8 F := fun j hj => by obtain ⟨v, hv⟩ := hF j hj; rw [hv]; trivial
  refine CallE.imp0 (K := fun r h' n' => n ≤ n' ∧ HExt n h h' ∧ ∃ F', (∀ j, j < 8 → F' j = F j) ∧ r = .agg 8 F') ?_ ?_
  rotate_left
  · rintro hok r h' n' ⟨h0, hx, F', hF', rfl⟩
    exact ⟨.agg 8 F', h, n, Nat.le_refl _, by simp only [ren_nil], lt_aggF fun j hj => by rw [hF' j hj]; exact hfl j hj, impH.base0 hok (Nat.le_refl n) hx, hK F' hF'⟩
  refine callE_of_T (P := Tryd.prog) hti (nt := 15) (rs := [.cell 2 29]) rfl rfl Tryd.call21 Tryd.func21 rfl _ (by simp only [go_sem, and_self]) (Nat.le_of_ble_eq_true rfl) _ fun hok => ?_
  simp only [go_sem, Nat.reduceLT, Nat.reduceEqDiff, reduceIte]
  refine T_lp (ι := { q : Nat × (Nat → SV) // q.1 ≤ 8 ∧ (∀ j, j < q.1 → q.2 j = F j) ∧ Flat 8 q.2 })
    (fun q => ([(1, .ptr n 0), (2, .ptr (n + 1) 0), (3, .ptr (n + 2) 0), (4, .int .i64 q.1.1)], (n + 2, ⟨8, q.1.2, true, none⟩) :: (n + 1, ⟨8, (ti 29).z, true, none⟩) :: (n, ⟨8, F, true, none⟩) :: h, n + 3)) (fun q => 8 - q.1.1) ⟨(0, (ti 29).z), by omega, fun _ hj => by omega, fun _ _ => trivial⟩ ?_ ?_
  · refine Imp.id (by simp) ?_ ?_
    · simp only [go_sem, Nat.reduceBEq]
      omega
    · exact impH.cons0 (hget_hit _ _ _) (by simp) (SegLe.flat (Nat.le_refl _) id (.inr rfl) fun z hz => ⟨rfl, trivial⟩) (impH.cons0 ((hget_miss _ _ _ _ (by simp)).trans (hget_hit _ _ _)) (by simp) (SegLe.flat (Nat.le_refl _) id (.inr rfl) fun z hz => ⟨rfl, trivial⟩)
        (impH.cons0 (by simp only [go_sem]) (by simp) (SegLe.flat (Nat.le_refl _) id (.inr rfl) fun z hz => ⟨rfl, hfl z hz⟩) (impH.base0 hok (by simp) (((HExt.rfl.cons (Nat.le_refl n)).cons (by simp)).cons (by simp)))))
  · rintro ⟨⟨k, c⟩, hk, hc, hcf⟩
    simp only at hk hc hcf
    simp only [go_sem, Nat.reduceBEq, Nat.reduceLT, Nat.reduceLeDiff, reduceIte, decide_eq_true_eq, decide_eq_false_iff_not]
    refine ⟨fun h1 => ?_, fun h1 => ?_⟩
    · obtain ⟨v, hv⟩ := hF k (by omega)
      have hkr : (0 : Int) ≤ k ∧ (k : Int) < 8 := ⟨by omega, h1⟩
      simp only [go_sem, Nat.reduceEqDiff, reduceIte, hkr, hv]
      refine ⟨by omega, by omega, ⟨(k + 1, upd c k (.int .u8 v)), by omega, fun j hj => ?_, fun j hj => ?_⟩, by show 8 - (k + 1) < 8 - k; omega, ?_⟩
      · have hj : j < k + 1 := hj
        rcases (by omega : j < k ∨ j = k) with h | rfl
        · exact (upd_far (by omega)).trans (hc j h)
        · rw [hv]; exact upd_same _ _ _
      · rcases (by omega : j ≠ k ∨ j = k) with h | rfl
        · show (upd c k _ j).flat
          rw [upd_far h]; exact hcf j hj
        · show (upd c j _ j).flat
          rw [upd_same]; trivial
      · refine Imp.id (by simp) ?_ ?_
        · simp only [go_sem, Nat.reduceBEq, w64 (n := (k : Int) + 1) (by omega), Int.natCast_add, Int.natCast_one]
          omega
        · refine impH.cons0 (hget_hit _ _ _) (by simp) (SegLe.flat (Nat.le_refl _) id (.inr rfl) fun z hz => ⟨rfl, ?_⟩) (impH.cons0 ((hget_miss _ _ _ _ (by simp)).trans (hget_hit _ _ _)) (by simp) (SegLe.flat (Nat.le_refl _) id (.inr rfl) fun z hz => ⟨rfl, trivial⟩)
            (impH.cons0 (by simp only [go_sem]) (by simp) (SegLe.flat (Nat.le_refl _) id (.inr rfl) fun z hz => ⟨rfl, hfl z hz⟩) (impH.base0 hok (by simp) (((HExt.rfl.cons (Nat.le_refl n)).cons (by simp)).cons (by simp)))))
          rcases (by omega : z ≠ k ∨ z = k) with h | rfl
          · show (upd c k _ z).flat
            rw [upd_far h]; exact hcf z hz
          · show (upd c z _ z).flat
            rw [upd_same]; trivial
    · have hone : ones (.agg 8 fun j => c j) = True := hcf.ones
      have hk8 : k = 8 := by omega
      subst hk8
      simp only [go_sem, hone]
      exact ⟨c, hc, rfl⟩

end
end Go.Proofs.YtckefhnobflhcaaDoor.V

/- Plain laws of water: running keeps it, drying lessens it. -/
namespace Go.Proofs.YtckefhnobflhcaaDoor.V

end Go.Proofs.YtckefhnobflhcaaDoor.V

/- The reference's neighbours, giving, running, drying: the walk. -/
namespace Go.Proofs.YtckefhnobflhcaaDoor.V

section
variable (cx : Cx) (h : List (Nat × Seg)) (n : Nat)

end
end Go.Proofs.YtckefhnobflhcaaDoor.V

/- The reference's giving of a unit: the walk. -/
namespace Go.Proofs.YtckefhnobflhcaaDoor.V

section
variable (cx : Cx) (h : List (Nat × Seg)) (n : Nat)

end
end Go.Proofs.YtckefhnobflhcaaDoor.V

/- The code of a sheet, its water: the walk. -/
namespace Go.Proofs.YtckefhnobflhcaaDoor.V

section
variable (cx : Cx) (h : List (Nat × Seg)) (n : Nat)

end

end Go.Proofs.YtckefhnobflhcaaDoor.V

/- The reference's round of running: the walk. -/
namespace Go.Proofs.YtckefhnobflhcaaDoor.V

theorem ShF.at {F : Nat → SV} {S : Sh} (h : ShF F S) : ShAt ⟨266, F, true, none⟩ 0 S := ⟨by simp, by simpa using h⟩
theorem ShAt.F {F : Nat → SV} {S : Sh} (h : ShAt ⟨266, F, true, none⟩ 0 S) : ShF F S := by have := h.2; simp only [Nat.zero_add] at this; exact this
section
variable (cx : Cx) (h : List (Nat × Seg)) (n : Nat)

end
end Go.Proofs.YtckefhnobflhcaaDoor.V

/- The reference's water of a sheet: the walk. -/
namespace Go.Proofs.YtckefhnobflhcaaDoor.V

section
variable (cx : Cx) (h : List (Nat × Seg)) (n : Nat)
end

end Go.Proofs.YtckefhnobflhcaaDoor.V

/- Validity of a sheet, by the reference: the walk. -/
namespace Go.Proofs.YtckefhnobflhcaaDoor.V

/-- Water and dye of a place are as they should be. -/
def CellIn (S : Sh) (x y : Int) : Prop :=
  (0 ≤ S.wet y x ∧ S.wet y x ≤ 200) ∧ (∀ i : Int, 0 ≤ i → i < 3 → 0 ≤ S.dye y x i ∧ S.dye y x i ≤ 1000) ∧
    ((hasB S x y = true ∧ waxB S x y = false) ∨ (S.wet y x = 0 ∧ S.dye y x 0 = 0 ∧ S.dye y x 1 = 0 ∧ S.dye y x 2 = 0))
open Classical in
noncomputable def cellB (S : Sh) (x y : Int) : Bool := decide (CellIn S x y)
theorem cellB_true {S : Sh} {x y : Int} (h : CellIn S x y) : cellB S x y = true := by simp [cellB, h]
theorem cellB_false {S : Sh} {x y : Int} (h : ¬ CellIn S x y) : cellB S x y = false := by simp [cellB, h]
/-- Water and the first dyes of a place, added. -/
def sumD (S : Sh) (x y : Int) : Nat → Int
  | 0 => S.wet y x
  | k + 1 => sumD S x y k + S.dye y x k

section
variable (cx : Cx) (h : List (Nat × Seg)) (n : Nat)

theorem cell2_Q (i o : Nat) (s : Seg) (S : Sh) (x y : Int) (hs : hget h i = some s) (hi : i < n) (hS : ShAt s o S) (hx : 0 ≤ x) (hx8 : x < 8) (hy : 0 ≤ y) (hy8 : y < 8) :
    CallQ Tryd.prog cx 37 [.ptr i o, spot x y] h n (.bool (cellB S x y)) := by
  have hne : (n == i) = false := by simp; omega
  have hlen := hS.1
  have hwr := hS.2.R.wet y x
  have hbad : ¬ CellIn S x y → cellB S x y = false := cellB_false
  refine callQ_of_T (P := Tryd.prog) hti (nt := 60) (rs := [.tmp 4]) rfl rfl Tryd.call37 Tryd.func37 rfl _ (by simp only [go_sem, and_self]) (Nat.le_of_ble_eq_true rfl) _ (by first | exact trivial | (refine lt_flat rfl ?_; simp [SV.flat]; done) | simp only [go_sem]) fun hok => ?_
  simp only [go_sem, Nat.reduceBEq, Nat.reduceLT]
  refine T_draw hti _ _ (by kernel_rfl) (by kernel_rfl) ?_
  simp only [go_sem, Nat.reduceBEq, Nat.reduceLT, Nat.reduceLeDiff, reduceCtorEq, hne, hs, hS.wet hy hy8 hx hx8, hx, hx8, hy, hy8, w64 (n := S.wet y x) (by omega)]
  refine ⟨by omega, (in_Q _ _ _ _ _ _).A ?_⟩
  by_cases hwn : 0 ≤ S.wet y x ∧ S.wet y x ≤ 200
  rotate_left
  · simp only [go_sem, Nat.reduceLT, decide_eq_false hwn, HExt_cons, SV.bool.injEq]
    exact (hbad fun hc => hwn hc.1).symm
  simp only [go_sem, Nat.reduceBEq, Nat.reduceLT, decide_eq_true hwn]
  refine T_lp (ι := { k : Nat // k ≤ 3 ∧ ∀ k' : Int, 0 ≤ k' → k' < k → 0 ≤ S.dye y x k' ∧ S.dye y x k' ≤ 1000 })
    (fun k => ([(0, .ptr i o), (3, .ptr n 0), (6, .int .i64 (sumD S x y k.1)), (7, .int .i64 k.1)], (n, ⟨2, cl [.int .i8 x, .int .i8 y], true, none⟩) :: h, n + 1)) (fun k => 3 - k.1) ⟨0, by omega, fun _ _ => by omega⟩ ?_ ?_
  · refine Imp.id (by simp) ?_ ?_
    · simp only [go_sem, Nat.reduceBEq, sumD]
      omega
    · exact impH.cons0 (by simp only [go_sem]) (by simp) (SegLe.flat (Nat.le_refl _) id (.inr rfl) fun z hz => ⟨rfl, pair_flat _ _ hz⟩) (impH.base0 hok (by simp) (HExt.rfl.cons (Nat.le_refl n)))
  · rintro ⟨k, hk, hall⟩
    have hsum : 0 ≤ sumD S x y k ∧ sumD S x y k ≤ 200 + 1000 * k := by
      have : ∀ m, m ≤ k → 0 ≤ sumD S x y m ∧ sumD S x y m ≤ 200 + 1000 * m := by
        intro m
        induction m with
        | zero => intro _; simp only [sumD]; omega
        | succ m ih => intro hm; have := ih (by omega); have := hall m (by omega) (by omega); simp only [sumD]; omega
      exact this k (Nat.le_refl k)
    simp only [go_sem, Nat.reduceBEq, Nat.reduceLT, decide_eq_true_eq, decide_eq_false_iff_not]
    refine ⟨fun h1 => ?_, fun h1 => ?_⟩
    · have hkr : (0 : Int) ≤ k ∧ (k : Int) < 3 := ⟨by omega, h1⟩
      have hd1 : s.c (o + 66 + y.toNat * 24 + x.toNat * 3 + k) = .int .i16 (S.dye y x k) := hS.dyeN k hy hy8 hx hx8 (by omega)
      have hdr := hS.2.R.dye y x k
      refine T_draw hti _ _ (by kernel_rfl) (by kernel_rfl) ?_
      simp only [go_sem, Nat.reduceBEq, Nat.reduceLT, Nat.reduceLeDiff, reduceCtorEq, hne, hs, hx, hx8, hy, hy8, hkr, hd1, w64 (n := S.dye y x k) (by omega)]
      refine ⟨by omega, (in_Q _ _ _ _ _ _).A ?_⟩
      by_cases hdk : 0 ≤ S.dye y x k ∧ S.dye y x k ≤ 1000
      rotate_left
      · simp only [go_sem, Nat.reduceLT, decide_eq_false hdk, HExt_cons, SV.bool.injEq]
        exact (hbad fun hc => hdk (hc.2.1 k hkr.1 hkr.2)).symm
      simp only [go_sem, Nat.reduceBEq, Nat.reduceLT, decide_eq_true hdk, w64 (n := sumD S x y k + S.dye y x k) (by omega)]
      refine ⟨⟨k + 1, by omega, fun k' a b => ?_⟩, by show 3 - (k + 1) < 3 - k; omega, ?_⟩
      · rcases (by omega : k' < k ∨ k' = k) with h | rfl
        · exact hall k' a h
        · exact hdk
      · refine Imp.id (by simp) ?_ ?_
        · simp only [go_sem, Nat.reduceBEq, sumD, w64 (n := (k : Int) + 1) (by omega), Int.natCast_add, Int.natCast_one]
          omega
        · exact impH.cons0 (by simp only [go_sem]) (by simp) (SegLe.flat (Nat.le_refl _) id (.inr rfl) fun z hz => ⟨rfl, pair_flat _ _ hz⟩) (impH.base0 hok (by simp) (HExt.rfl.cons (Nat.le_refl n)))
    · have hk3 : k = 3 := by omega
      subst hk3
      have hd : ∀ i : Int, 0 ≤ i → i < 3 → 0 ≤ S.dye y x i ∧ S.dye y x i ≤ 1000 := fun i a b => hall i a b
      have d0 := hd 0 (by omega) (by omega)
      have d1 := hd 1 (by omega) (by omega)
      have d2 := hd 2 (by omega) (by omega)
      have hs3 : sumD S x y 3 = S.wet y x + S.dye y x 0 + S.dye y x 1 + S.dye y x 2 := rfl
      refine ⟨fun hz => ?_, fun hz => ?_⟩
      · have hnz : ¬ (S.wet y x = 0 ∧ S.dye y x 0 = 0 ∧ S.dye y x 1 = 0 ∧ S.dye y x 2 = 0) := fun h => hz (by rw [hs3]; omega)
        refine (is_Q _ _ _ i o s S x y (by simp only [go_sem, hne, hs]) (by omega) hS (by omega) (by omega)).A ?_
        cases hb : hasB S x y
        · simp only [go_sem, Nat.reduceBEq, Nat.reduceLT, Int.reduceLT, HExt_cons, SV.bool.injEq]
          exact (hbad fun hc => hc.2.2.elim (fun h => by rw [hb] at h; exact absurd h.1 (by simp)) hnz).symm
        · simp only [go_sem, Nat.reduceBEq, Nat.reduceLT, Int.reduceLT]
          refine (waxed2_Q _ _ _ i o s S x y (by simp only [go_sem, hne, hs]) (by omega) hS hx (by omega) hy hy8).A ?_
          cases wb : waxB S x y
          · simp only [go_sem, Nat.reduceBEq, Nat.reduceLT, HExt_cons, SV.bool.injEq]
            exact (cellB_true ⟨hwn, hd, .inl ⟨hb, wb⟩⟩).symm
          · simp only [go_sem, Nat.reduceBEq, Nat.reduceLT, HExt_cons, SV.bool.injEq]
            exact (hbad fun hc => hc.2.2.elim (fun h => by rw [wb] at h; exact absurd h.2 (by simp)) hnz).symm
      · rw [hs3] at hz
        rw [cellB_true ⟨hwn, hd, .inr ⟨by omega, by omega, by omega, by omega⟩⟩]

theorem ok2_Q (i o : Nat) (s : Seg) (S : Sh) (hs : hget h i = some s) (hi : i < n) (hS : ShAt s o S) :
    CallQ Tryd.prog cx 17 [.ptr i o] h n (.bool (validB S)) := by
  have hne : (n == i) = false := by simp; omega
  have hlen := hS.1
  have wW := w64 (n := S.wide) (by have := hS.2.R.wide; omega)
  have wH := w64 (n := S.high) (by have := hS.2.R.high; omega)
  refine callQ_of_T (P := Tryd.prog) hti (nt := 46) (rs := [.tmp 2]) rfl rfl Tryd.call17 Tryd.func17 rfl _ (by simp only [go_sem, and_self]) (Nat.le_of_ble_eq_true rfl) _ (by first | exact trivial | (refine lt_flat rfl ?_; simp [SV.flat]; done) | simp only [go_sem]) fun hok => ?_
  simp only [go_sem, Nat.reduceBEq, Nat.reduceLT, reduceCtorEq, hne, hs, hS.wide, hS.high, wW, wH]
  refine ⟨by omega, (in_Q _ _ _ S.wide 1 8).A ?_⟩
  by_cases hw : 1 ≤ S.wide ∧ S.wide ≤ 8
  rotate_left
  · simp only [go_sem, Nat.reduceBEq, Nat.reduceLT, decide_eq_false hw, HExt_cons, SV.bool.injEq]
    exact (validB_false fun hv => hw ⟨hv.1.1, hv.1.2.1⟩).symm
  simp only [go_sem, Nat.reduceBEq, Nat.reduceLT, reduceCtorEq, hne, hs, hS.wide, hS.high, wW, wH, decide_eq_true hw]
  refine ⟨by omega, (in_Q _ _ _ S.high 1 8).A ?_⟩
  by_cases hh : 1 ≤ S.high ∧ S.high ≤ 8
  rotate_left
  · simp only [go_sem, Nat.reduceBEq, Nat.reduceLT, decide_eq_false hh, HExt_cons, SV.bool.injEq]
    exact (validB_false fun hv => hh ⟨hv.1.2.2.1, hv.1.2.2.2⟩).symm
  simp only [go_sem, Nat.reduceBEq, Nat.reduceLT, decide_eq_true hh]
  have hsm : Small S := ⟨hw.1, hw.2, hh.1, hh.2⟩
  refine T_lp (ι := { y : Nat // y ≤ 8 ∧ ∀ y' x' : Int, 0 ≤ y' → y' < y → 0 ≤ x' → x' < 8 → CellOk S x' y' })
    (fun y => ([(0, .ptr i o), (3, .int .i8 y.1)], h, n)) (fun y => 8 - y.1) ⟨0, by omega, fun _ _ _ _ => by omega⟩ ?_ ?_
  · refine Imp.id (by simp) ?_ (impH.base0 hok (Nat.le_refl n) HExt.rfl)
    simp only [go_sem, Nat.reduceBEq]
    omega
  · rintro ⟨y, hy, hally⟩
    simp only [go_sem, Nat.reduceBEq, Nat.reduceLT, decide_eq_true_eq, decide_eq_false_iff_not]
    refine ⟨fun h1 => ?_, fun h1 => ?_⟩
    · refine T_lp (ι := { x : Nat // x ≤ 8 ∧ ∀ x' : Int, 0 ≤ x' → x' < x → CellOk S x' y })
        (fun x => ([(0, .ptr i o), (3, .int .i8 y), (4, .int .i8 x.1)], h, n)) (fun x => 8 - x.1) ⟨0, by omega, fun _ _ => by omega⟩ ?_ ?_
      · refine Imp.id (by simp) ?_ (impH.base0 hok (Nat.le_refl n) HExt.rfl)
        simp only [go_sem, Nat.reduceBEq]
        omega
      · rintro ⟨x, hx, hallx⟩
        simp only [go_sem, Nat.reduceBEq, Nat.reduceLT, Nat.reduceLeDiff, Nat.reduceEqDiff, reduceIte, decide_eq_true_eq, decide_eq_false_iff_not]
        refine ⟨fun h2 => ?_, fun h2 => ?_⟩
        · have x0 : (0 : Int) ≤ x := by omega
          have y0 : (0 : Int) ≤ y := by omega
          have hbad : ¬ CellOk S x y → validB S = false := fun hc => validB_false fun hv => hc (hv.2 y x y0 h1 x0 h2)
          refine (is_Q _ _ _ i o s S x y (by simp only [go_sem, hne, hs]) (by omega) hS (by omega) (by omega)).A ?_
          cases hb : hasB S x y
          · simp only [go_sem, Nat.reduceBEq, Nat.reduceLT]
            refine (waxed2_Q _ _ _ i o s S x y (by simp only [go_sem, hne, hs]) (by omega) hS x0 (by omega) y0 h1).A ?_
            cases wb : waxB S x y
            · have hwh : waxB S x y = true → hasB S x y = true := fun h => by rw [wb] at h; cases h
              simp only [go_sem, Nat.reduceBEq, Nat.reduceLT]
              refine (cell2_Q _ _ _ i o s S x y (by simp only [go_sem, hne, hs]) (by omega) hS x0 h2 y0 h1).A ?_
              by_cases hc : CellIn S x y
              rotate_left
              · simp only [go_sem, Nat.reduceLT, cellB_false hc, HExt_cons, SV.bool.injEq]
                exact (hbad fun h => hc h.2).symm
              simp only [go_sem, Nat.reduceBEq, Nat.reduceLT, cellB_true hc]
              refine ⟨⟨x + 1, by omega, fun x' a b => ?_⟩, by show 8 - (x + 1) < 8 - x; omega, ?_⟩
              · rcases (by omega : x' < x ∨ x' = x) with h | rfl
                · exact hallx x' a h
                · exact ⟨hwh, hc⟩
              · refine Imp.id (by simp) ?_ (impH.base0 hok (Nat.le_refl n) (HExt.rfl.cons (Nat.le_refl n)))
                simp only [go_sem, Nat.reduceBEq, w8 (n := (x : Int) + 1) (by omega), Int.natCast_add, Int.natCast_one]
                omega
            · simp only [go_sem, Nat.reduceBEq, Nat.reduceLT, HExt_cons, SV.bool.injEq]
              exact (hbad fun hc => by have := hc.1 wb; rw [hb] at this; cases this).symm
          · have hwh : waxB S x y = true → hasB S x y = true := fun _ => hb
            simp only [go_sem, Nat.reduceBEq, Nat.reduceLT]
            refine (cell2_Q _ _ _ i o s S x y (by simp only [go_sem, hne, hs]) (by omega) hS x0 h2 y0 h1).A ?_
            by_cases hc : CellIn S x y
            rotate_left
            · simp only [go_sem, Nat.reduceLT, cellB_false hc, HExt_cons, SV.bool.injEq]
              exact (hbad fun h => hc h.2).symm
            simp only [go_sem, Nat.reduceBEq, Nat.reduceLT, cellB_true hc]
            refine ⟨⟨x + 1, by omega, fun x' a b => ?_⟩, by show 8 - (x + 1) < 8 - x; omega, ?_⟩
            · rcases (by omega : x' < x ∨ x' = x) with h | rfl
              · exact hallx x' a h
              · exact ⟨hwh, hc⟩
            · refine Imp.id (by simp) ?_ (impH.base0 hok (Nat.le_refl n) (HExt.rfl.cons (Nat.le_refl n)))
              simp only [go_sem, Nat.reduceBEq, w8 (n := (x : Int) + 1) (by omega), Int.natCast_add, Int.natCast_one]
              omega
        · have hx8 : x = 8 := by omega
          refine ⟨⟨y + 1, by omega, fun y' x' a b c d => ?_⟩, by show 8 - (y + 1) < 8 - y; omega, ?_⟩
          · rcases (by omega : y' < y ∨ y' = y) with h | rfl
            · exact hally y' x' a h c d
            · exact hallx x' c (by omega)
          · refine Imp.id (by simp) ?_ (impH.base0 hok (Nat.le_refl n) HExt.rfl)
            simp only [go_sem, Nat.reduceBEq, w8 (n := (y : Int) + 1) (by omega), Int.natCast_add, Int.natCast_one]
            omega
    · simp only [go_sem, HExt_cons, SV.bool.injEq]
      exact (validB_true ⟨hsm, fun y' x' a b c d => hally y' x' a (by omega) c d⟩).symm
end
end Go.Proofs.YtckefhnobflhcaaDoor.V
