/- Sheets as plain data, and as they lie in memory. -/
import Derived.Test.YtebpkdolmlloaaaV13
import Derived.Test.YtebpkdolmlloaaaTi
set_option linter.all false
namespace Go.Proofs.Ytebpkdolmlloaaa.V

theorem fn_lt {f n : Nat} {xs ys : List SV} (h1 : ∀ v ∈ xs, v.lt n) (h2 : ∀ v ∈ ys, v.lt n) : (SV.fn f xs.length (cl xs) ys.length (cl ys)).lt n := ⟨cl_lt h1, cl_lt h2⟩

theorem lt_flat {m k : Nat} {vs : List SV} (hk : vs.length = k) (h : ∀ v ∈ vs, v.flat) : (SV.agg k (cl vs)).lt m := hk ▸ cl_lt fun v hv => (h v hv).below m

/-- A sheet: sides, water, dye, wax. -/
structure Sh where
  wide : Int
  high : Int
  wet : Int → Int → Int
  dye : Int → Int → Int → Int
  wax : Int → Int

/-- All numbers fit. -/
structure ShR (S : Sh) : Prop where
  wide : -128 ≤ S.wide ∧ S.wide < 128
  high : -128 ≤ S.high ∧ S.high < 128
  wet : ∀ y x, -32768 ≤ S.wet y x ∧ S.wet y x < 32768
  dye : ∀ y x i, -32768 ≤ S.dye y x i ∧ S.dye y x i < 32768
  wax : ∀ y, 0 ≤ S.wax y ∧ S.wax y < 256

/-- Cells that hold a sheet. -/
structure ShF (F : Nat → SV) (S : Sh) : Prop where
  R : ShR S
  wide : F 0 = .int .i8 S.wide
  high : F 1 = .int .i8 S.high
  wet : ∀ y x : Int, 0 ≤ y → y < 8 → 0 ≤ x → x < 8 → F (2 + y.toNat * 8 + x.toNat) = .int .i16 (S.wet y x)
  dye : ∀ y x i : Int, 0 ≤ y → y < 8 → 0 ≤ x → x < 8 → 0 ≤ i → i < 3 → F (66 + y.toNat * 24 + x.toNat * 3 + i.toNat) = .int .i16 (S.dye y x i)
  wax : ∀ y : Int, 0 ≤ y → y < 8 → F (258 + y.toNat) = .int .u8 (S.wax y)
def ShAt (s : Seg) (o : Nat) (S : Sh) : Prop := o + 266 ≤ s.n ∧ ShF (fun j => s.c (o + j)) S

theorem ShAt.wide {s : Seg} {o : Nat} {S : Sh} (h : ShAt s o S) : s.c o = .int .i8 S.wide := h.2.wide
theorem ShAt.high {s : Seg} {o : Nat} {S : Sh} (h : ShAt s o S) : s.c (o + 1) = .int .i8 S.high := h.2.high
theorem ShAt.wet {s : Seg} {o : Nat} {S : Sh} (h : ShAt s o S) {y x : Int} (h1 : 0 ≤ y) (h2 : y < 8) (h3 : 0 ≤ x) (h4 : x < 8) : s.c (o + 2 + y.toNat * 8 + x.toNat) = .int .i16 (S.wet y x) := by
  have := h.2.wet y x h1 h2 h3 h4
  simpa only [Nat.add_assoc] using this
theorem ShAt.dye {s : Seg} {o : Nat} {S : Sh} (h : ShAt s o S) {y x i : Int} (h1 : 0 ≤ y) (h2 : y < 8) (h3 : 0 ≤ x) (h4 : x < 8) (h5 : 0 ≤ i) (h6 : i < 3) :
    s.c (o + 66 + y.toNat * 24 + x.toNat * 3 + i.toNat) = .int .i16 (S.dye y x i) := by
  have := h.2.dye y x i h1 h2 h3 h4 h5 h6
  simpa only [Nat.add_assoc] using this
theorem ShAt.wax {s : Seg} {o : Nat} {S : Sh} (h : ShAt s o S) {y : Int} (h1 : 0 ≤ y) (h2 : y < 8) : s.c (o + 258 + y.toNat) = .int .u8 (S.wax y) := by
  have := h.2.wax y h1 h2
  simpa only [Nat.add_assoc] using this

theorem upd_far {c : Nat → SV} {o z : Nat} {v : SV} (h : z ≠ o) : upd c o v z = c z := by simp [upd, h]
theorem cl_flat {l : List SV} (h : ∀ v ∈ l, v.flat) {k : Nat} (hk : k < l.length) : (cl l k).flat := by
  rw [cl_eq, List.getElem?_eq_getElem hk]; exact h _ (List.getElem_mem hk)
theorem ShAt.flat {s : Seg} {o : Nat} {S : Sh} (h : ShAt s o S) {z : Nat} (h1 : o ≤ z) (h2 : z < o + 266) : (s.c z).flat := by
  obtain ⟨d, rfl⟩ : ∃ d, z = o + d := ⟨z - o, by omega⟩
  obtain ⟨hl, R, a1, a2, a3, a4, a5⟩ := h
  rcases (by omega : d = 0 ∨ d = 1 ∨ (2 ≤ d ∧ d < 66) ∨ (66 ≤ d ∧ d < 258) ∨ 258 ≤ d) with h | h | h | h | h
  · subst h; rw [show s.c (o + 0) = _ from a1]; trivial
  · subst h; rw [show s.c (o + 1) = _ from a2]; trivial
  · have := a3 (((d - 2) / 8 : Nat) : Int) (((d - 2) % 8 : Nat) : Int) (by omega) (by omega) (by omega) (by omega)
    simp only [Int.toNat_natCast] at this
    rw [show o + d = o + (2 + (d - 2) / 8 * 8 + (d - 2) % 8) by omega, this]; trivial
  · have := a4 (((d - 66) / 24 : Nat) : Int) (((d - 66) % 24 / 3 : Nat) : Int) (((d - 66) % 3 : Nat) : Int) (by omega) (by omega) (by omega) (by omega) (by omega) (by omega)
    simp only [Int.toNat_natCast] at this
    rw [show o + d = o + (66 + (d - 66) / 24 * 24 + (d - 66) % 24 / 3 * 3 + (d - 66) % 3) by omega, this]; trivial
  · have := a5 ((d - 258 : Nat) : Int) (by omega) (by omega)
    simp only [Int.toNat_natCast] at this
    rw [show o + d = o + (258 + (d - 258)) by omega, this]; trivial
theorem ShAt.below {sn : Nat} {c sc : Nat → SV} {r : Bool} {w : Option (Nat × Nat)} {o m : Nat} {S : Sh} (h : ShAt ⟨sn, c, r, w⟩ o S) (ho : ∀ z, z < o ∨ o + 266 ≤ z → c z = sc z) (hl : ∀ z, z < sn → (sc z).lt m) : ∀ z, z < sn → (c z).lt m := by
  intro z hz
  rcases (by omega : (z < o ∨ o + 266 ≤ z) ∨ (o ≤ z ∧ z < o + 266)) with h1 | ⟨h1, h2⟩
  · rw [ho z h1]; exact hl z hz
  · exact (h.flat h1 h2).below m

theorem w64 {n : Int} (h : -9223372036854775808 ≤ n ∧ n < 9223372036854775808) : IntKind.i64.wrap n = n := by rw [IntKind.wrap_i64]; omega
theorem w8 {n : Int} (h : -128 ≤ n ∧ n < 128) : IntKind.i8.wrap n = n := by simp [IntKind.wrap, IntKind.bits, IntKind.signed]; omega
theorem w16 {n : Int} (h : -32768 ≤ n ∧ n < 32768) : IntKind.i16.wrap n = n := by simp [IntKind.wrap, IntKind.bits, IntKind.signed]; omega
theorem wi {n : Int} (h : -9223372036854775808 ≤ n ∧ n < 9223372036854775808) : IntKind.i64.wrap n = n := w64 h

@[go_sem] theorem mkAgg_266 (F : Nat → SV) : mkAgg 266 F = .agg 266 F := rfl
theorem SV.flat.one {v : SV} (h : v.flat) : v.one := by cases v <;> first | trivial | exact h.elim
theorem ShF.flat {F : Nat → SV} {S : Sh} (h : ShF F S) {z : Nat} (hz : z < 266) : (F z).flat := by
  have := ShAt.flat (s := ⟨266, F, true, none⟩) (o := 0) (S := S) ⟨by simp, by simpa using h⟩ (Nat.zero_le z) (by simpa using hz)
  exact this
theorem ShF.ones {F : Nat → SV} {S : Sh} (h : ShF F S) : V.ones (.agg 266 F) = True := eq_true fun j hj => (h.flat hj).one

abbrev spot (x y : Int) : SV := .agg 2 (cl [.int .i8 x, .int .i8 y])

/-- Has a sheet a cell? -/
def hasB (S : Sh) (x y : Int) : Bool := ((decide (0 ≤ x) && decide (x < S.wide)) && decide (0 ≤ y)) && decide (y < S.high)
def waxB (S : Sh) (x y : Int) : Bool := decide (bitsI .and .u8 (shrI .u8 (S.wax y) x) 1 = 1)

section
variable (cx : Cx) (h : List (Nat × Seg)) (n : Nat)

theorem has_Q (i o : Nat) (s : Seg) (S : Sh) (x y : Int) (hs : hget h i = some s) (hi : i < n) (hS : ShAt s o S) :
    CallQ Try.prog cx 93 [.ptr i o, spot x y] h n (.bool (hasB S x y)) := by
  have hne : (n == i) = false := by simp; omega
  have hlen := hS.1
  refine callQ_of_T (P := Try.prog) hti (nt := 31) (rs := [.tmp 4]) rfl rfl Try.call93 Try.func93 rfl _ (by simp only [go_sem, and_self]) (Nat.le_of_ble_eq_true rfl) _ (by first | exact trivial | (refine lt_flat rfl ?_; simp [SV.flat])) fun hok => ?_
  simp only [go_sem, Nat.reduceBEq, Nat.reduceLT, Nat.reduceLeDiff, Nat.reduceAdd, Nat.reduceMul, Nat.reduceSub, Nat.reduceMod, Nat.reduceDiv, Nat.reduceEqDiff, Int.reduceToNat, Int.toNat_natCast, Bool.not_true, Bool.not_false, false_implies, true_implies, decide_true, decide_false, true_and, and_true, and_false, false_and, and_self, reduceIte, reduceCtorEq, Bool.false_eq_true, List.getElem?_cons_zero, List.getElem?_cons_succ, List.length_cons, List.length_nil, List.take_succ_cons, List.take_zero, List.drop_succ_cons, List.drop_zero, ne_eq, not_false_eq_true, Nat.add_zero, Nat.zero_add, Nat.mul_one, Int.cast_ofNat_Int, Int.reduceLE, Int.reduceLT, Int.reduceEq, Int.reduceNeg, Nat.le_refl, Nat.le_add_right, Nat.zero_le, forall_const]
  refine T_draw hti _ _ (by kernel_rfl) (by kernel_rfl) ?_
  simp only [go_sem, Nat.reduceBEq, Nat.reduceLT, Nat.reduceLeDiff, Nat.reduceAdd, Nat.reduceMul, Nat.reduceSub, Nat.reduceMod, Nat.reduceDiv, Nat.reduceEqDiff, Int.reduceToNat, Int.toNat_natCast, Bool.not_true, Bool.not_false, false_implies, true_implies, decide_true, decide_false, true_and, and_true, and_false, false_and, and_self, reduceIte, reduceCtorEq, Bool.false_eq_true, List.getElem?_cons_zero, List.getElem?_cons_succ, List.length_cons, List.length_nil, List.take_succ_cons, List.take_zero, List.drop_succ_cons, List.drop_zero, ne_eq, not_false_eq_true, Nat.add_zero, Nat.zero_add, Nat.mul_one, Int.cast_ofNat_Int, Int.reduceLE, Int.reduceLT, Int.reduceEq, Int.reduceNeg, Nat.le_refl, Nat.le_add_right, Nat.zero_le, forall_const, hne, hs, hS.wide, hS.high, HExt_cons, SV.bool.injEq, decide_eq_true_eq, decide_eq_false_iff_not, hasB]
  refine ⟨fun h1 => ⟨by omega, fun h2 => ⟨fun h3 => ⟨by omega, ?_⟩, fun h3 => ?_⟩, fun h2 => ?_⟩, fun h1 => ?_⟩ <;> simp [*]
theorem waxed_Q (i o : Nat) (s : Seg) (S : Sh) (x y : Int) (hs : hget h i = some s) (hi : i < n) (hS : ShAt s o S) (hx : 0 ≤ x) (hy : 0 ≤ y) (hy8 : y < 8) :
    CallQ Try.prog cx 56 [.ptr i o, spot x y] h n (.bool (waxB S x y)) := by
  have hne : (n == i) = false := by simp; omega
  have hlen := hS.1
  refine callQ_of_T (P := Try.prog) hti (nt := 17) (rs := [.tmp 4]) rfl rfl Try.call56 Try.func56 rfl _ (by simp only [go_sem, and_self]) (Nat.le_of_ble_eq_true rfl) _ (by first | exact trivial | (refine lt_flat rfl ?_; simp [SV.flat])) fun hok => ?_
  simp only [go_sem, Nat.reduceBEq, Nat.reduceLT, Nat.reduceLeDiff, Nat.reduceAdd, Nat.reduceMul, Nat.reduceSub, Nat.reduceMod, Nat.reduceDiv, Nat.reduceEqDiff, Int.reduceToNat, Int.toNat_natCast, Bool.not_true, Bool.not_false, false_implies, true_implies, decide_true, decide_false, true_and, and_true, and_false, false_and, and_self, reduceIte, reduceCtorEq, Bool.false_eq_true, List.getElem?_cons_zero, List.getElem?_cons_succ, List.length_cons, List.length_nil, List.take_succ_cons, List.take_zero, List.drop_succ_cons, List.drop_zero, ne_eq, not_false_eq_true, Nat.add_zero, Nat.zero_add, Nat.mul_one, Int.cast_ofNat_Int, Int.reduceLE, Int.reduceLT, Int.reduceEq, Int.reduceNeg, Nat.le_refl, Nat.le_add_right, Nat.zero_le, forall_const]
  refine T_draw hti _ _ (by kernel_rfl) (by kernel_rfl) ?_
  simp only [go_sem, Nat.reduceBEq, Nat.reduceLT, Nat.reduceLeDiff, Nat.reduceAdd, Nat.reduceMul, Nat.reduceSub, Nat.reduceMod, Nat.reduceDiv, Nat.reduceEqDiff, Int.reduceToNat, Int.toNat_natCast, Bool.not_true, Bool.not_false, false_implies, true_implies, decide_true, decide_false, true_and, and_true, and_false, false_and, and_self, reduceIte, reduceCtorEq, Bool.false_eq_true, List.getElem?_cons_zero, List.getElem?_cons_succ, List.length_cons, List.length_nil, List.take_succ_cons, List.take_zero, List.drop_succ_cons, List.drop_zero, ne_eq, not_false_eq_true, Nat.add_zero, Nat.zero_add, Nat.mul_one, Int.cast_ofNat_Int, Int.reduceLE, Int.reduceLT, Int.reduceEq, Int.reduceNeg, Nat.le_refl, Nat.le_add_right, Nat.zero_le, forall_const, hne, hs, hS.wax hy hy8, HExt_cons, SV.bool.injEq, waxB, hx, hy, hy8]
  omega
theorem wet_Q (i o : Nat) (s : Seg) (S : Sh) (x y : Int) (hs : hget h i = some s) (hi : i < n) (hS : ShAt s o S) (hx : 0 ≤ x) (hx8 : x < 8) (hy : 0 ≤ y) (hy8 : y < 8) :
    CallQ Try.prog cx 81 [.ptr i o, spot x y] h n (.int .i64 (S.wet y x)) := by
  have hne : (n == i) = false := by simp; omega
  have hlen := hS.1
  refine callQ_of_T (P := Try.prog) hti (nt := 16) (rs := [.tmp 4]) rfl rfl Try.call81 Try.func81 rfl _ (by simp only [go_sem, and_self]) (Nat.le_of_ble_eq_true rfl) _ (by first | exact trivial | (refine lt_flat rfl ?_; simp [SV.flat])) fun hok => ?_
  simp only [go_sem, Nat.reduceBEq, Nat.reduceLT, Nat.reduceLeDiff, Nat.reduceAdd, Nat.reduceMul, Nat.reduceSub, Nat.reduceMod, Nat.reduceDiv, Nat.reduceEqDiff, Int.reduceToNat, Int.toNat_natCast, Bool.not_true, Bool.not_false, false_implies, true_implies, decide_true, decide_false, true_and, and_true, and_false, false_and, and_self, reduceIte, reduceCtorEq, Bool.false_eq_true, List.getElem?_cons_zero, List.getElem?_cons_succ, List.length_cons, List.length_nil, List.take_succ_cons, List.take_zero, List.drop_succ_cons, List.drop_zero, ne_eq, not_false_eq_true, Nat.add_zero, Nat.zero_add, Nat.mul_one, Int.cast_ofNat_Int, Int.reduceLE, Int.reduceLT, Int.reduceEq, Int.reduceNeg, Nat.le_refl, Nat.le_add_right, Nat.zero_le, forall_const]
  refine T_draw hti _ _ (by kernel_rfl) (by kernel_rfl) ?_
  simp only [go_sem, Nat.reduceBEq, Nat.reduceLT, Nat.reduceLeDiff, Nat.reduceAdd, Nat.reduceMul, Nat.reduceSub, Nat.reduceMod, Nat.reduceDiv, Nat.reduceEqDiff, Int.reduceToNat, Int.toNat_natCast, Bool.not_true, Bool.not_false, false_implies, true_implies, decide_true, decide_false, true_and, and_true, and_false, false_and, and_self, reduceIte, reduceCtorEq, Bool.false_eq_true, List.getElem?_cons_zero, List.getElem?_cons_succ, List.length_cons, List.length_nil, List.take_succ_cons, List.take_zero, List.drop_succ_cons, List.drop_zero, ne_eq, not_false_eq_true, Nat.add_zero, Nat.zero_add, Nat.mul_one, Int.cast_ofNat_Int, Int.reduceLE, Int.reduceLT, Int.reduceEq, Int.reduceNeg, Nat.le_refl, Nat.le_add_right, Nat.zero_le, forall_const, hne, hs, hS.wet hy hy8 hx hx8, HExt_cons, hx, hx8, hy, hy8]
  refine ⟨by omega, ?_⟩
  rw [w64]
  have := hS.2.R.wet y x
  omega

/-- The cells of a sheet, row by row. -/
def cellC (W : Nat) : Nat → SV := fun k => if k % 2 = 0 then .int .i8 ((k / 2 % W : Nat) : Int) else .int .i8 ((k / 2 / W : Nat) : Int)
theorem cellC_flat (W k : Nat) : (cellC W k).flat := by unfold cellC; split <;> trivial

theorem cells_E (i o : Nat) (s : Seg) (S : Sh) (W H : Nat) (hs : hget h i = some s) (hi : i < n) (hS : ShAt s o S) (hW : S.wide = W) (hH : S.high = H) (hW8 : W ≤ 8) (hH8 : H ≤ 8) (K : HK)
    (hK : ∀ cap, H * W ≤ cap → cap ≤ maxLen → K (.sl n 0 (H * W) cap) ((n, ⟨H * W * 2, cellC W, true, some (86, cap * 2)⟩) :: h) (n + 1)) :
    CallE Try.prog cx 80 [.ptr i o] h n K := by
  have hne : (n == i) = false := by simp; omega
  have hlen := hS.1
  refine callE_of_T (P := Try.prog) hti (nt := 30) (rs := [.tmp 2]) rfl rfl Try.call80 Try.func80 rfl _ (by simp only [go_sem, and_self]) (Nat.le_of_ble_eq_true rfl) _ fun hok => ?_
  simp only [go_sem, Nat.reduceBEq, Nat.reduceLT, Nat.reduceLeDiff, Nat.reduceAdd, Nat.reduceMul, Nat.reduceSub, Nat.reduceMod, Nat.reduceDiv, Nat.reduceEqDiff, Int.reduceToNat, Int.toNat_natCast, Bool.not_true, Bool.not_false, false_implies, true_implies, decide_true, decide_false, true_and, and_true, and_false, false_and, and_self, reduceIte, reduceCtorEq, Bool.false_eq_true, List.getElem?_cons_zero, List.getElem?_cons_succ, List.length_cons, List.length_nil, List.take_succ_cons, List.take_zero, List.drop_succ_cons, List.drop_zero, ne_eq, not_false_eq_true, Nat.add_zero, Nat.zero_add, Nat.mul_one, Int.cast_ofNat_Int, Int.reduceLE, Int.reduceLT, Int.reduceEq, Int.reduceNeg, Nat.le_refl, Nat.le_add_right, Nat.zero_le, forall_const, hne, hs, hS.high]
  refine ⟨by omega, ?_⟩
  refine T_lp (ι := { p : Nat × Nat // p.1 ≤ H ∧ p.1 * W ≤ p.2 ∧ p.2 ≤ maxLen })
    (fun p => ([(0, .ptr i o), (3, .sl n 0 (p.1.1 * W) p.1.2), (10, .int .i8 H), (11, .int .i8 p.1.1)], (n, ⟨p.1.1 * W * 2, cellC W, true, some (86, p.1.2 * 2)⟩) :: h, n + 1)) (fun p => H - p.1.1) ⟨(0, 0), by simp⟩ ?_ ?_
  · refine Imp.id (by simp) ?_ ?_
    · simp only [go_sem, Nat.reduceBEq, Nat.reduceLT, Nat.reduceLeDiff, Nat.reduceAdd, Nat.reduceMul, Nat.reduceSub, Nat.reduceMod, Nat.reduceDiv, Nat.reduceEqDiff, Int.reduceToNat, Int.toNat_natCast, Bool.not_true, Bool.not_false, false_implies, true_implies, decide_true, decide_false, true_and, and_true, and_false, false_and, and_self, reduceIte, reduceCtorEq, Bool.false_eq_true, List.getElem?_cons_zero, List.getElem?_cons_succ, List.length_cons, List.length_nil, List.take_succ_cons, List.take_zero, List.drop_succ_cons, List.drop_zero, ne_eq, not_false_eq_true, Nat.add_zero, Nat.zero_add, Nat.mul_one, Int.cast_ofNat_Int, Int.reduceLE, Int.reduceLT, Int.reduceEq, Int.reduceNeg, Nat.le_refl, Nat.le_add_right, Nat.zero_le, forall_const, hH]
      exact ⟨by omega, by simp, by omega⟩
    · refine impH.cons (Nat.lt_succ_self n) (hget_hit _ _ _) (SegLe.flat (by simp) id (.inr (by simp)) fun k hk => by simp at hk) (impH.base hok (by simp) (fun _ _ => rfl) ?_)
      simp only [go_sem, Nat.reduceBEq, Nat.reduceLT, Nat.reduceLeDiff, Nat.reduceAdd, Nat.reduceMul, Nat.reduceSub, Nat.reduceMod, Nat.reduceDiv, Nat.reduceEqDiff, Int.reduceToNat, Int.toNat_natCast, Bool.not_true, Bool.not_false, false_implies, true_implies, decide_true, decide_false, true_and, and_true, and_false, false_and, and_self, reduceIte, reduceCtorEq, Bool.false_eq_true, List.getElem?_cons_zero, List.getElem?_cons_succ, List.length_cons, List.length_nil, List.take_succ_cons, List.take_zero, List.drop_succ_cons, List.drop_zero, ne_eq, not_false_eq_true, Nat.add_zero, Nat.zero_add, Nat.mul_one, Int.cast_ofNat_Int, Int.reduceLE, Int.reduceLT, Int.reduceEq, Int.reduceNeg, Nat.le_refl, Nat.le_add_right, Nat.zero_le, forall_const, HExt_cons]
  · rintro ⟨⟨y, cap⟩, hy, hcap, hm⟩
    simp only at hy hcap hm
    simp only [go_sem, Nat.reduceBEq, Nat.reduceLT, Nat.reduceLeDiff, Nat.reduceAdd, Nat.reduceMul, Nat.reduceSub, Nat.reduceMod, Nat.reduceDiv, Nat.reduceEqDiff, Int.reduceToNat, Int.toNat_natCast, Bool.not_true, Bool.not_false, false_implies, true_implies, decide_true, decide_false, true_and, and_true, and_false, false_and, and_self, reduceIte, reduceCtorEq, Bool.false_eq_true, List.getElem?_cons_zero, List.getElem?_cons_succ, List.length_cons, List.length_nil, List.take_succ_cons, List.take_zero, List.drop_succ_cons, List.drop_zero, ne_eq, not_false_eq_true, Nat.add_zero, Nat.zero_add, Nat.mul_one, Int.cast_ofNat_Int, Int.reduceLE, Int.reduceLT, Int.reduceEq, Int.reduceNeg, Nat.le_refl, Nat.le_add_right, Nat.zero_le, forall_const, hne, hs, hS.wide, hW, decide_eq_true_eq, decide_eq_false_iff_not]
    refine ⟨fun h1 => ⟨by omega, ?_⟩, fun h1 => ?_⟩
    · refine T_lp (ι := { p : Nat × Nat // p.1 ≤ W ∧ y * W + p.1 ≤ p.2 ∧ p.2 ≤ maxLen })
        (fun p => ([(0, .ptr i o), (3, .sl n 0 (y * W + p.1.1) p.1.2), (10, .int .i8 H), (11, .int .i8 y), (4, .int .i8 y), (17, .int .i8 W), (18, .int .i8 p.1.1)], (n, ⟨(y * W + p.1.1) * 2, cellC W, true, some (86, p.1.2 * 2)⟩) :: h, n + 1)) (fun p => W - p.1.1) ⟨(0, cap), by simp; omega⟩ ?_ ?_
      · refine Imp.id (by simp) ?_ ?_
        · simp only [go_sem, Nat.reduceBEq, Nat.reduceLT, Nat.reduceLeDiff, Nat.reduceAdd, Nat.reduceMul, Nat.reduceSub, Nat.reduceMod, Nat.reduceDiv, Nat.reduceEqDiff, Int.reduceToNat, Int.toNat_natCast, Bool.not_true, Bool.not_false, false_implies, true_implies, decide_true, decide_false, true_and, and_true, and_false, false_and, and_self, reduceIte, reduceCtorEq, Bool.false_eq_true, List.getElem?_cons_zero, List.getElem?_cons_succ, List.length_cons, List.length_nil, List.take_succ_cons, List.take_zero, List.drop_succ_cons, List.drop_zero, ne_eq, not_false_eq_true, Nat.add_zero, Nat.zero_add, Nat.mul_one, Int.cast_ofNat_Int, Int.reduceLE, Int.reduceLT, Int.reduceEq, Int.reduceNeg, Nat.le_refl, Nat.le_add_right, Nat.zero_le, forall_const]
          omega
        · refine impH.cons (Nat.lt_succ_self n) (hget_hit _ _ _) (SegLe.flat (by simp) id (.inr rfl) fun k hk => ⟨rfl, cellC_flat W k⟩) (impH.base hok (by simp) (fun _ _ => rfl) ?_)
          simp only [go_sem, Nat.reduceBEq, Nat.reduceLT, Nat.reduceLeDiff, Nat.reduceAdd, Nat.reduceMul, Nat.reduceSub, Nat.reduceMod, Nat.reduceDiv, Nat.reduceEqDiff, Int.reduceToNat, Int.toNat_natCast, Bool.not_true, Bool.not_false, false_implies, true_implies, decide_true, decide_false, true_and, and_true, and_false, false_and, and_self, reduceIte, reduceCtorEq, Bool.false_eq_true, List.getElem?_cons_zero, List.getElem?_cons_succ, List.length_cons, List.length_nil, List.take_succ_cons, List.take_zero, List.drop_succ_cons, List.drop_zero, ne_eq, not_false_eq_true, Nat.add_zero, Nat.zero_add, Nat.mul_one, Int.cast_ofNat_Int, Int.reduceLE, Int.reduceLT, Int.reduceEq, Int.reduceNeg, Nat.le_refl, Nat.le_add_right, Nat.zero_le, forall_const, HExt_cons]
      · rintro ⟨⟨x, cap⟩, hx, hcap, hm⟩
        simp only at hx hcap hm
        simp only [go_sem, Nat.reduceBEq, Nat.reduceLT, Nat.reduceLeDiff, Nat.reduceAdd, Nat.reduceMul, Nat.reduceSub, Nat.reduceMod, Nat.reduceDiv, Nat.reduceEqDiff, Int.reduceToNat, Int.toNat_natCast, Bool.not_true, Bool.not_false, false_implies, true_implies, decide_true, decide_false, true_and, and_true, and_false, false_and, and_self, reduceIte, reduceCtorEq, Bool.false_eq_true, List.getElem?_cons_zero, List.getElem?_cons_succ, List.length_cons, List.length_nil, List.take_succ_cons, List.take_zero, List.drop_succ_cons, List.drop_zero, ne_eq, not_false_eq_true, Nat.add_zero, Nat.zero_add, Nat.mul_one, Int.cast_ofNat_Int, Int.reduceLE, Int.reduceLT, Int.reduceEq, Int.reduceNeg, Nat.le_refl, Nat.le_add_right, Nat.zero_le, forall_const, hne, hs, ↓hok.del (Nat.le_refl n), decide_eq_true_eq, decide_eq_false_iff_not]
        have hyW : y * W ≤ 7 * 8 := Nat.mul_le_mul (by omega) hW8
        refine ⟨fun h2 => ⟨⟨by omega, by omega, by omega⟩, fun cap' h3 h4 => ⟨⟨(x + 1, cap'), by omega, h3, h4⟩, (by show W - (x + 1) < W - x; omega), ?_⟩⟩, fun h2 => ?_⟩
        · refine Imp.of1 n (n + 2) (by simp) (by omega) (by simp) ?_ ?_
          · simp only [go_sem, Nat.reduceBEq, Nat.reduceLT, Nat.reduceLeDiff, Nat.reduceAdd, Nat.reduceMul, Nat.reduceSub, Nat.reduceMod, Nat.reduceDiv, Nat.reduceEqDiff, Int.reduceToNat, Int.toNat_natCast, Bool.not_true, Bool.not_false, false_implies, true_implies, decide_true, decide_false, true_and, and_true, and_false, false_and, and_self, reduceIte, reduceCtorEq, Bool.false_eq_true, List.getElem?_cons_zero, List.getElem?_cons_succ, List.length_cons, List.length_nil, List.take_succ_cons, List.take_zero, List.drop_succ_cons, List.drop_zero, ne_eq, not_false_eq_true, Nat.add_zero, Nat.zero_add, Nat.mul_one, Int.cast_ofNat_Int, Int.reduceLE, Int.reduceLT, Int.reduceEq, Int.reduceNeg, Nat.le_refl, Nat.le_add_right, Nat.zero_le, forall_const, hne, w8 (n := (x : Int) + 1) (by omega), Int.natCast_add, Int.natCast_one, Nat.add_assoc]
            omega
          · refine impH.cons1 (hget_hit _ _ _) (Nat.lt_succ_self n) (SegLe.flat (Nat.le_refl _) id (.inr rfl) fun k hk => ⟨?_, cellC_flat W k⟩) (impH.base1 hok (by simp) (Nat.le_refl n) ?_)
            · have hk : k < (y * W + (x + 1)) * 2 := hk
              show both ((y * W + x) * 2) (cellC W) _ k = _
              unfold both news
              split
              · rfl
              · rename_i hk2
                have h5 : (y * W + x) % W = x := by rw [Nat.mul_comm, Nat.mul_add_mod, Nat.mod_eq_of_lt (by omega)]
                have h6 : (y * W + x) / W = y := by rw [Nat.mul_comm, Nat.mul_add_div (by omega), Nat.div_eq_of_lt (by omega), Nat.add_zero]
                rcases (by omega : k = (y * W + x) * 2 ∨ k = (y * W + x) * 2 + 1) with rfl | rfl
                · simp [cellC, h5, cl]
                · have : ((y * W + x) * 2 + 1) / 2 = y * W + x := by omega
                  simp [cellC, this, h6, cl]
            · simp only [go_sem, Nat.reduceBEq, Nat.reduceLT, Nat.reduceLeDiff, Nat.reduceAdd, Nat.reduceMul, Nat.reduceSub, Nat.reduceMod, Nat.reduceDiv, Nat.reduceEqDiff, Int.reduceToNat, Int.toNat_natCast, Bool.not_true, Bool.not_false, false_implies, true_implies, decide_true, decide_false, true_and, and_true, and_false, false_and, and_self, reduceIte, reduceCtorEq, Bool.false_eq_true, List.getElem?_cons_zero, List.getElem?_cons_succ, List.length_cons, List.length_nil, List.take_succ_cons, List.take_zero, List.drop_succ_cons, List.drop_zero, ne_eq, not_false_eq_true, Nat.add_zero, Nat.zero_add, Nat.mul_one, Int.cast_ofNat_Int, Int.reduceLE, Int.reduceLT, Int.reduceEq, Int.reduceNeg, Nat.le_refl, Nat.le_add_right, Nat.zero_le, forall_const, HExt_cons]
        · refine ⟨⟨(y + 1, cap), by omega, by rw [Nat.succ_mul]; omega, hm⟩, (by show H - (y + 1) < H - y; omega), ?_⟩
          have hx2 : x = W := by omega
          subst hx2
          refine Imp.id (by simp) ?_ ?_
          · simp only [go_sem, Nat.reduceBEq, Nat.reduceLT, Nat.reduceLeDiff, Nat.reduceAdd, Nat.reduceMul, Nat.reduceSub, Nat.reduceMod, Nat.reduceDiv, Nat.reduceEqDiff, Int.reduceToNat, Int.toNat_natCast, Bool.not_true, Bool.not_false, false_implies, true_implies, decide_true, decide_false, true_and, and_true, and_false, false_and, and_self, reduceIte, reduceCtorEq, Bool.false_eq_true, List.getElem?_cons_zero, List.getElem?_cons_succ, List.length_cons, List.length_nil, List.take_succ_cons, List.take_zero, List.drop_succ_cons, List.drop_zero, ne_eq, not_false_eq_true, Nat.add_zero, Nat.zero_add, Nat.mul_one, Int.cast_ofNat_Int, Int.reduceLE, Int.reduceLT, Int.reduceEq, Int.reduceNeg, Nat.le_refl, Nat.le_add_right, Nat.zero_le, forall_const, hne, w8 (n := (y : Int) + 1) (by omega), Int.natCast_add, Int.natCast_one, Nat.succ_mul]
            omega
          · exact impH.cons0 (hget_hit _ _ _) (Nat.lt_succ_self n) (SegLe.flat (by show (y + 1) * x * 2 ≤ _; rw [Nat.succ_mul]; exact Nat.le_refl _) id (.inr rfl) fun k hk => ⟨rfl, cellC_flat x k⟩) (impH.base0 hok (by simp) (by simp only [go_sem, Nat.reduceBEq, Nat.reduceLT, Nat.reduceLeDiff, Nat.reduceAdd, Nat.reduceMul, Nat.reduceSub, Nat.reduceMod, Nat.reduceDiv, Nat.reduceEqDiff, Int.reduceToNat, Int.toNat_natCast, Bool.not_true, Bool.not_false, false_implies, true_implies, decide_true, decide_false, true_and, and_true, and_false, false_and, and_self, reduceIte, reduceCtorEq, Bool.false_eq_true, List.getElem?_cons_zero, List.getElem?_cons_succ, List.length_cons, List.length_nil, List.take_succ_cons, List.take_zero, List.drop_succ_cons, List.drop_zero, ne_eq, not_false_eq_true, Nat.add_zero, Nat.zero_add, Nat.mul_one, Int.cast_ofNat_Int, Int.reduceLE, Int.reduceLT, Int.reduceEq, Int.reduceNeg, Nat.le_refl, Nat.le_add_right, Nat.zero_le, forall_const, HExt_cons]))
    · have hy2 : y = H := by omega
      subst hy2
      exact hK cap hcap hm
end
end Go.Proofs.Ytebpkdolmlloaaa.V
