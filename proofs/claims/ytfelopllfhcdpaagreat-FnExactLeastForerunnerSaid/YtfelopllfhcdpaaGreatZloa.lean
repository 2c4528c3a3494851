/- Part 1 of the texts that this proof stands on: a symbolic walk over the program, what its functions and the reference's do, plain laws. -/
import Derived.Test.YtfelopllfhcdpaaGreatV13
import Derived.Test.YtfelopllfhcdpaaGreatTi
import Derived.Sort.AssemblyPlain
set_option linter.all false

/- Sheets as plain data, and as they lie in memory. -/
namespace Go.Proofs.YtfelopllfhcdpaaGreat.V

theorem fn_lt {f n : Nat} {xs ys : List SV} (h1 : ∀ v ∈ xs, v.lt n) (h2 : ∀ v ∈ ys, v.lt n) : (SV.fn f xs.length (cl xs) ys.length (cl ys)).lt n := ⟨cl_lt h1, cl_lt h2⟩

theorem lt_flat {m k : Nat} {vs : List SV} (hk : vs.length = k) (h : ∀ v ∈ vs, v.flat) : (SV.agg k (cl vs)).lt m := hk ▸ cl_lt fun v hv => (h v hv).below m

/-- A sheet: sides, water, dye, wax. -/
structure Sh where
  wide : Int
  high : Int
  wet : Int → Int → Int
  dye : Int → Int → Int → Int
  wax : Int → Int

/-- All numbers fit. -/
structure ShR (S : Sh) : Prop where
  wide : -128 ≤ S.wide ∧ S.wide < 128
  high : -128 ≤ S.high ∧ S.high < 128
  wet : ∀ y x, -32768 ≤ S.wet y x ∧ S.wet y x < 32768
  dye : ∀ y x i, -32768 ≤ S.dye y x i ∧ S.dye y x i < 32768
  wax : ∀ y, 0 ≤ S.wax y ∧ S.wax y < 256

/-- Cells that hold a sheet. -/
structure ShF (F : Nat → SV) (S : Sh) : Prop where
  R : ShR S
  wide : F 0 = .int .i8 S.wide
  high : F 1 = .int .i8 S.high
  wet : ∀ y x : Int, 0 ≤ y → y < 8 → 0 ≤ x → x < 8 → F (2 + y.toNat * 8 + x.toNat) = .int .i16 (S.wet y x)
  dye : ∀ y x i : Int, 0 ≤ y → y < 8 → 0 ≤ x → x < 8 → 0 ≤ i → i < 3 → F (66 + y.toNat * 24 + x.toNat * 3 + i.toNat) = .int .i16 (S.dye y x i)
  wax : ∀ y : Int, 0 ≤ y → y < 8 → F (258 + y.toNat) = .int .u8 (S.wax y)
def ShAt (s : Seg) (o : Nat) (S : Sh) : Prop := o + 266 ≤ s.n ∧ ShF (fun j => s.c (o + j)) S

theorem ShAt.wide {s : Seg} {o : Nat} {S : Sh} (h : ShAt s o S) : s.c o = .int .i8 S.wide := h.2.wide
theorem ShAt.high {s : Seg} {o : Nat} {S : Sh} (h : ShAt s o S) : s.c (o + 1) = .int .i8 S.high := h.2.high
theorem ShAt.wet {s : Seg} {o : Nat} {S : Sh} (h : ShAt s o S) {y x : Int} (h1 : 0 ≤ y) (h2 : y < 8) (h3 : 0 ≤ x) (h4 : x < 8) : s.c (o + 2 + y.toNat * 8 + x.toNat) = .int .i16 (S.wet y x) := by
  have := h.2.wet y x h1 h2 h3 h4
  simpa only [Nat.add_assoc] using this
theorem ShAt.dye {s : Seg} {o : Nat} {S : Sh} (h : ShAt s o S) {y x i : Int} (h1 : 0 ≤ y) (h2 : y < 8) (h3 : 0 ≤ x) (h4 : x < 8) (h5 : 0 ≤ i) (h6 : i < 3) :
    s.c (o + 66 + y.toNat * 24 + x.toNat * 3 + i.toNat) = .int .i16 (S.dye y x i) := by
  have := h.2.dye y x i h1 h2 h3 h4 h5 h6
  simpa only [Nat.add_assoc] using this
theorem ShAt.wax {s : Seg} {o : Nat} {S : Sh} (h : ShAt s o S) {y : Int} (h1 : 0 ≤ y) (h2 : y < 8) : s.c (o + 258 + y.toNat) = .int .u8 (S.wax y) := by
  have := h.2.wax y h1 h2
  simpa only [Nat.add_assoc] using this

theorem upd_far {c : Nat → SV} {o z : Nat} {v : SV} (h : z ≠ o) : upd c o v z = c z := by simp [upd, h]
theorem cl_flat {l : List SV} (h : ∀ v ∈ l, v.flat) {k : Nat} (hk : k < l.length) : (cl l k).flat := by
  rw [cl_eq, List.getElem?_eq_getElem hk]; exact h _ (List.getElem_mem hk)
theorem ShAt.flat {s : Seg} {o : Nat} {S : Sh} (h : ShAt s o S) {z : Nat} (h1 : o ≤ z) (h2 : z < o + 266) : (s.c z).flat := by
  obtain ⟨d, rfl⟩ : ∃ d, z = o + d := ⟨z - o, by omega⟩
  obtain ⟨hl, R, a1, a2, a3, a4, a5⟩ := h
  rcases (by omega : d = 0 ∨ d = 1 ∨ (2 ≤ d ∧ d < 66) ∨ (66 ≤ d ∧ d < 258) ∨ 258 ≤ d) with h | h | h | h | h
  · subst h; rw [show s.c (o + 0) = _ from a1]; trivial
  · subst h; rw [show s.c (o + 1) = _ from a2]; trivial
  · have := a3 (((d - 2) / 8 : Nat) : Int) (((d - 2) % 8 : Nat) : Int) (by omega) (by omega) (by omega) (by omega)
    simp only [Int.toNat_natCast] at this
    rw [show o + d = o + (2 + (d - 2) / 8 * 8 + (d - 2) % 8) by omega, this]; trivial
  · have := a4 (((d - 66) / 24 : Nat) : Int) (((d - 66) % 24 / 3 : Nat) : Int) (((d - 66) % 3 : Nat) : Int) (by omega) (by omega) (by omega) (by omega) (by omega) (by omega)
    simp only [Int.toNat_natCast] at this
    rw [show o + d = o + (66 + (d - 66) / 24 * 24 + (d - 66) % 24 / 3 * 3 + (d - 66) % 3) by omega, this]; trivial
  · have := a5 ((d - 258 : Nat) : Int) (by omega) (by omega)
    simp only [Int.toNat_natCast] at this
    rw [show o + d = o + (258 + (d - 258)) by omega, this]; trivial
theorem ShAt.below {sn : Nat} {c sc : Nat → SV} {r : Bool} {w : Option (Nat × Nat)} {o m : Nat} {S : Sh} (h : ShAt ⟨sn, c, r, w⟩ o S) (ho : ∀ z, z < o ∨ o + 266 ≤ z → c z = sc z) (hl : ∀ z, z < sn → (sc z).lt m) : ∀ z, z < sn → (c z).lt m := by
  intro z hz
  rcases (by omega : (z < o ∨ o + 266 ≤ z) ∨ (o ≤ z ∧ z < o + 266)) with h1 | ⟨h1, h2⟩
  · rw [ho z h1]; exact hl z hz
  · exact (h.flat h1 h2).below m

theorem w64 {n : Int} (h : -9223372036854775808 ≤ n ∧ n < 9223372036854775808) : IntKind.i64.wrap n = n := by rw [IntKind.wrap_i64]; omega
theorem w8 {n : Int} (h : -128 ≤ n ∧ n < 128) : IntKind.i8.wrap n = n := by simp [IntKind.wrap, IntKind.bits, IntKind.signed]; omega
def zeroC (j : Nat) : SV := if j < 2 then .int .i8 0 else if j < 258 then .int .i16 0 else .int .u8 0
theorem lt_aggF {k m : Nat} {F : Nat → SV} (h : ∀ j, j < k → (F j).flat) : (SV.agg k F).lt m := fun j hj => (h j hj).below m
@[go_sem] theorem mkAgg_266 (F : Nat → SV) : mkAgg 266 F = .agg 266 F := rfl
theorem SV.flat.one {v : SV} (h : v.flat) : v.one := by cases v <;> first | trivial | exact h.elim
theorem ShF.flat {F : Nat → SV} {S : Sh} (h : ShF F S) {z : Nat} (hz : z < 266) : (F z).flat := by
  have := ShAt.flat (s := ⟨266, F, true, none⟩) (o := 0) (S := S) ⟨by simp, by simpa using h⟩ (Nat.zero_le z) (by simpa using hz)
  exact this
theorem ShF.ones {F : Nat → SV} {S : Sh} (h : ShF F S) : V.ones (.agg 266 F) = True := eq_true fun j hj => (h.flat hj).one

abbrev spot (x y : Int) : SV := .agg 2 (cl [.int .i8 x, .int .i8 y])

/-- Has a sheet a cell? -/
def hasB (S : Sh) (x y : Int) : Bool := ((decide (0 ≤ x) && decide (x < S.wide)) && decide (0 ≤ y)) && decide (y < S.high)
def waxB (S : Sh) (x y : Int) : Bool := decide (bitsI .and .u8 (shrI .u8 (S.wax y) x) 1 = 1)

section
variable (cx : Cx) (h : List (Nat × Seg)) (n : Nat)

theorem has_Q (i o : Nat) (s : Seg) (S : Sh) (x y : Int) (hs : hget h i = some s) (hi : i < n) (hS : ShAt s o S) :
    CallQ Tryz.prog cx 83 [.ptr i o, spot x y] h n (.bool (hasB S x y)) := by
  have hne : (n == i) = false := by simp; omega
  have hlen := hS.1
  refine callQ_of_T (P := Tryz.prog) hti (nt := 31) (rs := [.tmp 4]) rfl rfl Tryz.call83 Tryz.func83 rfl _ (by simp only [go_sem, and_self]) (Nat.le_of_ble_eq_true rfl) _ (by first | exact trivial | (refine lt_flat rfl ?_; simp [SV.flat]; done) | simp only [go_sem]) fun hok => ?_
  simp only [go_sem, Nat.reduceBEq, Nat.reduceLT]
  refine T_draw hti _ _ (by kernel_rfl) (by kernel_rfl) ?_
  simp only [go_sem, Nat.reduceBEq, Nat.reduceLT, Nat.reduceLeDiff, reduceCtorEq, hne, hs, hS.wide, hS.high, HExt_cons, SV.bool.injEq, decide_eq_true_eq, decide_eq_false_iff_not, hasB]
  refine ⟨fun h1 => ⟨by omega, fun h2 => ⟨fun h3 => ⟨by omega, ?_⟩, fun h3 => ?_⟩, fun h2 => ?_⟩, fun h1 => ?_⟩ <;> simp [*]
theorem waxed_Q (i o : Nat) (s : Seg) (S : Sh) (x y : Int) (hs : hget h i = some s) (hi : i < n) (hS : ShAt s o S) (hx : 0 ≤ x) (hy : 0 ≤ y) (hy8 : y < 8) :
    CallQ Tryz.prog cx 91 [.ptr i o, spot x y] h n (.bool (waxB S x y)) := by
  have hne : (n == i) = false := by simp; omega
  have hlen := hS.1
  refine callQ_of_T (P := Tryz.prog) hti (nt := 17) (rs := [.tmp 4]) rfl rfl Tryz.call91 Tryz.func91 rfl _ (by simp only [go_sem, and_self]) (Nat.le_of_ble_eq_true rfl) _ (by first | exact trivial | (refine lt_flat rfl ?_; simp [SV.flat]; done) | simp only [go_sem]) fun hok => ?_
  simp only [go_sem, Nat.reduceBEq, Nat.reduceLT]
  refine T_draw hti _ _ (by kernel_rfl) (by kernel_rfl) ?_
  simp only [go_sem, Nat.reduceBEq, Nat.reduceLT, Nat.reduceLeDiff, reduceCtorEq, hne, hs, hS.wax hy hy8, HExt_cons, SV.bool.injEq, waxB, hx, hy, hy8]
  omega
theorem wet_Q (i o : Nat) (s : Seg) (S : Sh) (x y : Int) (hs : hget h i = some s) (hi : i < n) (hS : ShAt s o S) (hx : 0 ≤ x) (hx8 : x < 8) (hy : 0 ≤ y) (hy8 : y < 8) :
    CallQ Tryz.prog cx 102 [.ptr i o, spot x y] h n (.int .i64 (S.wet y x)) := by
  have hne : (n == i) = false := by simp; omega
  have hlen := hS.1
  refine callQ_of_T (P := Tryz.prog) hti (nt := 16) (rs := [.tmp 4]) rfl rfl Tryz.call102 Tryz.func102 rfl _ (by simp only [go_sem, and_self]) (Nat.le_of_ble_eq_true rfl) _ (by first | exact trivial | (refine lt_flat rfl ?_; simp [SV.flat]; done) | simp only [go_sem]) fun hok => ?_
  simp only [go_sem, Nat.reduceBEq, Nat.reduceLT]
  refine T_draw hti _ _ (by kernel_rfl) (by kernel_rfl) ?_
  simp only [go_sem, Nat.reduceBEq, Nat.reduceLT, Nat.reduceLeDiff, reduceCtorEq, hne, hs, hS.wet hy hy8 hx hx8, HExt_cons, hx, hx8, hy, hy8]
  refine ⟨by omega, ?_⟩
  rw [w64]
  have := hS.2.R.wet y x
  omega

end
end Go.Proofs.YtfelopllfhcdpaaGreat.V

/- Neighbours of a cell: what the program's code shows of them. -/
namespace Go.Proofs.YtfelopllfhcdpaaGreat.V

/-- Cells of a list of spots. -/
def spotsC (L : List (Int × Int)) : Nat → SV := fun k => if k % 2 = 0 then .int .i8 (L.getD (k / 2) (0, 0)).1 else .int .i8 (L.getD (k / 2) (0, 0)).2
theorem spotsC_flat (L : List (Int × Int)) (k : Nat) : (spotsC L k).flat := by unfold spotsC; split <;> trivial
theorem spotsC_x (L : List (Int × Int)) (j : Nat) : spotsC L (j * 2) = .int .i8 (L.getD j (0, 0)).1 := by
  unfold spotsC; rw [if_pos (by omega), show j * 2 / 2 = j by omega]
theorem spotsC_y (L : List (Int × Int)) (j : Nat) : spotsC L (j * 2 + 1) = .int .i8 (L.getD j (0, 0)).2 := by
  unfold spotsC; rw [if_neg (by omega), show (j * 2 + 1) / 2 = j by omega]

/-- The spots on the four sides. -/
def besideL (x y : Int) : List (Int × Int) := [(x, IntKind.i8.wrap (y - 1)), (IntKind.i8.wrap (x + 1), y), (x, IntKind.i8.wrap (y + 1)), (IntKind.i8.wrap (x - 1), y)]

section
variable (cx : Cx) (h : List (Nat × Seg)) (n : Nat)

theorem beside_E (x y : Int) (K : HK) (hK : K (.sl n 0 4 4) ((n, ⟨8, spotsC (besideL x y), true, some (58, 8)⟩) :: h) (n + 1)) :
    CallE Tryz.prog cx 105 [spot x y] h n K := by
  refine CallE.imp1 (K := fun r h' n' => r = .sl (n + 1) 0 4 4 ∧ n' = n + 2 ∧ HExt n h h' ∧ ∃ s, hget h' (n + 1) = some s ∧ s.n = 8 ∧ s.rw = true ∧ s.own = some (58, 8) ∧ ∀ k, k < 8 → s.c k = spotsC (besideL x y) k) ?_ ?_
  · refine callE_of_T (P := Tryz.prog) hti (nt := 28) (rs := [.tmp 2]) rfl rfl Tryz.call105 Tryz.func105 rfl _ (by simp only [go_sem, and_self]) (Nat.le_of_ble_eq_true rfl) _ fun hok => ?_
    simp only [go_sem, Nat.reduceBEq, Nat.reduceLT, Nat.reduceLeDiff, Nat.reduceMul, reduceCtorEq, HExt_cons, Option.some.injEq, exists_eq_left']
    intro k hk
    rcases (by omega : k = 0 ∨ k = 1 ∨ k = 2 ∨ k = 3 ∨ k = 4 ∨ k = 5 ∨ k = 6 ∨ k = 7) with rfl | rfl | rfl | rfl | rfl | rfl | rfl | rfl <;> rfl
  · rintro hok r h' n' ⟨rfl, rfl, hx, s, hs, h1, h2, h3, h4⟩
    exact ⟨n + 1, .sl n 0 4 4, _, n + 1, by simp, Nat.le_refl _, by simp only [ren_sl, sig_hit], Nat.lt_succ_self n,
      impH.cons1 hs (Nat.lt_succ_self n) (SegLe.flat (by simp [h1]) (fun _ => h2) (.inr h3.symm) fun k hk => ⟨h4 k hk, spotsC_flat _ _⟩) (impH.base1 hok (by simp) (Nat.le_refl n) hx), hK⟩

theorem indexFunc_Q (i m cap : Nat) (L : List (Int × Int)) (s : Seg) (f a b : Nat) (G F : Nat → SV) (p : Int → Int → Bool) (r : Int)
    (hs : hget h i = some s) (hi : i < n) (hm : L.length = m) (hm9 : m ≤ 1000000000) (hn : m * 2 ≤ s.n) (hc : ∀ k, k < m * 2 → s.c k = spotsC L k) (hF : (SV.fn f a G b F).lt n)
    (hr0 : r = -1 → ∀ j, j < m → p (L.getD j (0, 0)).1 (L.getD j (0, 0)).2 = false) (hr1 : r ≠ -1 → 0 ≤ r ∧ r < m ∧ p (L.getD r.toNat (0, 0)).1 (L.getD r.toNat (0, 0)).2 = true ∧ ∀ j : Nat, (j : Int) < r → p (L.getD j (0, 0)).1 (L.getD j (0, 0)).2 = false)
    (hp : ∀ j, j < m → ∀ nt n0, CallQ Tryz.prog ⟨cx.w0, cx.W, nt, n0⟩ f (lst a G ++ [spot (L.getD j (0, 0)).1 (L.getD j (0, 0)).2] ++ lst b F) h n (.bool (p (L.getD j (0, 0)).1 (L.getD j (0, 0)).2))) :
    CallQ Tryz.prog cx 104 [.sl i 0 m cap, .fn f a G b F] h n (.int .i64 r) := by
  refine callQ_of_T (P := Tryz.prog) hti (nt := 19) (rs := [.tmp 4]) rfl rfl Tryz.call104 Tryz.func104 rfl _ (by simp only [go_sem, and_self]) (Nat.le_of_ble_eq_true rfl) _ (by first | exact trivial | (refine lt_flat rfl ?_; simp [SV.flat]; done) | simp only [go_sem]) fun hok => ?_
  simp only [go_sem, Nat.reduceBEq, Nat.reduceLT, Int.reduceNeg]
  refine T_lp (ι := { j : Nat // j ≤ m ∧ ∀ k, k < j → p (L.getD k (0, 0)).1 (L.getD k (0, 0)).2 = false })
    (fun j => ([(0, .sl i 0 m cap), (1, .fn f a G b F), (7, .int .i64 m), (8, .int .i64 j.1)], h, n)) (fun j => m - j.1) ⟨0, by simp⟩ ?_ ?_
  · refine Imp.id (by simp) ?_ ?_
    · simp only [go_sem, Nat.reduceBEq]
      exact ⟨hi, hF⟩
    · exact impH.base0 hok (by simp) (by simp only [go_sem])
  · rintro ⟨j, hj, hall⟩
    simp only [go_sem, Nat.reduceBEq, Nat.reduceLT, Int.reduceNeg, hs, decide_eq_true_eq, decide_eq_false_iff_not]
    refine ⟨fun h1 => ⟨⟨by omega, h1⟩, by omega, ?_⟩, fun h1 => ?_⟩
    · simp only [hc (j * 2) (by omega), hc (j * 2 + 1) (by omega), spotsC_x, spotsC_y]
      refine (hp j (by omega) _ _).A ?_
      simp only [go_sem, Nat.reduceBEq, Nat.reduceLT, Int.reduceNeg]
      refine ⟨fun h2 => ?_, fun h2 => ⟨⟨j + 1, by omega, fun k hk => ?_⟩, by show m - (j + 1) < m - j; omega, ?_⟩⟩
      · rcases (by omega : r = -1 ∨ r ≠ -1) with hr | hr
        · have := hr0 hr j (by omega)
          rw [this] at h2; cases h2
        · obtain ⟨r0, r1, r2, r3⟩ := hr1 hr
          rcases (by omega : (j : Int) < r ∨ r < j ∨ r = j) with h | h | h
          · rw [r3 j h] at h2; cases h2
          · have := hall r.toNat (by omega)
            rw [r2] at this; cases this
          · rw [h]
      · rcases (by omega : k < j ∨ k = j) with h | rfl
        · exact hall k h
        · exact h2
      · refine Imp.id (by simp) ?_ (impH.base0 hok (by simp) (by simp only [go_sem]))
        simp only [go_sem, Nat.reduceBEq, w64 (n := (j : Int) + 1) (by omega), Int.natCast_add, Int.natCast_one]
        exact ⟨hi, hF⟩
    · rcases (by omega : r = -1 ∨ r ≠ -1) with hr | hr
      · rw [hr]
      · obtain ⟨r0, r1, r2, r3⟩ := hr1 hr
        have := hall r.toNat (by omega)
        rw [r2] at this; cases this

theorem spotsC_take {a b : List (Int × Int)} {k : Nat} (h : k < a.length * 2) : spotsC (a ++ b) k = spotsC a k := by
  unfold spotsC
  have : (a ++ b).getD (k / 2) (0, 0) = a.getD (k / 2) (0, 0) := by
    rw [List.getD_eq_getElem?_getD, List.getD_eq_getElem?_getD, List.getElem?_append_left (by omega)]
  rw [this]
theorem take_filter (P : Int × Int → Bool) (L : List (Int × Int)) (j : Nat) (hj : j < L.length) : (L.take (j + 1)).filter P = (L.take j).filter P ++ (if P (L.getD j (0, 0)) then [L.getD j (0, 0)] else []) := by
  rw [List.take_succ, List.getElem?_eq_getElem hj, List.filter_append]
  congr 1
  simp [List.getD_eq_getElem?_getD, hj, List.filter_cons]
theorem filter_len (P : Int × Int → Bool) (L : List (Int × Int)) (j : Nat) : ((L.take j).filter P).length ≤ j := Nat.le_trans (List.length_filter_le _ _) (by simp; omega)
theorem filter_all {P : Int × Int → Bool} {L : List (Int × Int)} (j : Nat) (hj : j ≤ L.length) (hall : ∀ k, k < j → P (L.getD k (0, 0)) = true) : (L.take j).filter P = L.take j := by
  rw [List.filter_eq_self]
  intro a ha
  obtain ⟨k, hk, rfl⟩ := List.mem_iff_getElem.1 ha
  simp only [List.length_take] at hk
  have := hall k (by omega)
  rw [List.getD_eq_getElem?_getD, List.getElem?_eq_getElem (by omega)] at this
  simpa using this
theorem spotsC_take2 (L : List (Int × Int)) (j k : Nat) (h : k < j * 2) : spotsC (L.take j) k = spotsC L k := by
  unfold spotsC
  have : (L.take j).getD (k / 2) (0, 0) = L.getD (k / 2) (0, 0) := by
    rw [List.getD_eq_getElem?_getD, List.getD_eq_getElem?_getD, List.getElem?_take_of_lt (by omega)]
  rw [this]

theorem spotsC_last (A : List (Int × Int)) (x : Int × Int) : spotsC (A ++ [x]) (A.length * 2) = .int .i8 x.1 ∧ spotsC (A ++ [x]) (A.length * 2 + 1) = .int .i8 x.2 := by
  rw [spotsC_x, spotsC_y]
  simp [List.getD_eq_getElem?_getD]
/-- One spot written behind k others. -/
def putS (k : Nat) (x : Int × Int) (c : Nat → SV) : Nat → SV := fun z => if k * 2 ≤ z ∧ z < k * 2 + 2 then cl [.int .i8 x.1, .int .i8 x.2] (z - k * 2) else c z
theorem putS_0 (k : Nat) (x : Int × Int) (c : Nat → SV) : putS k x c (k * 2) = .int .i8 x.1 := by unfold putS; rw [if_pos (by omega), Nat.sub_self]; rfl
theorem putS_1 (k : Nat) (x : Int × Int) (c : Nat → SV) : putS k x c (k * 2 + 1) = .int .i8 x.2 := by unfold putS; rw [if_pos (by omega), show k * 2 + 1 - k * 2 = 1 by omega]; rfl
theorem putS_o (k : Nat) (x : Int × Int) (c : Nat → SV) (z : Nat) (h : z < k * 2 ∨ k * 2 + 2 ≤ z) : putS k x c z = c z := by unfold putS; rw [if_neg (by omega)]
theorem putS_flat (k : Nat) (x : Int × Int) {c : Nat → SV} {z : Nat} (h : (c z).flat) : (putS k x c z).flat := by
  rcases (by omega : z = k * 2 ∨ z = k * 2 + 1 ∨ (z < k * 2 ∨ k * 2 + 2 ≤ z)) with rfl | rfl | h'
  · rw [putS_0]; trivial
  · rw [putS_1]; trivial
  · rw [putS_o _ _ _ _ h']; exact h

theorem deleteFunc_E (i m cap : Nat) (L : List (Int × Int)) (s : Seg) (f a b : Nat) (G F : Nat → SV) (p : Int → Int → Bool) (r : Int)
    (hs : hget h i = some s) (hi : i < n) (hm : L.length = m) (hm9 : m ≤ 1000000000) (hcap : m ≤ cap) (hn : s.n = m * 2) (hrw : s.rw = true) (hc : ∀ k, k < m * 2 → s.c k = spotsC L k) (hF : (SV.fn f a G b F).lt n)
    (hr0 : r = -1 → ∀ j, j < m → p (L.getD j (0, 0)).1 (L.getD j (0, 0)).2 = false) (hr1 : r ≠ -1 → 0 ≤ r ∧ r < m ∧ p (L.getD r.toNat (0, 0)).1 (L.getD r.toNat (0, 0)).2 = true ∧ ∀ j : Nat, (j : Int) < r → p (L.getD j (0, 0)).1 (L.getD j (0, 0)).2 = false)
    (hp : ∀ j, j < m → ∀ nt n0 h' n', n ≤ n' → HBut i n h h' → CallQ Tryz.prog ⟨cx.w0, cx.W, nt, n0⟩ f (lst a G ++ [spot (L.getD j (0, 0)).1 (L.getD j (0, 0)).2] ++ lst b F) h' n' (.bool (p (L.getD j (0, 0)).1 (L.getD j (0, 0)).2)))
    (K : HK) (hK : ∀ own, K (.sl i 0 (L.filter fun a => !p a.1 a.2).length cap) (hset h i ⟨(L.filter fun a => !p a.1 a.2).length * 2, spotsC (L.filter fun a => !p a.1 a.2), true, own⟩) n) :
    CallE Tryz.prog cx 84 [.sl i 0 m cap, .fn f a G b F] h n K := by
  generalize hP : (fun a : Int × Int => !p a.1 a.2) = P at *
  have hPj : ∀ j, P (L.getD j (0, 0)) = !p (L.getD j (0, 0)).1 (L.getD j (0, 0)).2 := fun j => by rw [← hP]
  obtain ⟨sn, sc, sr, so⟩ := s
  simp only at hn hrw hc
  subst hn hrw
  have hgi : ∀ t, hget (hset h i t) i = some t := fun t => by rw [hget_hset, if_pos rfl, hs]; rfl
  have hbut : ∀ t, HBut i n h (hset h i t) := fun t j hj hji u hu => by rw [hget_hset, if_neg (Ne.symm hji)]; exact hu
  refine CallE.imp0 (K := fun r h' n' => n ≤ n' ∧ r = .sl i 0 (L.filter P).length cap ∧ HBut i n h h' ∧ ∃ t, hget h' i = some t ∧ (L.filter P).length * 2 ≤ t.n ∧ t.rw = true ∧ t.own = so ∧ ∀ k, k < (L.filter P).length * 2 → t.c k = spotsC (L.filter P) k) ?_ ?_
  · refine callE_of_T (P := Tryz.prog) hti (nt := 42) (rs := [.tmp 4]) rfl rfl Tryz.call84 Tryz.func84 rfl _ (by simp only [go_sem, and_self]) (Nat.le_of_ble_eq_true rfl) _ fun hok => ?_
    simp only [go_sem, Nat.reduceBEq, Nat.reduceLT, Int.reduceNeg]
    refine (indexFunc_Q ⟨cx.w0, cx.W, 42, n⟩ h n i m cap L _ f a b G F p r hs hi hm hm9 (Nat.le_refl _) hc hF hr0 hr1 (fun j hj nt n0 => hp j hj nt n0 h n (Nat.le_refl _) (fun _ _ _ _ h => h))).A ?_
    simp only [go_sem, Nat.reduceBEq, Nat.reduceLT, Int.reduceNeg, decide_eq_true_eq, decide_eq_false_iff_not]
    refine ⟨fun h1 => ?_, fun h1 => ?_⟩
    · have hall : L.filter P = L := by
        have := filter_all (P := P) L.length (Nat.le_refl _) fun k hk => by rw [hPj, hr0 h1 k (by omega)]; rfl
        rwa [List.take_length] at this
      rw [hall, hm]
      exact ⟨rfl, fun _ _ _ _ h => h, _, hs, Nat.le_refl _, rfl, rfl, hc⟩
    · obtain ⟨r0, r1, r2, r3⟩ := hr1 h1
      refine T_lp (ι := { q : Nat × (Nat → SV) // q.1 ≤ m ∧ (∀ z, z < ((L.take q.1).filter P).length * 2 → q.2 z = spotsC ((L.take q.1).filter P) z) ∧ (∀ z, q.1 * 2 ≤ z → z < m * 2 → q.2 z = spotsC L z) ∧ ∀ z, z < m * 2 → (q.2 z).flat })
        (fun q => ([(0, .sl i 0 m cap), (1, .fn f a G b F), (5, .int .i64 ((L.take q.1.1).filter P).length), (6, .int .i64 q.1.1)], hset h i ⟨m * 2, q.1.2, true, so⟩, n)) (fun q => m - q.1.1)
        ⟨(r.toNat + 1, sc), by
          have hf : ((L.take (r.toNat + 1)).filter P) = L.take r.toNat := by
            rw [take_filter P L r.toNat (by omega), filter_all r.toNat (by omega) (fun k hk => by rw [hPj, r3 k (by omega)]; rfl), hPj, r2]
            simp
          refine ⟨by omega, fun z hz => ?_, fun z _ hz => hc z hz, fun z hz => by show (sc z).flat; rw [hc z hz]; exact spotsC_flat _ _⟩
          simp only [hf, List.length_take] at hz ⊢
          rw [hc z (by omega), spotsC_take2 L r.toNat z (by omega)]⟩ ?_ ?_
      · have hf : ((L.take (r.toNat + 1)).filter P) = L.take r.toNat := by
          rw [take_filter P L r.toNat (by omega), filter_all r.toNat (by omega) (fun k hk => by rw [hPj, r3 k (by omega)]; rfl), hPj, r2]
          simp
        refine Imp.id (by simp) ?_ ?_
        · simp only [go_sem, Nat.reduceBEq, Int.reduceNeg, w64 (n := r + 1) (by omega), hf, List.length_take]
          refine ⟨hi, hF, ?_, ?_⟩
          · congr 1; omega
          · congr 1; omega
        · show impH h (sig []) n (hset h i ⟨m * 2, sc, true, so⟩)
          rw [hset_self hs]
          exact impH.base0 hok (by simp) (by simp only [go_sem])
      · rintro ⟨⟨j, c'⟩, hj, hk, hrest, hflat⟩
        simp only at hj hk hrest hflat
        have hlen := filter_len P L j
        have hne : (n == i) = false := by simp; omega
        simp only [go_sem, Nat.reduceBEq, Nat.reduceLT, Nat.reduceMul, Nat.reduceEqDiff, Int.reduceToNat, reduceIte, Int.reduceLE, hgi, hne, decide_eq_true_eq, decide_eq_false_iff_not]
        refine ⟨fun h2 => ⟨⟨by omega, h2⟩, by omega, ?_⟩, fun h2 => ?_⟩
        · simp only [hrest (j * 2) (Nat.le_refl _) (by omega), hrest (j * 2 + 1) (by omega) (by omega), spotsC_x, spotsC_y]
          refine ⟨⟨trivial, trivial⟩, (hp j (by omega) _ _ _ _ (by simp) ((hbut _).cons (Nat.le_refl n))).A ?_⟩
          simp only [go_sem, Nat.reduceBEq, Nat.reduceLT, hgi, hne, hset_hset]
          refine ⟨fun h3 => ⟨⟨by omega, by omega⟩, ⟨by omega, ?_⟩⟩, fun h3 => ?_⟩
          · have hf : (L.take (j + 1)).filter P = (L.take j).filter P ++ [L.getD j (0, 0)] := by
              rw [take_filter P L j (by omega), hPj, h3]; rfl
            refine ⟨⟨(j + 1, putS ((L.take j).filter P).length (L.getD j (0, 0)) c'), by omega, fun z hz => ?_, fun z hz hz2 => ?_, fun z hz => putS_flat _ _ (hflat z hz)⟩, by show m - (j + 1) < m - j; omega, ?_⟩
            · simp only [hf] at hz ⊢
              rw [List.length_append, List.length_singleton] at hz
              rcases (by omega : z < ((L.take j).filter P).length * 2 ∨ z = ((L.take j).filter P).length * 2 ∨ z = ((L.take j).filter P).length * 2 + 1) with h | h | h
              · rw [putS_o _ _ _ _ (.inl h), hk z h, spotsC_take (b := [L.getD j (0, 0)]) h]
              · rw [h, putS_0, (spotsC_last _ _).1]
              · rw [h, putS_1, (spotsC_last _ _).2]
            · have hz : (j + 1) * 2 ≤ z := hz
              show putS _ _ _ _ = _
              rw [putS_o _ _ _ _ (.inr (by omega))]
              exact hrest z (by omega) hz2
            · refine Imp.id (by simp) ?_ ?_
              · simp only [go_sem, Nat.reduceBEq, w64 (n := (j : Int) + 1) (by omega), w64 (n := (((L.take j).filter P).length : Int) + 1) (by omega), Int.natCast_add, Int.natCast_one, hf, List.length_append, List.length_singleton]
                exact ⟨hi, hF⟩
              · refine impH.set0 hok (Nat.le_refl n) hs ((hbut _).cons (Nat.le_refl n)) ((hget_miss _ _ _ _ hne).trans (hgi _)) (SegLe.flat (Nat.le_refl _) id (.inr rfl) fun z hz => ⟨?_, putS_flat _ _ (hflat z hz)⟩)
                have hz : z < m * 2 := hz
                simp only [putS]
                split
                · rw [if_pos (by omega)]; congr 1; omega
                · rfl
          · have hf : (L.take (j + 1)).filter P = (L.take j).filter P := by
              rw [take_filter P L j (by omega), hPj, h3]; simp
            refine ⟨⟨(j + 1, c'), by omega, by simp only [hf]; exact hk, fun z hz hz2 => hrest z (by have hz : (j + 1) * 2 ≤ z := hz; omega) hz2, hflat⟩, by show m - (j + 1) < m - j; omega, ?_⟩
            refine Imp.id (by simp) ?_ ?_
            · simp only [go_sem, Nat.reduceBEq, w64 (n := (j : Int) + 1) (by omega), Int.natCast_add, Int.natCast_one, hf]
              exact ⟨hi, hF⟩
            · refine impH.base0 (h0 := hset h i ⟨m * 2, c', true, so⟩) (hok.hset fun z hz => ?_) (Nat.le_refl n) (by simp only [go_sem, HExt_cons])
              exact (hflat z hz).below n
        · have hjm : j = m := by omega
          subst hjm
          have hft : (L.take j).filter P = L.filter P := by rw [← hm, List.take_length]
          simp only [hft] at *
          have hll : (L.filter P).length ≤ j := by omega
          refine ⟨⟨by omega, by omega, by omega⟩, ?_, ⟨by omega, by omega⟩, ?_, ?_, ?_⟩
          · split <;> omega
          · simp
          · rw [hset_hset]; exact hbut _
          · rw [hset_hset, hgi]
            refine ⟨_, rfl, by show _ ≤ j * 2; omega, rfl, rfl, fun z hz => ?_⟩
            show clrC _ _ _ _ _ = _
            unfold clrC
            rw [if_neg]
            · exact hk z hz
            · split <;> omega
  · rintro hok r h' n' ⟨h0, rfl, hx, t, ht, h1, h2, h3, h4⟩
    exact ⟨.sl i 0 (L.filter P).length cap, _, n, Nat.le_refl _, by simp only [ren_nil], hi, impH.set0 hok (Nat.le_refl n) hs hx ht (SegLe.flat h1 (fun _ => h2) (.inl rfl) fun k hk => ⟨h4 k hk, spotsC_flat _ _⟩), hK none⟩
end
end Go.Proofs.YtfelopllfhcdpaaGreat.V

/- Neighbours, giving, running, drying: what the program's code does to a sheet. -/
namespace Go.Proofs.YtfelopllfhcdpaaGreat.V

/-- Sides of a sheet that has no more than 8 by 8 cells. -/
def Small (S : Sh) : Prop := 1 ≤ S.wide ∧ S.wide ≤ 8 ∧ 1 ≤ S.high ∧ S.high ≤ 8
theorem hasB_in {S : Sh} {x y : Int} (hS : Small S) (h : hasB S x y = true) : 0 ≤ x ∧ x < 8 ∧ 0 ≤ y ∧ y < 8 := by
  simp only [hasB, Bool.and_eq_true, decide_eq_true_eq] at h
  have := hS.2.1; have := hS.2.2.2
  omega

/-- The neighbours of a cell. -/
def nbB (S : Sh) (x y : Int) : Bool := !hasB S x y || waxB S x y
def nb (S : Sh) (x y : Int) : List (Int × Int) := (besideL x y).filter fun a => !nbB S a.1 a.2
/-- The number of the first of which something is so. -/
def fst4 (p : Int → Int → Bool) (L : List (Int × Int)) : Int :=
  match (List.range L.length).find? fun j => p (L.getD j (0, 0)).1 (L.getD j (0, 0)).2 with
  | some j => j
  | none => -1
theorem fst4_none {p : Int → Int → Bool} {L : List (Int × Int)} (h : fst4 p L = -1) : ∀ j, j < L.length → p (L.getD j (0, 0)).1 (L.getD j (0, 0)).2 = false := by
  unfold fst4 at h
  split at h
  · omega
  · rename_i hf
    intro j hj
    have := List.find?_eq_none.1 hf j (List.mem_range.2 hj)
    simpa using this
theorem fst4_some {p : Int → Int → Bool} {L : List (Int × Int)} (h : fst4 p L ≠ -1) : 0 ≤ fst4 p L ∧ fst4 p L < L.length ∧ p (L.getD (fst4 p L).toNat (0, 0)).1 (L.getD (fst4 p L).toNat (0, 0)).2 = true ∧
    ∀ j : Nat, (j : Int) < fst4 p L → p (L.getD j (0, 0)).1 (L.getD j (0, 0)).2 = false := by
  unfold fst4 at h ⊢
  split at h
  · rename_i j hf
    obtain ⟨h1, a, b, h2, h3⟩ := List.find?_eq_some_iff_append.1 hf
    have hlen : j < L.length := by
      have : j ∈ List.range L.length := by rw [h2]; simp
      exact List.mem_range.1 this
    refine ⟨by simp, by simpa using hlen, by simpa using h1, fun i hi => ?_⟩
    have hi' : i < j := by simpa using hi
    have hja : j = a.length := by
      have h4 : (List.range L.length)[a.length]? = some j := by rw [h2]; simp
      rw [List.getElem?_eq_some_iff] at h4
      obtain ⟨_, h4⟩ := h4
      simpa using h4.symm
    have hia : i ∈ a := by
      have h4 : (List.range L.length)[i]? = a[i]? := by rw [h2, List.getElem?_append_left (by omega)]
      rw [List.getElem?_eq_getElem (by simp; omega), List.getElem?_eq_getElem (by omega)] at h4
      simp at h4
      rw [h4]; exact List.getElem_mem _
    have := h3 i hia
    simpa using this
  · exact absurd rfl h

section
variable (cx : Cx) (h : List (Nat × Seg)) (n : Nat)

theorem nb1_Q (i o iv : Nat) (s sv : Seg) (S : Sh) (x y : Int) (hs : hget h i = some s) (hi : i < n) (hS : ShAt s o S) (hsm : Small S) (hv : hget h iv = some sv) (hvi : iv < n) (hvn : 1 ≤ sv.n) (hvc : sv.c 0 = .ptr i o) :
    CallQ Tryz.prog cx 106 [spot x y, .ptr iv 0] h n (.bool (nbB S x y)) := by
  have hne : (n == i) = false := by simp; omega
  have hnv : (n == iv) = false := by simp; omega
  refine callQ_of_T (P := Tryz.prog) hti (nt := 13) (rs := [.tmp 3]) rfl rfl Tryz.call106 Tryz.func106 rfl _ (by simp only [go_sem, and_self]) (Nat.le_of_ble_eq_true rfl) _ (by first | exact trivial | (refine lt_flat rfl ?_; simp [SV.flat]; done) | simp only [go_sem]) fun hok => ?_
  simp only [go_sem, Nat.reduceBEq, Nat.reduceLT, hnv, hv, hvc]
  refine ⟨by omega, (has_Q _ _ _ i o s S x y ((hget_miss _ _ _ _ hne).trans hs) (by omega) hS).A ?_⟩
  simp only [go_sem, Nat.reduceBEq, Nat.reduceLT, hnv, hv, hvc, HExt_cons, SV.bool.injEq]
  refine ⟨fun h1 => ⟨hvn, ?_⟩, fun h1 => ?_⟩
  · have h1 : hasB S x y = true := by simpa using h1
    obtain ⟨x0, x8, y0, y8⟩ := hasB_in hsm h1
    refine (waxed_Q _ _ _ i o s S x y ((hget_miss _ _ _ _ hne).trans hs) (by omega) hS x0 y0 y8).A ?_
    simp only [go_sem, Nat.reduceBEq, Nat.reduceLT, HExt_cons, SV.bool.injEq, nbB, h1, Bool.not_true, Bool.false_or]
  · simp only [nbB, h1, Bool.true_or]

theorem neighbours_E (i o : Nat) (s : Seg) (S : Sh) (x y : Int) (hs : hget h i = some s) (hi : i < n) (hS : ShAt s o S) (hsm : Small S) (K : HK)
    (hK : ∀ cap, K (.sl n 0 (nb S x y).length cap) ((n, ⟨(nb S x y).length * 2, spotsC (nb S x y), true, none⟩) :: h) (n + 1)) :
    CallE Tryz.prog cx 87 [.ptr i o, spot x y] h n K := by
  have hne : (n == i) = false := by simp; omega
  refine CallE.imp1 (K := fun r h' n' => r = .sl (n + 2) 0 (nb S x y).length 4 ∧ n' = n + 3 ∧ HExt n h h' ∧ ∃ t, hget h' (n + 2) = some t ∧ t.n = (nb S x y).length * 2 ∧ t.rw = true ∧ t.c = spotsC (nb S x y)) ?_ ?_
  · refine callE_of_T (P := Tryz.prog) hti (nt := 9) (rs := [.tmp 4]) rfl rfl Tryz.call87 Tryz.func87 rfl _ (by simp only [go_sem, and_self]) (Nat.le_of_ble_eq_true rfl) _ fun hok => ?_
    simp only [go_sem, Nat.reduceBEq, Nat.reduceLT]
    refine callA_false (beside_E _ _ _ x y _ ?_)
    simp only [go_sem, Nat.reduceBEq, Nat.reduceLT]
    refine callA_false (deleteFunc_E _ _ _ (n + 2) 4 4 (besideL x y) _ _ _ _ _ _ (nbB S) (fst4 (nbB S) (besideL x y)) (hget_hit _ _ _) (by omega) rfl (by omega) (Nat.le_refl _) rfl rfl (fun _ _ => rfl) ?_
      (fun h => fst4_none h) (fun h => fst4_some h) (fun j hj nt n0 h' n' hn hb => ?_) _ fun own => ?_)
    · exact fn_lt (xs := []) (ys := [.ptr n 0]) (fun v hv => by cases hv) (fun v hv => by simp at hv; subst hv; show n < _; omega)
    · show CallQ _ _ _ [spot _ _, .ptr n 0] h' n' _
      have hg : ∀ j t, j < n → hget h j = some t → hget h' j = some t := fun j t hj ht => hb j (by omega) (by omega) t (by simp only [hget]; rw [if_neg (by omega), if_neg (by omega), if_neg (by omega)]; exact ht)
      exact nb1_Q _ h' n' i o n s ⟨1, cl [.ptr i o], true, none⟩ S _ _ (hg i s hi hs) (by omega) hS hsm (hb n (by omega) (by omega) _ (by simp [hget])) (by omega) (Nat.le_refl _) rfl
    · simp only [go_sem, Nat.reduceLT]
      exact ⟨rfl, _, rfl, rfl, rfl, rfl⟩
  · rintro hok r h' n' ⟨rfl, rfl, hx, t, ht, h1, h2, h3⟩
    exact ⟨n + 2, .sl n 0 (nb S x y).length 4, _, n + 1, by simp, by simp, by simp only [ren_sl, sig_hit], Nat.lt_succ_self n,
      impH.cons1 ht (Nat.lt_succ_self n) (SegLe.flat (by simp [h1]) (fun _ => h2) (.inl rfl) fun k hk => ⟨by rw [h3], spotsC_flat _ _⟩) (impH.base1 hok (by simp) (Nat.le_refl n) hx), hK _⟩
end

/-! ### Changes of a sheet -/
def Sh.setDye (S : Sh) (y x i v : Int) : Sh := { S with dye := fun y' x' i' => if y' = y ∧ x' = x ∧ i' = i then v else S.dye y' x' i' }
def Sh.setWet (S : Sh) (y x v : Int) : Sh := { S with wet := fun y' x' => if y' = y ∧ x' = x then v else S.wet y' x' }
theorem ShAt.dyeN {s : Seg} {o : Nat} {S : Sh} (h : ShAt s o S) {y x : Int} (k : Nat) (h1 : 0 ≤ y) (h2 : y < 8) (h3 : 0 ≤ x) (h4 : x < 8) (h6 : k < 3) :
    s.c (o + 66 + y.toNat * 24 + x.toNat * 3 + k) = .int .i16 (S.dye y x k) := by
  have := h.dye h1 h2 h3 h4 (i := (k : Int)) (by omega) (by omega)
  simpa using this
theorem ShAt.setDye {sn : Nat} {c : Nat → SV} {r : Bool} {w : Option (Nat × Nat)} {o : Nat} {S : Sh} (h : ShAt ⟨sn, c, r, w⟩ o S) {y x v : Int} (k : Nat) (h1 : 0 ≤ y) (h2 : y < 8) (h3 : 0 ≤ x) (h4 : x < 8) (h6 : k < 3) (hv : -32768 ≤ v ∧ v < 32768) :
    ShAt ⟨sn, upd c (o + 66 + y.toNat * 24 + x.toNat * 3 + k) (.int .i16 v), r, w⟩ o (S.setDye y x k v) := by
  obtain ⟨hl, ⟨R1, R2, R3, R4, R5⟩, a1, a2, a3, a4, a5⟩ := h
  have ne : ∀ z, o + z ≠ o + 66 + y.toNat * 24 + x.toNat * 3 + k → upd c (o + 66 + y.toNat * 24 + x.toNat * 3 + k) (.int .i16 v) (o + z) = c (o + z) := fun z hz => by simp [upd, hz]
  refine ⟨hl, ⟨R1, R2, R3, fun y' x' i' => ?_, R5⟩, ?_, ?_, fun y' x' b1 b2 b3 b4 => ?_, fun y' x' i' b1 b2 b3 b4 b5 b6 => ?_, fun y' b1 b2 => ?_⟩
  · simp only [Sh.setDye]; split
    · exact hv
    · exact R4 _ _ _
  · exact (ne 0 (by omega)).trans a1
  · exact (ne 1 (by omega)).trans a2
  · exact (ne _ (by omega)).trans (a3 y' x' b1 b2 b3 b4)
  · simp only [Sh.setDye]
    split
    · rename_i he
      obtain ⟨rfl, rfl, rfl⟩ := he
      simp [upd, Nat.add_assoc]
    · rename_i he
      exact (ne _ (by omega)).trans (a4 y' x' i' b1 b2 b3 b4 b5 b6)
  · exact (ne _ (by omega)).trans (a5 y' b1 b2)
theorem ShAt.setWet {sn : Nat} {c : Nat → SV} {r : Bool} {w : Option (Nat × Nat)} {o : Nat} {S : Sh} (h : ShAt ⟨sn, c, r, w⟩ o S) {y x v : Int} (h1 : 0 ≤ y) (h2 : y < 8) (h3 : 0 ≤ x) (h4 : x < 8) (hv : -32768 ≤ v ∧ v < 32768) :
    ShAt ⟨sn, upd c (o + 2 + y.toNat * 8 + x.toNat) (.int .i16 v), r, w⟩ o (S.setWet y x v) := by
  obtain ⟨hl, ⟨R1, R2, R3, R4, R5⟩, a1, a2, a3, a4, a5⟩ := h
  have ne : ∀ z, o + z ≠ o + 2 + y.toNat * 8 + x.toNat → upd c (o + 2 + y.toNat * 8 + x.toNat) (.int .i16 v) (o + z) = c (o + z) := fun z hz => by simp [upd, hz]
  refine ⟨hl, ⟨R1, R2, fun y' x' => ?_, R4, R5⟩, ?_, ?_, fun y' x' b1 b2 b3 b4 => ?_, fun y' x' i' b1 b2 b3 b4 b5 b6 => ?_, fun y' b1 b2 => ?_⟩
  · simp only [Sh.setWet]; split
    · exact hv
    · exact R3 _ _
  · exact (ne 0 (by omega)).trans a1
  · exact (ne 1 (by omega)).trans a2
  · simp only [Sh.setWet]
    split
    · rename_i he
      obtain ⟨rfl, rfl⟩ := he
      simp [upd, Nat.add_assoc]
    · rename_i he
      exact (ne _ (by omega)).trans (a3 y' x' b1 b2 b3 b4)
  · exact (ne _ (by omega)).trans (a4 y' x' i' b1 b2 b3 b4 b5 b6)
  · exact (ne _ (by omega)).trans (a5 y' b1 b2)

section
variable (cx : Cx) (h : List (Nat × Seg)) (n : Nat)

end
end Go.Proofs.YtfelopllfhcdpaaGreat.V

/- Plain laws: lists of spots, sorted, each one once. -/
namespace Go.Proofs.YtfelopllfhcdpaaGreat.V

/-- Ahead: a row above; further to the west in a row. -/
def ltSp (a b : Int × Int) : Bool := decide (a.2 < b.2) || (decide (a.2 = b.2) && decide (a.1 < b.1))
theorem ltSp_iff {a b : Int × Int} : ltSp a b = true ↔ a.2 < b.2 ∨ (a.2 = b.2 ∧ a.1 < b.1) := by simp [ltSp]
theorem ltSp_not {a b : Int × Int} : ltSp a b = false ↔ b.2 < a.2 ∨ (a.2 = b.2 ∧ b.1 ≤ a.1) := by
  rw [Bool.eq_false_iff, ne_eq, ltSp_iff]; omega
theorem ltSp_swo : Go.Sort.SWO ltSp where
  irrefl x := by rw [ltSp_not]; omega
  trans x y z h1 h2 := by rw [ltSp_iff] at *; omega
  ntrans x y z h1 h2 := by rw [ltSp_not] at *; omega
theorem ltSp_tri {a b : Int × Int} (h1 : ltSp a b = false) (h2 : ltSp b a = false) : a = b := by
  rw [ltSp_not] at h1 h2
  exact Prod.ext (by omega) (by omega)
def srtS (L : List (Int × Int)) : List (Int × Int) := L.mergeSort fun a b => !ltSp b a
theorem srtS_perm (L : List (Int × Int)) : (srtS L).Perm L := List.mergeSort_perm L _
theorem srtS_sorted (L : List (Int × Int)) : (srtS L).Pairwise fun a b => ltSp b a = false := by
  have h := List.pairwise_mergeSort (le := fun a b => !ltSp b a) (fun a b c h1 h2 => by
    simp only [Bool.not_eq_true'] at *
    exact ltSp_swo.ntrans c b a h2 h1) (fun a b => by
    cases h1 : ltSp b a with
    | false => simp
    | true =>
      cases h2 : ltSp a b with
      | false => simp
      | true => rw [ltSp_iff] at h1 h2; omega) L
  exact h.imp fun {a b} h => by simpa using h
/-- Each one once, where equal ones stand together. -/
def cmpS : List (Int × Int) → List (Int × Int)
  | [] => []
  | [a] => [a]
  | a :: b :: l => if a = b then cmpS (b :: l) else a :: cmpS (b :: l)
theorem cmpS_mem : ∀ (L : List (Int × Int)) (a : Int × Int), a ∈ cmpS L ↔ a ∈ L
  | [], a => Iff.rfl
  | [b], a => Iff.rfl
  | b :: c :: l, a => by
    have ih := cmpS_mem (c :: l) a
    simp only [cmpS]
    split
    · rename_i e; subst e; rw [ih]; simp
    · rw [List.mem_cons, ih]; simp
theorem cmpS_strict : ∀ (L : List (Int × Int)), L.Pairwise (fun a b => ltSp b a = false) → (cmpS L).Pairwise fun a b => ltSp a b = true
  | [], _ => List.Pairwise.nil
  | [b], _ => by simp [cmpS]
  | b :: c :: l, h => by
    have h' := (List.pairwise_cons.1 h)
    have ih := cmpS_strict (c :: l) h'.2
    simp only [cmpS]
    split
    · exact ih
    · rename_i hne
      refine List.pairwise_cons.2 ⟨fun a ha => ?_, ih⟩
      rw [cmpS_mem] at ha
      have hb := h'.1 a ha
      have hc := h'.1 c (by simp)
      cases hlt : ltSp b a with
      | true => rfl
      | false =>
        have e : b = a := ltSp_tri hlt hb
        subst e
        rcases List.mem_cons.1 ha with rfl | ha
        · exact absurd rfl hne
        · have h3 := (List.pairwise_cons.1 h'.2).1 b ha
          exact absurd (ltSp_tri h3 hc) hne
theorem strict_ext : ∀ {A B : List (Int × Int)}, A.Pairwise (fun a b => ltSp a b = true) → B.Pairwise (fun a b => ltSp a b = true) → (∀ a, a ∈ A ↔ a ∈ B) → A = B
  | [], [], _, _, _ => rfl
  | [], b :: B, _, _, h => absurd ((h b).2 (by simp)) (by simp)
  | a :: A, [], _, _, h => absurd ((h a).1 (by simp)) (by simp)
  | a :: A, b :: B, hA, hB, h => by
    have hA' := List.pairwise_cons.1 hA
    have hB' := List.pairwise_cons.1 hB
    have irr : ∀ x y, ltSp x y = true → ltSp y x = true → False := fun x y h1 h2 => by rw [ltSp_iff] at h1 h2; omega
    have e : a = b := by
      rcases List.mem_cons.1 ((h a).1 (by simp)) with e | h1
      · exact e
      · rcases List.mem_cons.1 ((h b).2 (by simp)) with e | h2
        · exact e.symm
        · exact absurd (irr a b (hA'.1 b h2) (hB'.1 a h1)) (by simp)
    subst e
    congr 1
    refine strict_ext hA'.2 hB'.2 fun x => ?_
    constructor
    · intro hx
      rcases List.mem_cons.1 ((h x).1 (by simp [hx])) with e | h1
      · subst e; exact absurd (irr x x (hA'.1 x hx) (hA'.1 x hx)) (by simp)
      · exact h1
    · intro hx
      rcases List.mem_cons.1 ((h x).2 (by simp [hx])) with e | h1
      · subst e; exact absurd (irr x x (hB'.1 x hx) (hB'.1 x hx)) (by simp)
      · exact h1
/-- A set of cells. -/
def setL (L : List (Int × Int)) : List (Int × Int) := cmpS (srtS L)
theorem setL_mem (L : List (Int × Int)) (a : Int × Int) : a ∈ setL L ↔ a ∈ L := by
  unfold setL; rw [cmpS_mem]; exact (srtS_perm L).mem_iff
theorem setL_strict (L : List (Int × Int)) : (setL L).Pairwise fun a b => ltSp a b = true := cmpS_strict _ (srtS_sorted L)
theorem setL_eq {L B : List (Int × Int)} (hB : B.Pairwise fun a b => ltSp a b = true) (h : ∀ a, a ∈ B ↔ a ∈ L) : setL L = B := strict_ext (setL_strict L) hB fun a => (setL_mem L a).trans (h a).symm
theorem srtS_len (L : List (Int × Int)) : (srtS L).length = L.length := List.length_mergeSort L
/-- The kit's sort gives the sorted list. -/
theorem sorted_srtS {d d' : Array (Int × Int)} (h1 : Go.Sort.PermIn 0 d.size d d') (h2 : Go.Sort.SortedIn ltSp 0 d.size d') : d'.toList = srtS d.toList :=
  Go.Sort.sorted_unique_holds ltSp_swo (fun x y a b => ltSp_tri a b) d d' h1 h2

end Go.Proofs.YtfelopllfhcdpaaGreat.V

/- Cells that hold spots. -/
namespace Go.Proofs.YtfelopllfhcdpaaGreat.V
def SpotR (a : Int × Int) : Prop := (-128 ≤ a.1 ∧ a.1 < 128) ∧ -128 ≤ a.2 ∧ a.2 < 128
def SpotsR (L : List (Int × Int)) : Prop := ∀ k, k < L.length → SpotR (L.getD k (0, 0))
/-- Cells that hold spots. -/
def SpsAt (s : Seg) (L : List (Int × Int)) : Prop := L.length * 2 ≤ s.n ∧ ∀ k, k < L.length * 2 → s.c k = spotsC L k
theorem SpsAt.x {s : Seg} {L : List (Int × Int)} (h : SpsAt s L) {j : Nat} (hj : j < L.length) : s.c (j * 2) = .int .i8 (L.getD j (0, 0)).1 := by rw [h.2 _ (by omega), spotsC_x]
theorem SpsAt.y {s : Seg} {L : List (Int × Int)} (h : SpsAt s L) {j : Nat} (hj : j < L.length) : s.c (j * 2 + 1) = .int .i8 (L.getD j (0, 0)).2 := by rw [h.2 _ (by omega), spotsC_y]

end Go.Proofs.YtfelopllfhcdpaaGreat.V

/- Plain laws of sheets: what a unit given, a round run or dried, leaves. -/
namespace Go.Proofs.YtfelopllfhcdpaaGreat.V

/-- Water and dye are within their bounds. -/
structure Good (S : Sh) : Prop where
  small : Small S
  wet : ∀ y x : Int, 0 ≤ y → y < 8 → 0 ≤ x → x < 8 → 0 ≤ S.wet y x ∧ S.wet y x ≤ 200
  dye : ∀ y x i : Int, 0 ≤ y → y < 8 → 0 ≤ x → x < 8 → 0 ≤ i → i < 3 → 0 ≤ S.dye y x i ∧ S.dye y x i ≤ 1000

section
variable {S : Sh} {w fx fy tx ty : Int} (hw : 0 < w) (hfx : 0 ≤ fx) (hfx8 : fx < 8) (hfy : 0 ≤ fy) (hfy8 : fy < 8) (htx : 0 ≤ tx) (htx8 : tx < 8) (hty : 0 ≤ ty) (hty8 : ty < 8) (hne : ¬ (ty = fy ∧ tx = fx))

end

/-- Sides and wax are the same. -/
structure Alike' (S S' : Sh) : Prop where
  wide : S'.wide = S.wide
  high : S'.high = S.high
  wax : S'.wax = S.wax
theorem Alike'.refl (S : Sh) : Alike' S S := ⟨rfl, rfl, rfl⟩
theorem Alike'.trans {A B C : Sh} (h : Alike' A B) (k : Alike' B C) : Alike' A C := ⟨k.wide.trans h.wide, k.high.trans h.high, k.wax.trans h.wax⟩
theorem Alike'.hasB {S S' : Sh} (h : Alike' S S') (x y : Int) : V.hasB S' x y = V.hasB S x y := by simp [V.hasB, h.wide, h.high]
theorem Alike'.waxB {S S' : Sh} (h : Alike' S S') (x y : Int) : V.waxB S' x y = V.waxB S x y := by simp [V.waxB, h.wax]
theorem Alike'.nb {S S' : Sh} (h : Alike' S S') (x y : Int) : V.nb S' x y = V.nb S x y := by
  simp only [V.nb, V.nbB, h.hasB, h.waxB]

section
variable {S : Sh} {fx fy tx ty : Int} (hG : Good S) (hfx : 0 ≤ fx) (hfx8 : fx < 8) (hfy : 0 ≤ fy) (hfy8 : fy < 8) (htx : 0 ≤ tx) (htx8 : tx < 8) (hty : 0 ≤ ty) (hty8 : ty < 8) (h2 : 2 ≤ S.wet fy fx - S.wet ty tx)
include hG hfx hfx8 hfy hfy8 htx htx8 hty hty8 h2

end

end Go.Proofs.YtfelopllfhcdpaaGreat.V

/- Running and drying: the walk. -/
namespace Go.Proofs.YtfelopllfhcdpaaGreat.V

theorem pair_flat (x y : Int) {z : Nat} (hz : z < 2) : (cl [SV.int .i8 x, SV.int .i8 y] z).flat := cl_flat (l := [_, _]) (fun v hv => by simp at hv; rcases hv with rfl | rfl <;> trivial) hz

section
variable (cx : Cx) (h : List (Nat × Seg)) (n : Nat)

end
end Go.Proofs.YtfelopllfhcdpaaGreat.V

/- Sets of cells: as grids, and as ordered lists. -/
namespace Go.Proofs.YtfelopllfhcdpaaGreat.V
/-- A set of cells as a grid. -/
def mkC (L : List (Int × Int)) : Nat → SV := fun j => .bool (decide ((((j % 8 : Nat) : Int), ((j / 8 : Nat) : Int)) ∈ L))
theorem mkC_flat (L : List (Int × Int)) (k : Nat) : (mkC L k).flat := trivial
def mkS (L : List (Int × Int)) : Seg := ⟨64, mkC L, true, none⟩
def In8 (p : Int × Int) : Prop := (0 ≤ p.1 ∧ p.1 < 8) ∧ 0 ≤ p.2 ∧ p.2 < 8
def In8s (L : List (Int × Int)) : Prop := ∀ p ∈ L, In8 p
abbrev Strict (L : List (Int × Int)) : Prop := L.Pairwise fun a b => ltSp a b = true
theorem mkC_ix {y x : Int} (h1 : 0 ≤ y) (h3 : 0 ≤ x) (h4 : x < 8) : (((y.toNat * 8 + x.toNat) % 8 : Nat) : Int) = x ∧ (((y.toNat * 8 + x.toNat) / 8 : Nat) : Int) = y := by omega
theorem mkC_at (L : List (Int × Int)) {y x : Int} (h1 : 0 ≤ y) (h3 : 0 ≤ x) (h4 : x < 8) : mkC L (y.toNat * 8 + x.toNat) = .bool (decide ((x, y) ∈ L)) := by
  unfold mkC; rw [(mkC_ix h1 h3 h4).1, (mkC_ix h1 h3 h4).2]
theorem mkC_congr {A B : List (Int × Int)} (h : ∀ p, p ∈ A ↔ p ∈ B) : mkC A = mkC B := by
  funext j; unfold mkC; congr 1; exact decide_eq_decide.2 (h _)
theorem mkC_setL (L : List (Int × Int)) : mkC (setL L) = mkC L := mkC_congr fun p => setL_mem L p
theorem mkC_set (L : List (Int × Int)) {y x : Int} (h1 : 0 ≤ y) (h3 : 0 ≤ x) (h4 : x < 8) : upd (mkC L) (y.toNat * 8 + x.toNat) (.bool true) = mkC ((x, y) :: L) := by
  funext j
  by_cases hj : j = y.toNat * 8 + x.toNat
  · subst hj; rw [mkC_at _ h1 h3 h4]; simp [upd]
  · have hn : (((j % 8 : Nat) : Int), ((j / 8 : Nat) : Int)) ≠ (x, y) := fun e => hj (by
      have e1 := congrArg Prod.fst e; have e2 := congrArg Prod.snd e; simp only at e1 e2; omega)
    simp only [upd, hj, if_false, mkC, List.mem_cons, hn, false_or]
theorem mkC_unset (L : List (Int × Int)) {y x : Int} (h1 : 0 ≤ y) (h3 : 0 ≤ x) (h4 : x < 8) : upd (mkC L) (y.toNat * 8 + x.toNat) (.bool false) = mkC (L.filter fun p => decide (p ≠ (x, y))) := by
  funext j
  by_cases hj : j = y.toNat * 8 + x.toNat
  · subst hj; rw [mkC_at _ h1 h3 h4]; simp [upd]
  · have hn : (((j % 8 : Nat) : Int), ((j / 8 : Nat) : Int)) ≠ (x, y) := fun e => hj (by
      have e1 := congrArg Prod.fst e; have e2 := congrArg Prod.snd e; simp only at e1 e2; omega)
    simp only [upd, hj, if_false, mkC, List.mem_filter, hn, ne_eq, not_false_eq_true, decide_true, and_true]
/-- The cells of a grid up to a place, ordered. -/
def cellK (k : Nat) : Int × Int := (((k % 8 : Nat) : Int), ((k / 8 : Nat) : Int))
def upM (L : List (Int × Int)) (k : Nat) : List (Int × Int) := ((List.range k).filter fun k => decide (cellK k ∈ L)).map cellK
theorem upM_succ (L : List (Int × Int)) (k : Nat) : upM L (k + 1) = upM L k ++ (if cellK k ∈ L then [cellK k] else []) := by
  unfold upM
  rw [List.range_succ, List.filter_append, List.map_append]
  congr 1
  by_cases h : cellK k ∈ L <;> simp [h]
theorem upM_len (L : List (Int × Int)) (k : Nat) : (upM L k).length ≤ k := by
  unfold upM; rw [List.length_map]; exact Nat.le_trans (List.length_filter_le _ _) (by simp)
theorem upM_strict (L : List (Int × Int)) (k : Nat) : Strict (upM L k) := by
  unfold upM
  refine List.pairwise_map.2 ((List.Pairwise.sublist List.filter_sublist (List.pairwise_lt_range (n := k))).imp fun {a b} h => ?_)
  rw [ltSp_iff]; simp only [cellK]; omega
theorem upM_mem (L : List (Int × Int)) (p : Int × Int) : p ∈ upM L 64 ↔ p ∈ L ∧ In8 p := by
  unfold upM
  rw [List.mem_map]
  constructor
  · rintro ⟨k, hk, rfl⟩
    rw [List.mem_filter, List.mem_range] at hk
    refine ⟨of_decide_eq_true hk.2, ⟨?_, ?_⟩, ?_, ?_⟩ <;> simp only [cellK] <;> omega
  · rintro ⟨h, ⟨h1, h2⟩, h3, h4⟩
    have e : cellK (p.2.toNat * 8 + p.1.toNat) = p := Prod.ext (mkC_ix h3 h1 h2).1 (mkC_ix h3 h1 h2).2
    refine ⟨p.2.toNat * 8 + p.1.toNat, List.mem_filter.2 ⟨List.mem_range.2 (by omega), ?_⟩, e⟩
    rw [e]; exact decide_eq_true h
theorem upM_eq {L : List (Int × Int)} (hL : Strict L) (h8 : In8s L) : upM L 64 = L :=
  strict_ext (upM_strict L 64) hL fun p => ⟨fun h => ((upM_mem L p).1 h).1, fun h => (upM_mem L p).2 ⟨h, h8 p h⟩⟩
theorem In8s.setL {L : List (Int × Int)} (h : In8s L) : In8s (setL L) := fun p hp => h p ((setL_mem L p).1 hp)
theorem In8s.filter {L : List (Int × Int)} (h : In8s L) (P : Int × Int → Bool) : In8s (L.filter P) := fun p hp => h p (List.mem_filter.1 hp).1
theorem strict_len {L : List (Int × Int)} (hL : Strict L) (h8 : In8s L) : L.length ≤ 64 := by rw [← upM_eq hL h8]; exact upM_len _ _
theorem mk_inj {A B : List (Int × Int)} (hA : Strict A) (hB : Strict B) (a8 : In8s A) (b8 : In8s B) : (∀ j, j < 64 → mkC A j = mkC B j) ↔ A = B := by
  refine ⟨fun h => strict_ext hA hB fun p => ?_, fun h j _ => by rw [h]⟩
  have key : ∀ p, In8 p → (p ∈ A ↔ p ∈ B) := fun p ⟨⟨h1, h2⟩, h3, h4⟩ => by
    have := h (p.2.toNat * 8 + p.1.toNat) (by omega)
    rw [mkC_at _ h3 h1 h2, mkC_at _ h3 h1 h2] at this
    exact decide_eq_decide.1 (SV.bool.inj this)
  exact ⟨fun h => (key p (a8 p h)).1 h, fun h => (key p (b8 p h)).2 h⟩
/-- A spread, and the cells all of whose neighbours are in a set. -/
def nbs (S : Sh) (L : List (Int × Int)) : List (Int × Int) := L.flatMap fun p => nb S p.1 p.2
def spreadL (S : Sh) (L : List (Int × Int)) : List (Int × Int) := setL (L ++ nbs S L)
def inP (S : Sh) (L : List (Int × Int)) (p : Int × Int) : Bool := (nb S p.1 p.2).all fun q => decide (q ∈ L)
def innerL (S : Sh) (L : List (Int × Int)) : List (Int × Int) := L.filter (inP S L)
theorem nb_in {S : Sh} (hS : Small S) {x y : Int} {p : Int × Int} (h : p ∈ nb S x y) : In8 p := by
  have := (List.mem_filter.1 h).2
  simp only [nbB, Bool.not_or, Bool.not_not, Bool.and_eq_true] at this
  have := hasB_in hS this.1
  exact ⟨⟨this.1, this.2.1⟩, this.2.2⟩
theorem nbs_in {S : Sh} (hS : Small S) (L : List (Int × Int)) : In8s (nbs S L) := fun p hp => by
  obtain ⟨q, _, h⟩ := List.mem_flatMap.1 hp; exact nb_in hS h
theorem spreadL_strict (S : Sh) (L : List (Int × Int)) : Strict (spreadL S L) := setL_strict _
theorem spreadL_in {S : Sh} (hS : Small S) {L : List (Int × Int)} (h : In8s L) : In8s (spreadL S L) :=
  In8s.setL fun p hp => (List.mem_append.1 hp).elim (h p) (nbs_in hS L p)
theorem innerL_strict (S : Sh) {L : List (Int × Int)} (h : Strict L) : Strict (innerL S L) := List.Pairwise.sublist List.filter_sublist h
theorem innerL_in {S : Sh} {L : List (Int × Int)} (h : In8s L) : In8s (innerL S L) := h.filter _
theorem nb_len4 (S : Sh) (x y : Int) : (nb S x y).length ≤ 4 := Nat.le_trans (List.length_filter_le _ _) (Nat.le_refl 4)
theorem nbs_len (S : Sh) : ∀ L : List (Int × Int), (nbs S L).length ≤ L.length * 4
  | [] => Nat.le_refl _
  | p :: L => by
    have := nbs_len S L; have := nb_len4 S p.1 p.2
    simp only [nbs, List.flatMap_cons, List.length_append, List.length_cons] at *; omega
end Go.Proofs.YtfelopllfhcdpaaGreat.V

/- Plain laws of drying. -/
namespace Go.Proofs.YtfelopllfhcdpaaGreat.V

/-- Cells before number j. -/
def before (W j : Nat) (y x : Int) : Prop := ∃ k, k < j ∧ y = ((k / W : Nat) : Int) ∧ x = ((k % W : Nat) : Int)
end Go.Proofs.YtfelopllfhcdpaaGreat.V

/- Validity of a sheet, its water: the walk of the program's own. -/
namespace Go.Proofs.YtfelopllfhcdpaaGreat.V

/-- A place of a sheet is as it should be. -/
def CellOk (S : Sh) (x y : Int) : Prop :=
  (waxB S x y = true → hasB S x y = true) ∧ (0 ≤ S.wet y x ∧ S.wet y x ≤ 200) ∧ (∀ i : Int, 0 ≤ i → i < 3 → 0 ≤ S.dye y x i ∧ S.dye y x i ≤ 1000) ∧
    ((hasB S x y = true ∧ waxB S x y = false) ∨ (S.wet y x = 0 ∧ S.dye y x 0 = 0 ∧ S.dye y x 1 = 0 ∧ S.dye y x 2 = 0))
def Valid (S : Sh) : Prop := Small S ∧ ∀ y x : Int, 0 ≤ y → y < 8 → 0 ≤ x → x < 8 → CellOk S x y
open Classical in
noncomputable def validB (S : Sh) : Bool := decide (Valid S)
theorem validB_true {S : Sh} (h : Valid S) : validB S = true := by simp [validB, h]
theorem validB_false {S : Sh} (h : ¬ Valid S) : validB S = false := by simp [validB, h]
theorem Valid.good {S : Sh} (h : Valid S) : Good S := ⟨h.1, fun y x a b c d => (h.2 y x a b c d).2.1, fun y x i a b c d e f => (h.2 y x a b c d).2.2.1 i e f⟩

section
variable (cx : Cx) (h : List (Nat × Seg)) (n : Nat)

theorem within_Q (a lo hi : Int) : CallQ Tryz.prog cx 65 [.int .i64 a, .int .i64 lo, .int .i64 hi] h n (.bool (decide (lo ≤ a ∧ a ≤ hi))) := by
  refine callQ_of_T (P := Tryz.prog) hti (nt := 15) (rs := [.tmp 6]) rfl rfl Tryz.call65 Tryz.func65 rfl _ (by simp only [go_sem, and_self]) (Nat.le_of_ble_eq_true rfl) _ (by first | exact trivial | (refine lt_flat rfl ?_; simp [SV.flat]; done) | simp only [go_sem]) fun hok => ?_
  simp only [go_sem, Nat.reduceBEq, Nat.reduceLT, HExt_cons, SV.bool.injEq, decide_eq_true_eq, decide_eq_false_iff_not]
  constructor <;> intro h1 <;> simp [h1]
theorem dye_Q (i o : Nat) (s : Seg) (S : Sh) (x y : Int) (hs : hget h i = some s) (hi : i < n) (hS : ShAt s o S) (hx : 0 ≤ x) (hx8 : x < 8) (hy : 0 ≤ y) (hy8 : y < 8) :
    CallQ Tryz.prog cx 103 [.ptr i o, spot x y] h n (.agg 3 (cl [.int .i16 (S.dye y x 0), .int .i16 (S.dye y x 1), .int .i16 (S.dye y x 2)])) := by
  have hne : (n == i) = false := by simp; omega
  have hlen := hS.1
  have d0 : s.c (o + 66 + y.toNat * 24 + x.toNat * 3) = .int .i16 (S.dye y x 0) := hS.dyeN 0 hy hy8 hx hx8 (by omega)
  have d1 : s.c (o + 66 + y.toNat * 24 + x.toNat * 3 + 1) = .int .i16 (S.dye y x 1) := hS.dyeN 1 hy hy8 hx hx8 (by omega)
  have d2 : s.c (o + 66 + y.toNat * 24 + x.toNat * 3 + 2) = .int .i16 (S.dye y x 2) := hS.dyeN 2 hy hy8 hx hx8 (by omega)
  refine callQ_of_T (P := Tryz.prog) hti (nt := 15) (rs := [.cell 4 26]) rfl rfl Tryz.call103 Tryz.func103 rfl _ (by simp only [go_sem, and_self]) (Nat.le_of_ble_eq_true rfl) _ (by first | exact trivial | (refine lt_flat rfl ?_; simp [SV.flat]; done) | simp only [go_sem]) fun hok => ?_
  simp only [go_sem, Nat.reduceBEq, Nat.reduceLT, Nat.reduceEqDiff, reduceIte]
  refine T_drawT hti 10 _ _ (by kernel_rfl) (by kernel_rfl) ?_
  have hnk : ∀ k, (n + k == i) = false := fun k => by simp; omega
  simp only [go_sem, Nat.reduceBEq, Nat.reduceLT, Nat.reduceLeDiff, reduceIte, reduceCtorEq, hne, hnk, hs, hx, hx8, hy, hy8, d0, d1, d2, HExt_cons]
  omega

theorem valid_Q (F : Nat → SV) (S : Sh) (hF : ShF F S) : CallQ Tryz.prog cx 80 [.agg 266 F] h n (.bool (validB S)) := by
  have hS : ShAt ⟨266, F, true, none⟩ 0 S := ⟨by simp, by simpa using hF⟩
  have hR := hF.R
  have wW := w64 (n := S.wide) (by have := hR.wide; omega)
  have wH := w64 (n := S.high) (by have := hR.high; omega)
  refine callQ_of_T (P := Tryz.prog) hti (nt := 77) (rs := [.tmp 2]) rfl rfl Tryz.call80 Tryz.func80 rfl _ (by simp only [go_sem, and_self]) (Nat.le_of_ble_eq_true rfl) _ (by first | exact trivial | (refine lt_flat rfl ?_; simp [SV.flat]; done) | simp only [go_sem]) fun hok => ?_
  simp only [go_sem, Nat.reduceBEq, Nat.reduceLT, Nat.reduceLeDiff, reduceCtorEq, hF.wide, hF.high, wW, wH]
  refine (within_Q _ _ _ S.wide 1 8).A ?_
  by_cases hw : 1 ≤ S.wide ∧ S.wide ≤ 8
  rotate_left
  · simp only [go_sem, Nat.reduceBEq, Nat.reduceLT, hF.wide, hF.high, wW, wH, decide_eq_false hw, Bool.not_false, HExt_cons, SV.bool.injEq]
    exact (validB_false fun hv => hw ⟨hv.1.1, hv.1.2.1⟩).symm
  simp only [go_sem, Nat.reduceBEq, Nat.reduceLT, Nat.reduceLeDiff, reduceCtorEq, hF.wide, hF.high, wW, wH, decide_eq_true hw, Bool.not_true]
  refine (within_Q _ _ _ S.high 1 8).A ?_
  by_cases hh : 1 ≤ S.high ∧ S.high ≤ 8
  rotate_left
  · simp only [go_sem, Nat.reduceBEq, Nat.reduceLT, decide_eq_false hh, Bool.not_false, HExt_cons, SV.bool.injEq]
    exact (validB_false fun hv => hh ⟨hv.1.2.2.1, hv.1.2.2.2⟩).symm
  simp only [go_sem, Nat.reduceBEq, Nat.reduceLT, decide_eq_true hh, Bool.not_true]
  have hsm : Small S := ⟨hw.1, hw.2, hh.1, hh.2⟩
  refine T_lp (ι := { y : Nat // y ≤ 8 ∧ ∀ y' x' : Int, 0 ≤ y' → y' < y → 0 ≤ x' → x' < 8 → CellOk S x' y' })
    (fun y => ([(1, .ptr n 0), (21, .int .i8 y.1)], (n, ⟨266, F, true, none⟩) :: h, n + 1)) (fun y => 8 - y.1) ⟨0, by omega, fun _ _ _ _ => by omega⟩ ?_ ?_
  · refine Imp.id (by simp) ?_ ?_
    · simp only [go_sem, Nat.reduceBEq]
      omega
    · exact impH.cons0 (by simp only [go_sem]) (by simp) (SegLe.flat (Nat.le_refl _) id (.inr rfl) fun z hz => ⟨rfl, hF.flat hz⟩) (impH.base0 hok (by simp) (HExt.rfl.cons (Nat.le_refl n)))
  · rintro ⟨y, hy, hally⟩
    try simp only at hy hally
    simp only [go_sem, Nat.reduceBEq, Nat.reduceLT, decide_eq_true_eq, decide_eq_false_iff_not]
    refine ⟨fun h1 => ?_, fun h1 => ?_⟩
    · refine T_lp (ι := { x : Nat // x ≤ 8 ∧ ∀ x' : Int, 0 ≤ x' → x' < x → CellOk S x' y })
        (fun x => ([(1, .ptr n 0), (3, .int .i8 y), (21, .int .i8 y), (24, .int .i8 x.1)], (n, ⟨266, F, true, none⟩) :: h, n + 1)) (fun x => 8 - x.1) ⟨0, by omega, fun _ _ => by omega⟩ ?_ ?_
      · refine Imp.id (by simp) ?_ ?_
        · simp only [go_sem, Nat.reduceBEq]
          omega
        · exact impH.cons0 (by simp only [go_sem]) (by simp) (SegLe.flat (Nat.le_refl _) id (.inr rfl) fun z hz => ⟨rfl, hF.flat hz⟩) (impH.base0 hok (by simp) (HExt.rfl.cons (Nat.le_refl n)))
      · rintro ⟨x, hx, hallx⟩
        try simp only at hx hallx
        simp only [go_sem, Nat.reduceBEq, Nat.reduceLT, Nat.reduceLeDiff, Nat.reduceEqDiff, reduceIte, decide_eq_true_eq, decide_eq_false_iff_not]
        refine ⟨fun h2 => ?_, fun h2 => ?_⟩
        · have x0 : (0 : Int) ≤ x := by omega
          have y0 : (0 : Int) ≤ y := by omega
          have hbad : ¬ CellOk S x y → validB S = false := fun hc => validB_false fun hv => hc (hv.2 y x y0 h1 x0 h2)
          refine (has_Q _ _ _ n 0 _ S x y (by simp only [go_sem]) (by omega) hS).A ?_
          cases hb : hasB S x y <;> cases wb : waxB S x y
          · have hwh : waxB S x y = true → hasB S x y = true := fun h => by rw [wb] at h; cases h
            simp only [go_sem, Nat.reduceBEq, Nat.reduceLT, Bool.not_true, Bool.not_false, decide_eq_true_eq, decide_eq_false_iff_not]
            refine (waxed_Q _ _ _ n 0 _ S x y (by simp only [go_sem]) (by omega) hS x0 y0 h1).A ?_
            simp only [go_sem, Nat.reduceBEq, Nat.reduceLT, Bool.not_true, Bool.not_false, decide_eq_true_eq, decide_eq_false_iff_not, wb]
            refine (wet_Q _ _ _ n 0 _ S x y (by simp only [go_sem]) (by omega) hS x0 h2 y0 h1).A ?_
            by_cases hz : S.wet y x = 0
            rotate_left
            · simp only [go_sem, Nat.reduceBEq, Nat.reduceLT, Bool.not_true, Bool.not_false, decide_eq_true_eq, decide_eq_false_iff_not, decide_eq_false hz, HExt_cons, SV.bool.injEq]
              exact (hbad fun hc => hc.2.2.2.elim (fun h => by simp [hb, wb] at h) (fun h => hz h.1)).symm
            simp only [go_sem, Nat.reduceBEq, Nat.reduceLT, Bool.not_true, Bool.not_false, decide_eq_true_eq, decide_eq_false_iff_not, decide_eq_true hz]
            refine (dye_Q _ _ _ n 0 _ S x y (by simp only [go_sem]) (by omega) hS x0 h2 y0 h1).A ?_
            by_cases hd : S.dye y x 0 = 0 ∧ S.dye y x 1 = 0 ∧ S.dye y x 2 = 0
            rotate_left
            · have hd' : ((decide (S.dye y x 0 = 0) && decide (S.dye y x 1 = 0)) && decide (S.dye y x 2 = 0)) = false := by
                rw [Bool.eq_false_iff]; simp only [ne_eq, Bool.and_eq_true, decide_eq_true_eq]; exact fun h => hd ⟨h.1.1, h.1.2, h.2⟩
              simp only [go_sem, Nat.reduceBEq, Nat.reduceLT, Nat.reduceMod, Bool.not_true, Bool.not_false, decide_eq_true_eq, decide_eq_false_iff_not, Bool.true_and, hd', HExt_cons, SV.bool.injEq]
              exact (hbad fun hc => hc.2.2.2.elim (fun h => by simp [hb, wb] at h) (fun h => hd h.2)).symm
            simp only [go_sem, Nat.reduceBEq, Nat.reduceLT, Nat.reduceMod, Bool.not_true, Bool.not_false, decide_eq_true_eq, decide_eq_false_iff_not, Bool.true_and, decide_eq_true hd.1, decide_eq_true hd.2.1, decide_eq_true hd.2.2, Bool.and_self]
            refine (wet_Q _ _ _ n 0 _ S x y (by simp only [go_sem]) (by omega) hS x0 h2 y0 h1).A ?_
            simp only [go_sem, Nat.reduceBEq, Nat.reduceLT, Bool.not_true, Bool.not_false, decide_eq_true_eq, decide_eq_false_iff_not, hz]
            refine (within_Q _ _ _ _ _ _).A ?_
            have hwn : 0 ≤ S.wet y x ∧ S.wet y x ≤ 200 := by omega
            have hfz : (hasB S x y = true ∧ waxB S x y = false) ∨ (S.wet y x = 0 ∧ S.dye y x 0 = 0 ∧ S.dye y x 1 = 0 ∧ S.dye y x 2 = 0) := .inr ⟨hz, hd⟩
            have hwn0 : decide ((0 : Int) ≤ 0 ∧ (0 : Int) ≤ 200) = true := by decide
            simp only [go_sem, Nat.reduceBEq, Nat.reduceLT, Int.reduceLE, Bool.not_true, Bool.not_false, decide_eq_true_eq, decide_eq_false_iff_not, hwn0, hz]
            refine (dye_Q _ _ _ n 0 _ S x y (by simp only [go_sem]) (by omega) hS x0 h2 y0 h1).A ?_
            simp only [go_sem, Nat.reduceLT, Bool.not_true, Bool.not_false, decide_eq_true_eq, decide_eq_false_iff_not]
            refine T_lp (ι := { k : Nat // k ≤ 3 ∧ ∀ k' : Int, 0 ≤ k' → k' < k → 0 ≤ S.dye y x k' ∧ S.dye y x k' ≤ 1000 })
              (fun k => ([(1, .ptr n 0), (3, .int .i8 y), (21, .int .i8 y), (24, .int .i8 x), (66, .agg 3 (cl [.int .i16 (S.dye y x 0), .int .i16 (S.dye y x 1), .int .i16 (S.dye y x 2)])), (67, .int .i64 k.1)], (n, ⟨266, F, true, none⟩) :: h, n + 1)) (fun k => 3 - k.1) ⟨0, by omega, fun _ _ => by omega⟩ ?_ ?_
            · refine Imp.id (by simp) ?_ ?_
              · simp only [go_sem, Nat.reduceBEq]
                exact ⟨by omega, lt_flat (vs := [_, _, _]) rfl (by simp [SV.flat])⟩
              · exact impH.cons0 (by simp only [go_sem]) (by simp) (SegLe.flat (Nat.le_refl _) id (.inr rfl) fun z hz => ⟨rfl, hF.flat hz⟩) (impH.base0 hok (by simp) ((HExt.rfl.cons (Nat.le_refl n)).cons (by simp)))
            · rintro ⟨k, hk, hallk⟩
              try simp only at hk hallk
              simp only [go_sem, Nat.reduceBEq, Nat.reduceLT, decide_eq_true_eq, decide_eq_false_iff_not]
              refine ⟨fun h3 => ⟨by omega, ?_⟩, fun h3 => ?_⟩
              · have hcl : cl [SV.int .i16 (S.dye y x 0), .int .i16 (S.dye y x 1), .int .i16 (S.dye y x 2)] k = .int .i16 (S.dye y x k) := by
                  rcases (by omega : k = 0 ∨ k = 1 ∨ k = 2) with rfl | rfl | rfl <;> rfl
                have hdr := hR.dye y x k
                simp only [go_sem, Nat.reduceLT, hcl, w64 (n := S.dye y x k) (by omega)]
                refine (within_Q _ _ _ _ _ _).A ?_
                by_cases hdk : 0 ≤ S.dye y x k ∧ S.dye y x k ≤ 1000
                · simp only [go_sem, Nat.reduceBEq, Nat.reduceLT, decide_eq_true hdk, Bool.not_true]
                  refine ⟨⟨k + 1, by omega, fun k' a b => ?_⟩, by show 3 - (k + 1) < 3 - k; omega, ?_⟩
                  · rcases (by omega : k' < k ∨ k' = k) with h | rfl
                    · exact hallk k' a h
                    · exact hdk
                  · refine Imp.id (by simp) ?_ ?_
                    · simp only [go_sem, Nat.reduceBEq, w64 (n := (k : Int) + 1) (by omega), Int.natCast_add, Int.natCast_one]
                      exact ⟨by omega, lt_flat (vs := [_, _, _]) rfl (by simp [SV.flat])⟩
                    · exact impH.cons0 (by simp only [go_sem]) (by simp) (SegLe.flat (Nat.le_refl _) id (.inr rfl) fun z hz => ⟨rfl, hF.flat hz⟩) (impH.base0 hok (by simp) (HExt.rfl.cons (Nat.le_refl n)))
                · simp only [go_sem, Nat.reduceLT, decide_eq_false hdk, Bool.not_false, HExt_cons, SV.bool.injEq]
                  exact (hbad fun hc => hdk (hc.2.2.1 k (by omega) h3)).symm
              · have hcell : CellOk S x y := ⟨hwh, hwn, fun k' a b => hallk k' a (by omega), hfz⟩
                refine ⟨⟨x + 1, by omega, fun x' a b => ?_⟩, by show 8 - (x + 1) < 8 - x; omega, ?_⟩
                · rcases (by omega : x' < x ∨ x' = x) with h | rfl
                  · exact hallx x' a h
                  · exact hcell
                · refine Imp.id (by simp) ?_ ?_
                  · simp only [go_sem, Nat.reduceBEq, w8 (n := (x : Int) + 1) (by omega), Int.natCast_add, Int.natCast_one]
                    omega
                  · exact impH.cons0 (by simp only [go_sem]) (by simp) (SegLe.flat (Nat.le_refl _) id (.inr rfl) fun z hz => ⟨rfl, hF.flat hz⟩) (impH.base0 hok (by simp) (HExt.rfl.cons (Nat.le_refl n)))
          · simp only [go_sem, Nat.reduceBEq, Nat.reduceLT, Bool.not_true, Bool.not_false, decide_eq_true_eq, decide_eq_false_iff_not]
            refine (waxed_Q _ _ _ n 0 _ S x y (by simp only [go_sem]) (by omega) hS x0 y0 h1).A ?_
            simp only [go_sem, Nat.reduceBEq, Nat.reduceLT, Bool.not_true, Bool.not_false, decide_eq_true_eq, decide_eq_false_iff_not, wb]
            refine (has_Q _ _ _ n 0 _ S x y (by simp only [go_sem]) (by omega) hS).A ?_
            simp only [go_sem, Nat.reduceBEq, Nat.reduceLT, Bool.not_true, Bool.not_false, decide_eq_true_eq, decide_eq_false_iff_not, hb, HExt_cons, SV.bool.injEq]
            exact (hbad fun hc => by have := hc.1 wb; rw [hb] at this; cases this).symm
          · have hwh : waxB S x y = true → hasB S x y = true := fun _ => hb
            simp only [go_sem, Nat.reduceBEq, Nat.reduceLT, Bool.not_true, Bool.not_false, decide_eq_true_eq, decide_eq_false_iff_not]
            refine (waxed_Q _ _ _ n 0 _ S x y (by simp only [go_sem]) (by omega) hS x0 y0 h1).A ?_
            simp only [go_sem, Nat.reduceBEq, Nat.reduceLT, Bool.not_true, Bool.not_false, decide_eq_true_eq, decide_eq_false_iff_not, wb]
            refine (waxed_Q _ _ _ n 0 _ S x y (by simp only [go_sem]) (by omega) hS x0 y0 h1).A ?_
            simp only [go_sem, Nat.reduceBEq, Nat.reduceLT, Bool.not_true, Bool.not_false, decide_eq_true_eq, decide_eq_false_iff_not, wb]
            refine (wet_Q _ _ _ n 0 _ S x y (by simp only [go_sem]) (by omega) hS x0 h2 y0 h1).A ?_
            simp only [go_sem, Nat.reduceBEq, Nat.reduceLT, Bool.not_true, Bool.not_false, decide_eq_true_eq, decide_eq_false_iff_not]
            refine (within_Q _ _ _ _ _ _).A ?_
            by_cases hwn : 0 ≤ S.wet y x ∧ S.wet y x ≤ 200
            rotate_left
            · simp only [go_sem, Nat.reduceBEq, Nat.reduceLT, Bool.not_true, Bool.not_false, decide_eq_true_eq, decide_eq_false_iff_not, decide_eq_false hwn, HExt_cons, SV.bool.injEq]
              exact (hbad fun hc => hwn hc.2.1).symm
            have hfz : (hasB S x y = true ∧ waxB S x y = false) ∨ (S.wet y x = 0 ∧ S.dye y x 0 = 0 ∧ S.dye y x 1 = 0 ∧ S.dye y x 2 = 0) := .inl ⟨hb, wb⟩
            simp only [go_sem, Nat.reduceBEq, Nat.reduceLT, Bool.not_true, Bool.not_false, decide_eq_true_eq, decide_eq_false_iff_not, decide_eq_true hwn]
            refine (dye_Q _ _ _ n 0 _ S x y (by simp only [go_sem]) (by omega) hS x0 h2 y0 h1).A ?_
            simp only [go_sem, Nat.reduceLT, Bool.not_true, Bool.not_false, decide_eq_true_eq, decide_eq_false_iff_not]
            refine T_lp (ι := { k : Nat // k ≤ 3 ∧ ∀ k' : Int, 0 ≤ k' → k' < k → 0 ≤ S.dye y x k' ∧ S.dye y x k' ≤ 1000 })
              (fun k => ([(1, .ptr n 0), (3, .int .i8 y), (21, .int .i8 y), (24, .int .i8 x), (66, .agg 3 (cl [.int .i16 (S.dye y x 0), .int .i16 (S.dye y x 1), .int .i16 (S.dye y x 2)])), (67, .int .i64 k.1)], (n, ⟨266, F, true, none⟩) :: h, n + 1)) (fun k => 3 - k.1) ⟨0, by omega, fun _ _ => by omega⟩ ?_ ?_
            · refine Imp.id (by simp) ?_ ?_
              · simp only [go_sem, Nat.reduceBEq]
                exact ⟨by omega, lt_flat (vs := [_, _, _]) rfl (by simp [SV.flat])⟩
              · exact impH.cons0 (by simp only [go_sem]) (by simp) (SegLe.flat (Nat.le_refl _) id (.inr rfl) fun z hz => ⟨rfl, hF.flat hz⟩) (impH.base0 hok (by simp) ((HExt.rfl.cons (Nat.le_refl n)).cons (by simp)))
            · rintro ⟨k, hk, hallk⟩
              try simp only at hk hallk
              simp only [go_sem, Nat.reduceBEq, Nat.reduceLT, decide_eq_true_eq, decide_eq_false_iff_not]
              refine ⟨fun h3 => ⟨by omega, ?_⟩, fun h3 => ?_⟩
              · have hcl : cl [SV.int .i16 (S.dye y x 0), .int .i16 (S.dye y x 1), .int .i16 (S.dye y x 2)] k = .int .i16 (S.dye y x k) := by
                  rcases (by omega : k = 0 ∨ k = 1 ∨ k = 2) with rfl | rfl | rfl <;> rfl
                have hdr := hR.dye y x k
                simp only [go_sem, Nat.reduceLT, hcl, w64 (n := S.dye y x k) (by omega)]
                refine (within_Q _ _ _ _ _ _).A ?_
                by_cases hdk : 0 ≤ S.dye y x k ∧ S.dye y x k ≤ 1000
                · simp only [go_sem, Nat.reduceBEq, Nat.reduceLT, decide_eq_true hdk, Bool.not_true]
                  refine ⟨⟨k + 1, by omega, fun k' a b => ?_⟩, by show 3 - (k + 1) < 3 - k; omega, ?_⟩
                  · rcases (by omega : k' < k ∨ k' = k) with h | rfl
                    · exact hallk k' a h
                    · exact hdk
                  · refine Imp.id (by simp) ?_ ?_
                    · simp only [go_sem, Nat.reduceBEq, w64 (n := (k : Int) + 1) (by omega), Int.natCast_add, Int.natCast_one]
                      exact ⟨by omega, lt_flat (vs := [_, _, _]) rfl (by simp [SV.flat])⟩
                    · exact impH.cons0 (by simp only [go_sem]) (by simp) (SegLe.flat (Nat.le_refl _) id (.inr rfl) fun z hz => ⟨rfl, hF.flat hz⟩) (impH.base0 hok (by simp) (HExt.rfl.cons (Nat.le_refl n)))
                · simp only [go_sem, Nat.reduceLT, decide_eq_false hdk, Bool.not_false, HExt_cons, SV.bool.injEq]
                  exact (hbad fun hc => hdk (hc.2.2.1 k (by omega) h3)).symm
              · have hcell : CellOk S x y := ⟨hwh, hwn, fun k' a b => hallk k' a (by omega), hfz⟩
                refine ⟨⟨x + 1, by omega, fun x' a b => ?_⟩, by show 8 - (x + 1) < 8 - x; omega, ?_⟩
                · rcases (by omega : x' < x ∨ x' = x) with h | rfl
                  · exact hallx x' a h
                  · exact hcell
                · refine Imp.id (by simp) ?_ ?_
                  · simp only [go_sem, Nat.reduceBEq, w8 (n := (x : Int) + 1) (by omega), Int.natCast_add, Int.natCast_one]
                    omega
                  · exact impH.cons0 (by simp only [go_sem]) (by simp) (SegLe.flat (Nat.le_refl _) id (.inr rfl) fun z hz => ⟨rfl, hF.flat hz⟩) (impH.base0 hok (by simp) (HExt.rfl.cons (Nat.le_refl n)))
          · have hwh : waxB S x y = true → hasB S x y = true := fun _ => hb
            simp only [go_sem, Nat.reduceBEq, Nat.reduceLT, Bool.not_true, Bool.not_false, decide_eq_true_eq, decide_eq_false_iff_not]
            refine (waxed_Q _ _ _ n 0 _ S x y (by simp only [go_sem]) (by omega) hS x0 y0 h1).A ?_
            simp only [go_sem, Nat.reduceBEq, Nat.reduceLT, Bool.not_true, Bool.not_false, decide_eq_true_eq, decide_eq_false_iff_not, wb]
            refine (waxed_Q _ _ _ n 0 _ S x y (by simp only [go_sem]) (by omega) hS x0 y0 h1).A ?_
            simp only [go_sem, Nat.reduceBEq, Nat.reduceLT, Bool.not_true, Bool.not_false, decide_eq_true_eq, decide_eq_false_iff_not, wb]
            refine (has_Q _ _ _ n 0 _ S x y (by simp only [go_sem]) (by omega) hS).A ?_
            simp only [go_sem, Nat.reduceBEq, Nat.reduceLT, Bool.not_true, Bool.not_false, decide_eq_true_eq, decide_eq_false_iff_not, hb]
            refine (wet_Q _ _ _ n 0 _ S x y (by simp only [go_sem]) (by omega) hS x0 h2 y0 h1).A ?_
            by_cases hz : S.wet y x = 0
            rotate_left
            · simp only [go_sem, Nat.reduceBEq, Nat.reduceLT, Bool.not_true, Bool.not_false, decide_eq_true_eq, decide_eq_false_iff_not, decide_eq_false hz, HExt_cons, SV.bool.injEq]
              exact (hbad fun hc => hc.2.2.2.elim (fun h => by simp [hb, wb] at h) (fun h => hz h.1)).symm
            simp only [go_sem, Nat.reduceBEq, Nat.reduceLT, Bool.not_true, Bool.not_false, decide_eq_true_eq, decide_eq_false_iff_not, decide_eq_true hz]
            refine (dye_Q _ _ _ n 0 _ S x y (by simp only [go_sem]) (by omega) hS x0 h2 y0 h1).A ?_
            by_cases hd : S.dye y x 0 = 0 ∧ S.dye y x 1 = 0 ∧ S.dye y x 2 = 0
            rotate_left
            · have hd' : ((decide (S.dye y x 0 = 0) && decide (S.dye y x 1 = 0)) && decide (S.dye y x 2 = 0)) = false := by
                rw [Bool.eq_false_iff]; simp only [ne_eq, Bool.and_eq_true, decide_eq_true_eq]; exact fun h => hd ⟨h.1.1, h.1.2, h.2⟩
              simp only [go_sem, Nat.reduceBEq, Nat.reduceLT, Nat.reduceMod, Bool.not_true, Bool.not_false, decide_eq_true_eq, decide_eq_false_iff_not, Bool.true_and, hd', HExt_cons, SV.bool.injEq]
              exact (hbad fun hc => hc.2.2.2.elim (fun h => by simp [hb, wb] at h) (fun h => hd h.2)).symm
            simp only [go_sem, Nat.reduceBEq, Nat.reduceLT, Nat.reduceMod, Bool.not_true, Bool.not_false, decide_eq_true_eq, decide_eq_false_iff_not, Bool.true_and, decide_eq_true hd.1, decide_eq_true hd.2.1, decide_eq_true hd.2.2, Bool.and_self]
            refine (wet_Q _ _ _ n 0 _ S x y (by simp only [go_sem]) (by omega) hS x0 h2 y0 h1).A ?_
            simp only [go_sem, Nat.reduceBEq, Nat.reduceLT, Bool.not_true, Bool.not_false, decide_eq_true_eq, decide_eq_false_iff_not, hz]
            refine (within_Q _ _ _ _ _ _).A ?_
            have hwn : 0 ≤ S.wet y x ∧ S.wet y x ≤ 200 := by omega
            have hfz : (hasB S x y = true ∧ waxB S x y = false) ∨ (S.wet y x = 0 ∧ S.dye y x 0 = 0 ∧ S.dye y x 1 = 0 ∧ S.dye y x 2 = 0) := .inr ⟨hz, hd⟩
            have hwn0 : decide ((0 : Int) ≤ 0 ∧ (0 : Int) ≤ 200) = true := by decide
            simp only [go_sem, Nat.reduceBEq, Nat.reduceLT, Int.reduceLE, Bool.not_true, Bool.not_false, decide_eq_true_eq, decide_eq_false_iff_not, hwn0, hz]
            refine (dye_Q _ _ _ n 0 _ S x y (by simp only [go_sem]) (by omega) hS x0 h2 y0 h1).A ?_
            simp only [go_sem, Nat.reduceLT, Bool.not_true, Bool.not_false, decide_eq_true_eq, decide_eq_false_iff_not]
            refine T_lp (ι := { k : Nat // k ≤ 3 ∧ ∀ k' : Int, 0 ≤ k' → k' < k → 0 ≤ S.dye y x k' ∧ S.dye y x k' ≤ 1000 })
              (fun k => ([(1, .ptr n 0), (3, .int .i8 y), (21, .int .i8 y), (24, .int .i8 x), (66, .agg 3 (cl [.int .i16 (S.dye y x 0), .int .i16 (S.dye y x 1), .int .i16 (S.dye y x 2)])), (67, .int .i64 k.1)], (n, ⟨266, F, true, none⟩) :: h, n + 1)) (fun k => 3 - k.1) ⟨0, by omega, fun _ _ => by omega⟩ ?_ ?_
            · refine Imp.id (by simp) ?_ ?_
              · simp only [go_sem, Nat.reduceBEq]
                exact ⟨by omega, lt_flat (vs := [_, _, _]) rfl (by simp [SV.flat])⟩
              · exact impH.cons0 (by simp only [go_sem]) (by simp) (SegLe.flat (Nat.le_refl _) id (.inr rfl) fun z hz => ⟨rfl, hF.flat hz⟩) (impH.base0 hok (by simp) ((HExt.rfl.cons (Nat.le_refl n)).cons (by simp)))
            · rintro ⟨k, hk, hallk⟩
              try simp only at hk hallk
              simp only [go_sem, Nat.reduceBEq, Nat.reduceLT, decide_eq_true_eq, decide_eq_false_iff_not]
              refine ⟨fun h3 => ⟨by omega, ?_⟩, fun h3 => ?_⟩
              · have hcl : cl [SV.int .i16 (S.dye y x 0), .int .i16 (S.dye y x 1), .int .i16 (S.dye y x 2)] k = .int .i16 (S.dye y x k) := by
                  rcases (by omega : k = 0 ∨ k = 1 ∨ k = 2) with rfl | rfl | rfl <;> rfl
                have hdr := hR.dye y x k
                simp only [go_sem, Nat.reduceLT, hcl, w64 (n := S.dye y x k) (by omega)]
                refine (within_Q _ _ _ _ _ _).A ?_
                by_cases hdk : 0 ≤ S.dye y x k ∧ S.dye y x k ≤ 1000
                · simp only [go_sem, Nat.reduceBEq, Nat.reduceLT, decide_eq_true hdk, Bool.not_true]
                  refine ⟨⟨k + 1, by omega, fun k' a b => ?_⟩, by show 3 - (k + 1) < 3 - k; omega, ?_⟩
                  · rcases (by omega : k' < k ∨ k' = k) with h | rfl
                    · exact hallk k' a h
                    · exact hdk
                  · refine Imp.id (by simp) ?_ ?_
                    · simp only [go_sem, Nat.reduceBEq, w64 (n := (k : Int) + 1) (by omega), Int.natCast_add, Int.natCast_one]
                      exact ⟨by omega, lt_flat (vs := [_, _, _]) rfl (by simp [SV.flat])⟩
                    · exact impH.cons0 (by simp only [go_sem]) (by simp) (SegLe.flat (Nat.le_refl _) id (.inr rfl) fun z hz => ⟨rfl, hF.flat hz⟩) (impH.base0 hok (by simp) (HExt.rfl.cons (Nat.le_refl n)))
                · simp only [go_sem, Nat.reduceLT, decide_eq_false hdk, Bool.not_false, HExt_cons, SV.bool.injEq]
                  exact (hbad fun hc => hdk (hc.2.2.1 k (by omega) h3)).symm
              · have hcell : CellOk S x y := ⟨hwh, hwn, fun k' a b => hallk k' a (by omega), hfz⟩
                refine ⟨⟨x + 1, by omega, fun x' a b => ?_⟩, by show 8 - (x + 1) < 8 - x; omega, ?_⟩
                · rcases (by omega : x' < x ∨ x' = x) with h | rfl
                  · exact hallx x' a h
                  · exact hcell
                · refine Imp.id (by simp) ?_ ?_
                  · simp only [go_sem, Nat.reduceBEq, w8 (n := (x : Int) + 1) (by omega), Int.natCast_add, Int.natCast_one]
                    omega
                  · exact impH.cons0 (by simp only [go_sem]) (by simp) (SegLe.flat (Nat.le_refl _) id (.inr rfl) fun z hz => ⟨rfl, hF.flat hz⟩) (impH.base0 hok (by simp) (HExt.rfl.cons (Nat.le_refl n)))
        · have hx8 : x = 8 := by omega
          refine ⟨⟨y + 1, by omega, fun y' x' a b c d => ?_⟩, by show 8 - (y + 1) < 8 - y; omega, ?_⟩
          · rcases (by omega : y' < y ∨ y' = y) with h | rfl
            · exact hally y' x' a h c d
            · exact hallx x' c (by omega)
          · refine Imp.id (by simp) ?_ ?_
            · simp only [go_sem, Nat.reduceBEq, w8 (n := (y : Int) + 1) (by omega), Int.natCast_add, Int.natCast_one]
              omega
            · exact impH.cons0 (by simp only [go_sem]) (by simp) (SegLe.flat (Nat.le_refl _) id (.inr rfl) fun z hz => ⟨rfl, hF.flat hz⟩) (impH.base0 hok (by simp) (HExt.rfl.cons (Nat.le_refl n)))
    · simp only [go_sem, HExt_cons, SV.bool.injEq]
      exact (validB_true ⟨hsm, fun y' x' a b c d => hally y' x' a (by omega) c d⟩).symm
end
end Go.Proofs.YtfelopllfhcdpaaGreat.V

/- Plain laws of water: running keeps it, drying lessens it. -/
namespace Go.Proofs.YtfelopllfhcdpaaGreat.V

/-- A sum of the first numbers. -/
def sumN (f : Nat → Int) : Nat → Int
  | 0 => 0
  | n + 1 => sumN f n + f n
/-- The water of the first cells. -/
def wetAt (S : Sh) (W : Nat) (k : Nat) : Int := S.wet ((k / W : Nat) : Int) ((k % W : Nat) : Int)
def waterN (S : Sh) (W : Nat) (j : Nat) : Int := sumN (wetAt S W) j
def water (S : Sh) (W H : Nat) : Int := waterN S W (H * W)

theorem cell_lt {W H j : Nat} {S : Sh} (hs : Small S) (hW : S.wide = W) (hH : S.high = H) (hj : j < H * W) : 0 ≤ ((j % W : Nat) : Int) ∧ ((j % W : Nat) : Int) < 8 ∧ 0 ≤ ((j / W : Nat) : Int) ∧ ((j / W : Nat) : Int) < 8 := by
  unfold Small at hs
  have hW0 : 0 < W := by omega
  have hm := Nat.mod_lt j hW0
  have hd : j / W < H := (Nat.div_lt_iff_lt_mul hW0).2 hj
  exact ⟨Int.natCast_nonneg _, by omega, Int.natCast_nonneg _, by omega⟩
end Go.Proofs.YtfelopllfhcdpaaGreat.V

/- The code of a sheet, its water: the walk. -/
namespace Go.Proofs.YtfelopllfhcdpaaGreat.V

section
variable (cx : Cx) (h : List (Nat × Seg)) (n : Nat)

/-- The code of a sheet, and of whether something else is right. -/
noncomputable def codeI (S : Sh) (b : Bool) : Int := if validB S then (if b then 0 else 2) else 1
theorem code_Q (i o : Nat) (s : Seg) (S : Sh) (b : Bool) (hs : hget h i = some s) (hi : i < n) (hS : ShAt s o S) :
    CallQ Tryz.prog cx 54 [.ptr i o, .bool b] h n (.int .i64 (codeI S b)) := by
  have hlen := hS.1
  refine callQ_of_T (P := Tryz.prog) hti (nt := 14) (rs := [.tmp 4]) rfl rfl Tryz.call54 Tryz.func54 rfl _ (by simp only [go_sem, and_self]) (Nat.le_of_ble_eq_true rfl) _ (by first | exact trivial | (refine lt_flat rfl ?_; simp [SV.flat]; done) | simp only [go_sem]) fun hok => ?_
  simp only [go_sem, Nat.reduceBEq, Nat.reduceLT, hs]
  refine ⟨by omega, (valid_Q _ _ _ _ S hS.2).A ?_⟩
  cases hv : validB S
  · simp only [go_sem, Nat.reduceLT, Bool.not_false, codeI, hv, if_false]
  · simp only [go_sem, Nat.reduceBEq, Nat.reduceLT, Bool.not_true, codeI, hv, if_true]
    cases b
    · simp only [go_sem, reduceIte, reduceCtorEq, Bool.not_false]
    · simp only [go_sem, reduceIte, Bool.not_true]

end

end Go.Proofs.YtfelopllfhcdpaaGreat.V

/- The reference's small functions of sheets. -/
namespace Go.Proofs.YtfelopllfhcdpaaGreat.V

theorem wu64 {n : Int} (h : 0 ≤ n ∧ n < 18446744073709551616) : IntKind.u64.wrap n = n := by simp [IntKind.wrap, IntKind.bits, IntKind.signed]; omega

section
variable (cx : Cx) (h : List (Nat × Seg)) (n : Nat)

theorem in_Q (a lo hi : Int) : CallQ Tryz.prog cx 66 [.int .i64 a, .int .i64 lo, .int .i64 hi] h n (.bool (decide (lo ≤ a ∧ a ≤ hi))) := by
  refine callQ_of_T (P := Tryz.prog) hti (nt := 15) (rs := [.tmp 6]) rfl rfl Tryz.call66 Tryz.func66 rfl _ (by simp only [go_sem, and_self]) (Nat.le_of_ble_eq_true rfl) _ (by first | exact trivial | (refine lt_flat rfl ?_; simp [SV.flat]; done) | simp only [go_sem]) fun hok => ?_
  simp only [go_sem, Nat.reduceBEq, Nat.reduceLT, HExt_cons, SV.bool.injEq, decide_eq_true_eq, decide_eq_false_iff_not]
  constructor <;> intro h1 <;> simp [h1]
theorem waxed2_Q (i o : Nat) (s : Seg) (S : Sh) (x y : Int) (hs : hget h i = some s) (hi : i < n) (hS : ShAt s o S) (hx : 0 ≤ x) (hx8 : x < 128) (hy : 0 ≤ y) (hy8 : y < 8) :
    CallQ Tryz.prog cx 49 [.ptr i o, spot x y] h n (.bool (waxB S x y)) := by
  have hne : (n == i) = false := by simp; omega
  have hlen := hS.1
  refine callQ_of_T (P := Tryz.prog) hti (nt := 18) (rs := [.tmp 4]) rfl rfl Tryz.call49 Tryz.func49 rfl _ (by simp only [go_sem, and_self]) (Nat.le_of_ble_eq_true rfl) _ (by first | exact trivial | (refine lt_flat rfl ?_; simp [SV.flat]; done) | simp only [go_sem]) fun hok => ?_
  simp only [go_sem, Nat.reduceBEq, Nat.reduceLT]
  refine T_draw hti _ _ (by kernel_rfl) (by kernel_rfl) ?_
  simp only [go_sem, Nat.reduceBEq, Nat.reduceLT, Nat.reduceLeDiff, reduceCtorEq, hne, hs, hS.wax hy hy8, HExt_cons, SV.bool.injEq, waxB, hx, hy, hy8, wu64 (n := x) (by omega)]
  omega
theorem is_Q (i o : Nat) (s : Seg) (S : Sh) (x y : Int) (hs : hget h i = some s) (hi : i < n) (hS : ShAt s o S) (hx : -128 ≤ x ∧ x < 128) (hy : -128 ≤ y ∧ y < 128) :
    CallQ Tryz.prog cx 78 [.ptr i o, spot x y] h n (.bool (hasB S x y)) := by
  have hne : (n == i) = false := by simp; omega
  have hlen := hS.1
  have hRw := hS.2.R.wide
  have hRh := hS.2.R.high
  refine callQ_of_T (P := Tryz.prog) hti (nt := 27) (rs := [.tmp 4]) rfl rfl Tryz.call78 Tryz.func78 rfl _ (by simp only [go_sem, and_self]) (Nat.le_of_ble_eq_true rfl) _ (by first | exact trivial | (refine lt_flat rfl ?_; simp [SV.flat]; done) | simp only [go_sem]) fun hok => ?_
  simp only [go_sem, Nat.reduceBEq, Nat.reduceLT]
  refine T_draw hti _ _ (by kernel_rfl) (by kernel_rfl) ?_
  simp only [go_sem, Nat.reduceBEq, Nat.reduceLT, Nat.reduceLeDiff, reduceCtorEq, hne, hs, hS.wide, hS.high, w64 (n := x) (by omega), w64 (n := y) (by omega), w64 (n := S.wide) (by omega), w64 (n := S.high) (by omega), w64 (n := S.wide - 1) (by omega), w64 (n := S.high - 1) (by omega)]
  refine ⟨by omega, (in_Q _ _ _ x 0 (S.wide - 1)).A ?_⟩
  simp only [go_sem, Nat.reduceBEq, Nat.reduceLT, reduceCtorEq, hne, hs, hS.wide, hS.high, w64 (n := x) (by omega), w64 (n := y) (by omega), w64 (n := S.wide) (by omega), w64 (n := S.high) (by omega), w64 (n := S.wide - 1) (by omega), w64 (n := S.high - 1) (by omega), decide_eq_true_eq, decide_eq_false_iff_not, HExt_cons, SV.bool.injEq]
  refine ⟨fun h1 => ⟨by omega, (in_Q _ _ _ y 0 (S.high - 1)).A ?_⟩, fun h1 => ?_⟩
  · simp only [go_sem, Nat.reduceBEq, Nat.reduceLT, HExt_cons, SV.bool.injEq]
    rw [Bool.eq_iff_iff]
    simp only [hasB, Bool.and_eq_true, decide_eq_true_eq]
    omega
  · symm
    rw [Bool.eq_false_iff]
    simp only [hasB, ne_eq, Bool.and_eq_true, decide_eq_true_eq]
    omega
theorem free_Q (i o : Nat) (s : Seg) (S : Sh) (x y : Int) (hs : hget h i = some s) (hi : i < n) (hS : ShAt s o S) (hsm : Small S) (hx : -128 ≤ x ∧ x < 128) (hy : -128 ≤ y ∧ y < 128) :
    CallQ Tryz.prog cx 101 [.ptr i o, spot x y] h n (.bool (!nbB S x y)) := by
  have hne : (n == i) = false := by simp; omega
  refine callQ_of_T (P := Tryz.prog) hti (nt := 14) (rs := [.tmp 4]) rfl rfl Tryz.call101 Tryz.func101 rfl _ (by simp only [go_sem, and_self]) (Nat.le_of_ble_eq_true rfl) _ (by first | exact trivial | (refine lt_flat rfl ?_; simp [SV.flat]; done) | simp only [go_sem]) fun hok => ?_
  simp only [go_sem, Nat.reduceBEq, Nat.reduceLT]
  refine (is_Q _ _ _ i o s S x y (by simp only [go_sem, hne, hs]) (by omega) hS hx hy).A ?_
  cases hb : hasB S x y
  · simp only [go_sem, Nat.reduceBEq, Nat.reduceLT, HExt_cons, SV.bool.injEq, nbB, hb, Bool.true_or]
  · obtain ⟨x0, x8, y0, y8⟩ := hasB_in hsm hb
    simp only [go_sem, Nat.reduceBEq, Nat.reduceLT]
    refine (waxed2_Q _ _ _ i o s S x y (by simp only [go_sem, hne, hs]) (by omega) hS x0 (by omega) y0 y8).A ?_
    simp only [go_sem, Nat.reduceBEq, Nat.reduceLT, HExt_cons, SV.bool.injEq, nbB, hb, Bool.false_or]
theorem next_Q (x y : Int) (k : Nat) (hk : k < 4) : CallQ Tryz.prog cx 100 [spot x y, .int .i64 k] h n (spot ((besideL x y).getD k (0, 0)).1 ((besideL x y).getD k (0, 0)).2) := by
  refine callQ_of_T (P := Tryz.prog) hti (nt := 29) (rs := [.cell 4 58]) rfl rfl Tryz.call100 Tryz.func100 rfl _ (by simp only [go_sem, and_self]) (Nat.le_of_ble_eq_true rfl) _ (by first | exact trivial | (refine lt_flat rfl ?_; simp [SV.flat]; done) | simp only [go_sem]) fun hok => ?_
  rcases (by omega : k = 0 ∨ k = 1 ∨ k = 2 ∨ k = 3) with rfl | rfl | rfl | rfl <;>
  · simp only [go_sem, Nat.reduceBEq, Nat.reduceLT, Nat.reduceLeDiff, Nat.reduceEqDiff, reduceIte, reduceCtorEq, Int.reduceEq, HExt_cons, besideL, Int.natCast_one, Int.natCast_zero]
    rfl

end
end Go.Proofs.YtfelopllfhcdpaaGreat.V

/- The reference's neighbours, giving, running, drying: the walk. -/
namespace Go.Proofs.YtfelopllfhcdpaaGreat.V

theorem i8_in (x : Int) : -128 ≤ IntKind.i8.wrap x ∧ IntKind.i8.wrap x < 128 := by
  simp [IntKind.wrap, IntKind.bits, IntKind.signed]; omega
theorem beside_in {x y : Int} (hx : -128 ≤ x ∧ x < 128) (hy : -128 ≤ y ∧ y < 128) (k : Nat) : (-128 ≤ ((besideL x y).getD k (0, 0)).1 ∧ ((besideL x y).getD k (0, 0)).1 < 128) ∧ (-128 ≤ ((besideL x y).getD k (0, 0)).2 ∧ ((besideL x y).getD k (0, 0)).2 < 128) := by
  rcases (by omega : k = 0 ∨ k = 1 ∨ k = 2 ∨ k = 3 ∨ 4 ≤ k) with rfl | rfl | rfl | rfl | h
  · exact ⟨hx, i8_in _⟩
  · exact ⟨i8_in _, hy⟩
  · exact ⟨hx, i8_in _⟩
  · exact ⟨i8_in _, hy⟩
  · rw [List.getD_eq_getElem?_getD, List.getElem?_eq_none (by simpa [besideL] using h)]; simp

section
variable (cx : Cx) (h : List (Nat × Seg)) (n : Nat)

theorem beside2_E (i o : Nat) (s : Seg) (S : Sh) (x y : Int) (hs : hget h i = some s) (hi : i < n) (hS : ShAt s o S) (hsm : Small S) (hx : -128 ≤ x ∧ x < 128) (hy : -128 ≤ y ∧ y < 128) (K : HK)
    (hK : ∀ cap, K (.sl n 0 (nb S x y).length cap) ((n, ⟨(nb S x y).length * 2, spotsC (nb S x y), true, none⟩) :: h) (n + 1)) :
    CallE Tryz.prog cx 79 [.ptr i o, spot x y] h n K := by
  have hne : (n == i) = false := by simp; omega
  have hnk : ∀ k, (n + k == i) = false := fun k => by simp; omega
  generalize hP : (fun a : Int × Int => !nbB S a.1 a.2) = P
  have hnb : nb S x y = (besideL x y).filter P := by rw [← hP]; rfl
  have hPj : ∀ a, P a = !nbB S a.1 a.2 := fun a => by rw [← hP]
  refine CallE.imp1 (K := fun r h' n' => ∃ cap, r = .sl (n + 1) 0 (nb S x y).length cap ∧ n + 2 ≤ n' ∧ HExt n h h' ∧ ∃ t, hget h' (n + 1) = some t ∧ t.n = (nb S x y).length * 2 ∧ t.rw = true ∧ t.c = spotsC (nb S x y)) ?_ ?_
  rotate_left
  · rintro hok r h' n' ⟨cap, rfl, h0, hx, t, ht, h1, h2, h3⟩
    exact ⟨n + 1, .sl n 0 (nb S x y).length cap, _, n + 1, by simp, by simp, by simp only [ren_sl, sig_hit], Nat.lt_succ_self n,
      impH.cons1 ht (Nat.lt_succ_self n) (SegLe.flat (by simp [h1]) (fun _ => h2) (.inl rfl) fun k hk => ⟨by rw [h3], spotsC_flat _ _⟩) (impH.base1 hok (by simp) (Nat.le_refl n) hx), hK cap⟩
  refine callE_of_T (P := Tryz.prog) hti (nt := 24) (rs := [.tmp 4]) rfl rfl Tryz.call79 Tryz.func79 rfl _ (by simp only [go_sem, and_self]) (Nat.le_of_ble_eq_true rfl) _ fun hok => ?_
  simp only [go_sem, Nat.reduceBEq, Nat.reduceLT, Nat.reduceMul]
  refine T_lp (ι := { q : Nat × Nat // q.1 ≤ 4 ∧ (((besideL x y).take q.1).filter P).length ≤ q.2 ∧ q.2 ≤ maxLen })
    (fun q => ([(0, .ptr i o), (3, .ptr n 0), (5, .sl (n + 1) 0 (((besideL x y).take q.1.1).filter P).length q.1.2), (6, .int .i64 q.1.1)],
      (n + 1, ⟨(((besideL x y).take q.1.1).filter P).length * 2, spotsC (((besideL x y).take q.1.1).filter P), true, some (58, q.1.2 * 2)⟩) :: (n, ⟨2, cl [.int .i8 x, .int .i8 y], true, none⟩) :: h, n + 2)) (fun q => 4 - q.1.1) ⟨(0, 0), by simp⟩ ?_ ?_
  · refine Imp.id (by simp) ?_ ?_
    · simp only [go_sem, Nat.reduceBEq]
      exact ⟨by omega, by omega, rfl, by omega⟩
    · exact impH.cons0 (hget_hit _ _ _) (by simp) (SegLe.flat (by simp) id (.inr (by simp)) fun k hk => by simp at hk) (impH.cons0 (by simp only [go_sem]) (by simp) (SegLe.flat (Nat.le_refl _) id (.inr rfl) fun z hz => ⟨rfl, pair_flat _ _ hz⟩) (impH.base0 hok (by simp) ((HExt.rfl.cons (Nat.le_refl n)).cons (by simp))))
  · rintro ⟨⟨k, cap⟩, hk, hcap, hm⟩
    simp only at hk hcap hm
    have hlen4 : ((besideL x y).take k |>.filter P).length ≤ k := filter_len P _ k
    simp only [go_sem, Nat.reduceBEq, Nat.reduceLT, decide_eq_true_eq, decide_eq_false_iff_not]
    refine ⟨fun h1 => ?_, fun h1 => ?_⟩
    · have hbi := beside_in hx hy k
      refine (next_Q _ _ _ x y k (by omega)).A ?_
      simp only [go_sem, Nat.reduceBEq, Nat.reduceLT, Nat.reduceEqDiff, reduceIte, hne, hnk]
      refine (free_Q _ _ _ i o s S _ _ (by simp only [go_sem, hne, hnk, hs]) (by omega) hS hsm hbi.1 hbi.2).A ?_
      cases hb : nbB S ((besideL x y).getD k (0, 0)).1 ((besideL x y).getD k (0, 0)).2
      · have hf : ((besideL x y).take (k + 1)).filter P = ((besideL x y).take k).filter P ++ [(besideL x y).getD k (0, 0)] := by
          rw [take_filter P _ k (by show k < 4; omega), hPj, hb]; rfl
        simp only [go_sem, Nat.reduceBEq, Nat.reduceLT, Nat.reduceLeDiff, Nat.reduceMul, Nat.reduceSub, Nat.reduceMod, reduceIte, hne, hnk, ↓hok.del (show n ≤ n + 1 by simp)]
        refine ⟨⟨hcap, hm, by omega⟩, fun cap' h3 h4 => ⟨⟨(k + 1, cap'), by omega, by simp only [hf, List.length_append, List.length_singleton]; exact h3, h4⟩, by show 4 - (k + 1) < 4 - k; omega, ?_⟩⟩
        refine Imp.of1 (n + 1) (n + 4) (by simp) (by omega) (by simp) ?_ ?_
        · simp only [go_sem, Nat.reduceBEq, hne, hnk, hf, List.length_append, List.length_singleton, w64 (n := (k : Int) + 1) (by omega), Int.natCast_add, Int.natCast_one]
          omega
        · simp only [hf]
          refine impH.cons1 (hget_hit _ _ _) (by simp) (SegLe.flat (by simp) id (.inr rfl) fun z hz => ⟨?_, spotsC_flat _ _⟩) (impH.cons2 (by simp only [go_sem]) (by simp) (by omega) (SegLe.flat (Nat.le_refl _) id (.inr rfl) fun z hz => ⟨rfl, pair_flat _ _ hz⟩)
            (impH.base1 hok (by simp) (by simp) ((((HExt.rfl.cons (Nat.le_refl n)).cons (by simp)).cons (by simp)).cons (by simp))))
          have hz : z < (((besideL x y).take k).filter P ++ [(besideL x y).getD k (0, 0)]).length * 2 := hz
          rw [List.length_append, List.length_singleton] at hz
          show both ((((besideL x y).take k).filter P).length * 2) (spotsC (((besideL x y).take k).filter P)) _ z = spotsC (((besideL x y).take k).filter P ++ [(besideL x y).getD k (0, 0)]) z
          unfold both news
          split
          · rename_i h5; rw [spotsC_take (b := [(besideL x y).getD k (0, 0)]) h5]
          · rename_i h5
            rcases (by omega : z = (((besideL x y).take k).filter P).length * 2 ∨ z = (((besideL x y).take k).filter P).length * 2 + 1) with rfl | rfl
            · rw [(spotsC_last _ _).1]; simp [cl]
            · rw [(spotsC_last _ _).2]; simp [cl]
      · have hf : ((besideL x y).take (k + 1)).filter P = ((besideL x y).take k).filter P := by
          rw [take_filter P _ k (by show k < 4; omega), hPj, hb]; simp
        simp only [go_sem, Nat.reduceBEq, Nat.reduceLT, hne, hnk]
        refine ⟨⟨(k + 1, cap), by omega, by simp only [hf]; exact hcap, hm⟩, by show 4 - (k + 1) < 4 - k; omega, ?_⟩
        refine Imp.id (by simp) ?_ ?_
        · simp only [go_sem, Nat.reduceBEq, hf, w64 (n := (k : Int) + 1) (by omega), Int.natCast_add, Int.natCast_one]
          omega
        · simp only [hf]
          exact impH.cons0 (by simp only [go_sem, Nat.reduceBEq]) (by simp) (SegLe.flat (Nat.le_refl _) id (.inr rfl) fun k hk => ⟨rfl, spotsC_flat _ _⟩) (impH.cons0 (by simp only [go_sem]) (by simp) (SegLe.flat (Nat.le_refl _) id (.inr rfl) fun z hz => ⟨rfl, pair_flat _ _ hz⟩) (impH.base0 hok (by simp) (((HExt.rfl.cons (Nat.le_refl n)).cons (by simp)).cons (by simp))))
    · have hk4 : k = 4 := by omega
      subst hk4
      rw [hnb]
      exact ⟨cap, rfl, _, rfl, rfl, rfl, rfl⟩
end
end Go.Proofs.YtfelopllfhcdpaaGreat.V

/- The reference's giving of a unit: the walk. -/
namespace Go.Proofs.YtfelopllfhcdpaaGreat.V

section
variable (cx : Cx) (h : List (Nat × Seg)) (n : Nat)

end
end Go.Proofs.YtfelopllfhcdpaaGreat.V

/- The reference's round of running: the walk. -/
namespace Go.Proofs.YtfelopllfhcdpaaGreat.V

theorem ShF.at {F : Nat → SV} {S : Sh} (h : ShF F S) : ShAt ⟨266, F, true, none⟩ 0 S := ⟨by simp, by simpa using h⟩
theorem ShAt.F {F : Nat → SV} {S : Sh} (h : ShAt ⟨266, F, true, none⟩ 0 S) : ShF F S := by have := h.2; simp only [Nat.zero_add] at this; exact this
section
variable (cx : Cx) (h : List (Nat × Seg)) (n : Nat)

end
end Go.Proofs.YtfelopllfhcdpaaGreat.V

/- The reference's water of a sheet: the walk. -/
namespace Go.Proofs.YtfelopllfhcdpaaGreat.V

section
variable (cx : Cx) (h : List (Nat × Seg)) (n : Nat)
end

/-- Places that a sheet does not have hold no water. -/
def Out (S : Sh) : Prop := ∀ y x : Int, 0 ≤ y → y < 8 → 0 ≤ x → x < 8 → hasB S x y = false → S.wet y x = 0
theorem Valid.out {S : Sh} (hV : Valid S) : Out S := fun y x a b c d hf => (hV.2 y x a b c d).2.2.2.elim (fun h => by rw [hf] at h; cases h.1) (fun h => h.1)
end Go.Proofs.YtfelopllfhcdpaaGreat.V

/- Validity of a sheet, by the reference: the walk. -/
namespace Go.Proofs.YtfelopllfhcdpaaGreat.V

/-- Water and dye of a place are as they should be. -/
def CellIn (S : Sh) (x y : Int) : Prop :=
  (0 ≤ S.wet y x ∧ S.wet y x ≤ 200) ∧ (∀ i : Int, 0 ≤ i → i < 3 → 0 ≤ S.dye y x i ∧ S.dye y x i ≤ 1000) ∧
    ((hasB S x y = true ∧ waxB S x y = false) ∨ (S.wet y x = 0 ∧ S.dye y x 0 = 0 ∧ S.dye y x 1 = 0 ∧ S.dye y x 2 = 0))
open Classical in
noncomputable def cellB (S : Sh) (x y : Int) : Bool := decide (CellIn S x y)
theorem cellB_true {S : Sh} {x y : Int} (h : CellIn S x y) : cellB S x y = true := by simp [cellB, h]
theorem cellB_false {S : Sh} {x y : Int} (h : ¬ CellIn S x y) : cellB S x y = false := by simp [cellB, h]
/-- Water and the first dyes of a place, added. -/
def sumD (S : Sh) (x y : Int) : Nat → Int
  | 0 => S.wet y x
  | k + 1 => sumD S x y k + S.dye y x k

section
variable (cx : Cx) (h : List (Nat × Seg)) (n : Nat)

theorem cell2_Q (i o : Nat) (s : Seg) (S : Sh) (x y : Int) (hs : hget h i = some s) (hi : i < n) (hS : ShAt s o S) (hx : 0 ≤ x) (hx8 : x < 8) (hy : 0 ≤ y) (hy8 : y < 8) :
    CallQ Tryz.prog cx 99 [.ptr i o, spot x y] h n (.bool (cellB S x y)) := by
  have hne : (n == i) = false := by simp; omega
  have hlen := hS.1
  have hwr := hS.2.R.wet y x
  have hbad : ¬ CellIn S x y → cellB S x y = false := cellB_false
  refine callQ_of_T (P := Tryz.prog) hti (nt := 60) (rs := [.tmp 4]) rfl rfl Tryz.call99 Tryz.func99 rfl _ (by simp only [go_sem, and_self]) (Nat.le_of_ble_eq_true rfl) _ (by first | exact trivial | (refine lt_flat rfl ?_; simp [SV.flat]; done) | simp only [go_sem]) fun hok => ?_
  simp only [go_sem, Nat.reduceBEq, Nat.reduceLT]
  refine T_draw hti _ _ (by kernel_rfl) (by kernel_rfl) ?_
  simp only [go_sem, Nat.reduceBEq, Nat.reduceLT, Nat.reduceLeDiff, reduceCtorEq, hne, hs, hS.wet hy hy8 hx hx8, hx, hx8, hy, hy8, w64 (n := S.wet y x) (by omega)]
  refine ⟨by omega, (in_Q _ _ _ _ _ _).A ?_⟩
  by_cases hwn : 0 ≤ S.wet y x ∧ S.wet y x ≤ 200
  rotate_left
  · simp only [go_sem, Nat.reduceLT, decide_eq_false hwn, HExt_cons, SV.bool.injEq]
    exact (hbad fun hc => hwn hc.1).symm
  simp only [go_sem, Nat.reduceBEq, Nat.reduceLT, decide_eq_true hwn]
  refine T_lp (ι := { k : Nat // k ≤ 3 ∧ ∀ k' : Int, 0 ≤ k' → k' < k → 0 ≤ S.dye y x k' ∧ S.dye y x k' ≤ 1000 })
    (fun k => ([(0, .ptr i o), (3, .ptr n 0), (6, .int .i64 (sumD S x y k.1)), (7, .int .i64 k.1)], (n, ⟨2, cl [.int .i8 x, .int .i8 y], true, none⟩) :: h, n + 1)) (fun k => 3 - k.1) ⟨0, by omega, fun _ _ => by omega⟩ ?_ ?_
  · refine Imp.id (by simp) ?_ ?_
    · simp only [go_sem, Nat.reduceBEq, sumD]
      omega
    · exact impH.cons0 (by simp only [go_sem]) (by simp) (SegLe.flat (Nat.le_refl _) id (.inr rfl) fun z hz => ⟨rfl, pair_flat _ _ hz⟩) (impH.base0 hok (by simp) (HExt.rfl.cons (Nat.le_refl n)))
  · rintro ⟨k, hk, hall⟩
    have hsum : 0 ≤ sumD S x y k ∧ sumD S x y k ≤ 200 + 1000 * k := by
      have : ∀ m, m ≤ k → 0 ≤ sumD S x y m ∧ sumD S x y m ≤ 200 + 1000 * m := by
        intro m
        induction m with
        | zero => intro _; simp only [sumD]; omega
        | succ m ih => intro hm; have := ih (by omega); have := hall m (by omega) (by omega); simp only [sumD]; omega
      exact this k (Nat.le_refl k)
    simp only [go_sem, Nat.reduceBEq, Nat.reduceLT, decide_eq_true_eq, decide_eq_false_iff_not]
    refine ⟨fun h1 => ?_, fun h1 => ?_⟩
    · have hkr : (0 : Int) ≤ k ∧ (k : Int) < 3 := ⟨by omega, h1⟩
      have hd1 : s.c (o + 66 + y.toNat * 24 + x.toNat * 3 + k) = .int .i16 (S.dye y x k) := hS.dyeN k hy hy8 hx hx8 (by omega)
      have hdr := hS.2.R.dye y x k
      refine T_draw hti _ _ (by kernel_rfl) (by kernel_rfl) ?_
      simp only [go_sem, Nat.reduceBEq, Nat.reduceLT, Nat.reduceLeDiff, reduceCtorEq, hne, hs, hx, hx8, hy, hy8, hkr, hd1, w64 (n := S.dye y x k) (by omega)]
      refine ⟨by omega, (in_Q _ _ _ _ _ _).A ?_⟩
      by_cases hdk : 0 ≤ S.dye y x k ∧ S.dye y x k ≤ 1000
      rotate_left
      · simp only [go_sem, Nat.reduceLT, decide_eq_false hdk, HExt_cons, SV.bool.injEq]
        exact (hbad fun hc => hdk (hc.2.1 k hkr.1 hkr.2)).symm
      simp only [go_sem, Nat.reduceBEq, Nat.reduceLT, decide_eq_true hdk, w64 (n := sumD S x y k + S.dye y x k) (by omega)]
      refine ⟨⟨k + 1, by omega, fun k' a b => ?_⟩, by show 3 - (k + 1) < 3 - k; omega, ?_⟩
      · rcases (by omega : k' < k ∨ k' = k) with h | rfl
        · exact hall k' a h
        · exact hdk
      · refine Imp.id (by simp) ?_ ?_
        · simp only [go_sem, Nat.reduceBEq, sumD, w64 (n := (k : Int) + 1) (by omega), Int.natCast_add, Int.natCast_one]
          omega
        · exact impH.cons0 (by simp only [go_sem]) (by simp) (SegLe.flat (Nat.le_refl _) id (.inr rfl) fun z hz => ⟨rfl, pair_flat _ _ hz⟩) (impH.base0 hok (by simp) (HExt.rfl.cons (Nat.le_refl n)))
    · have hk3 : k = 3 := by omega
      subst hk3
      have hd : ∀ i : Int, 0 ≤ i → i < 3 → 0 ≤ S.dye y x i ∧ S.dye y x i ≤ 1000 := fun i a b => hall i a b
      have d0 := hd 0 (by omega) (by omega)
      have d1 := hd 1 (by omega) (by omega)
      have d2 := hd 2 (by omega) (by omega)
      have hs3 : sumD S x y 3 = S.wet y x + S.dye y x 0 + S.dye y x 1 + S.dye y x 2 := rfl
      refine ⟨fun hz => ?_, fun hz => ?_⟩
      · have hnz : ¬ (S.wet y x = 0 ∧ S.dye y x 0 = 0 ∧ S.dye y x 1 = 0 ∧ S.dye y x 2 = 0) := fun h => hz (by rw [hs3]; omega)
        refine (is_Q _ _ _ i o s S x y (by simp only [go_sem, hne, hs]) (by omega) hS (by omega) (by omega)).A ?_
        cases hb : hasB S x y
        · simp only [go_sem, Nat.reduceBEq, Nat.reduceLT, Int.reduceLT, HExt_cons, SV.bool.injEq]
          exact (hbad fun hc => hc.2.2.elim (fun h => by rw [hb] at h; exact absurd h.1 (by simp)) hnz).symm
        · simp only [go_sem, Nat.reduceBEq, Nat.reduceLT, Int.reduceLT]
          refine (waxed2_Q _ _ _ i o s S x y (by simp only [go_sem, hne, hs]) (by omega) hS hx (by omega) hy hy8).A ?_
          cases wb : waxB S x y
          · simp only [go_sem, Nat.reduceBEq, Nat.reduceLT, HExt_cons, SV.bool.injEq]
            exact (cellB_true ⟨hwn, hd, .inl ⟨hb, wb⟩⟩).symm
          · simp only [go_sem, Nat.reduceBEq, Nat.reduceLT, HExt_cons, SV.bool.injEq]
            exact (hbad fun hc => hc.2.2.elim (fun h => by rw [wb] at h; exact absurd h.2 (by simp)) hnz).symm
      · rw [hs3] at hz
        rw [cellB_true ⟨hwn, hd, .inr ⟨by omega, by omega, by omega, by omega⟩⟩]

theorem ok2_Q (i o : Nat) (s : Seg) (S : Sh) (hs : hget h i = some s) (hi : i < n) (hS : ShAt s o S) :
    CallQ Tryz.prog cx 77 [.ptr i o] h n (.bool (validB S)) := by
  have hne : (n == i) = false := by simp; omega
  have hlen := hS.1
  have wW := w64 (n := S.wide) (by have := hS.2.R.wide; omega)
  have wH := w64 (n := S.high) (by have := hS.2.R.high; omega)
  refine callQ_of_T (P := Tryz.prog) hti (nt := 46) (rs := [.tmp 2]) rfl rfl Tryz.call77 Tryz.func77 rfl _ (by simp only [go_sem, and_self]) (Nat.le_of_ble_eq_true rfl) _ (by first | exact trivial | (refine lt_flat rfl ?_; simp [SV.flat]; done) | simp only [go_sem]) fun hok => ?_
  simp only [go_sem, Nat.reduceBEq, Nat.reduceLT, reduceCtorEq, hne, hs, hS.wide, hS.high, wW, wH]
  refine ⟨by omega, (in_Q _ _ _ S.wide 1 8).A ?_⟩
  by_cases hw : 1 ≤ S.wide ∧ S.wide ≤ 8
  rotate_left
  · simp only [go_sem, Nat.reduceBEq, Nat.reduceLT, decide_eq_false hw, HExt_cons, SV.bool.injEq]
    exact (validB_false fun hv => hw ⟨hv.1.1, hv.1.2.1⟩).symm
  simp only [go_sem, Nat.reduceBEq, Nat.reduceLT, reduceCtorEq, hne, hs, hS.wide, hS.high, wW, wH, decide_eq_true hw]
  refine ⟨by omega, (in_Q _ _ _ S.high 1 8).A ?_⟩
  by_cases hh : 1 ≤ S.high ∧ S.high ≤ 8
  rotate_left
  · simp only [go_sem, Nat.reduceBEq, Nat.reduceLT, decide_eq_false hh, HExt_cons, SV.bool.injEq]
    exact (validB_false fun hv => hh ⟨hv.1.2.2.1, hv.1.2.2.2⟩).symm
  simp only [go_sem, Nat.reduceBEq, Nat.reduceLT, decide_eq_true hh]
  have hsm : Small S := ⟨hw.1, hw.2, hh.1, hh.2⟩
  refine T_lp (ι := { y : Nat // y ≤ 8 ∧ ∀ y' x' : Int, 0 ≤ y' → y' < y → 0 ≤ x' → x' < 8 → CellOk S x' y' })
    (fun y => ([(0, .ptr i o), (3, .int .i8 y.1)], h, n)) (fun y => 8 - y.1) ⟨0, by omega, fun _ _ _ _ => by omega⟩ ?_ ?_
  · refine Imp.id (by simp) ?_ (impH.base0 hok (Nat.le_refl n) HExt.rfl)
    simp only [go_sem, Nat.reduceBEq]
    omega
  · rintro ⟨y, hy, hally⟩
    simp only [go_sem, Nat.reduceBEq, Nat.reduceLT, decide_eq_true_eq, decide_eq_false_iff_not]
    refine ⟨fun h1 => ?_, fun h1 => ?_⟩
    · refine T_lp (ι := { x : Nat // x ≤ 8 ∧ ∀ x' : Int, 0 ≤ x' → x' < x → CellOk S x' y })
        (fun x => ([(0, .ptr i o), (3, .int .i8 y), (4, .int .i8 x.1)], h, n)) (fun x => 8 - x.1) ⟨0, by omega, fun _ _ => by omega⟩ ?_ ?_
      · refine Imp.id (by simp) ?_ (impH.base0 hok (Nat.le_refl n) HExt.rfl)
        simp only [go_sem, Nat.reduceBEq]
        omega
      · rintro ⟨x, hx, hallx⟩
        simp only [go_sem, Nat.reduceBEq, Nat.reduceLT, Nat.reduceLeDiff, Nat.reduceEqDiff, reduceIte, decide_eq_true_eq, decide_eq_false_iff_not]
        refine ⟨fun h2 => ?_, fun h2 => ?_⟩
        · have x0 : (0 : Int) ≤ x := by omega
          have y0 : (0 : Int) ≤ y := by omega
          have hbad : ¬ CellOk S x y → validB S = false := fun hc => validB_false fun hv => hc (hv.2 y x y0 h1 x0 h2)
          refine (is_Q _ _ _ i o s S x y (by simp only [go_sem, hne, hs]) (by omega) hS (by omega) (by omega)).A ?_
          cases hb : hasB S x y
          · simp only [go_sem, Nat.reduceBEq, Nat.reduceLT]
            refine (waxed2_Q _ _ _ i o s S x y (by simp only [go_sem, hne, hs]) (by omega) hS x0 (by omega) y0 h1).A ?_
            cases wb : waxB S x y
            · have hwh : waxB S x y = true → hasB S x y = true := fun h => by rw [wb] at h; cases h
              simp only [go_sem, Nat.reduceBEq, Nat.reduceLT]
              refine (cell2_Q _ _ _ i o s S x y (by simp only [go_sem, hne, hs]) (by omega) hS x0 h2 y0 h1).A ?_
              by_cases hc : CellIn S x y
              rotate_left
              · simp only [go_sem, Nat.reduceLT, cellB_false hc, HExt_cons, SV.bool.injEq]
                exact (hbad fun h => hc h.2).symm
              simp only [go_sem, Nat.reduceBEq, Nat.reduceLT, cellB_true hc]
              refine ⟨⟨x + 1, by omega, fun x' a b => ?_⟩, by show 8 - (x + 1) < 8 - x; omega, ?_⟩
              · rcases (by omega : x' < x ∨ x' = x) with h | rfl
                · exact hallx x' a h
                · exact ⟨hwh, hc⟩
              · refine Imp.id (by simp) ?_ (impH.base0 hok (Nat.le_refl n) (HExt.rfl.cons (Nat.le_refl n)))
                simp only [go_sem, Nat.reduceBEq, w8 (n := (x : Int) + 1) (by omega), Int.natCast_add, Int.natCast_one]
                omega
            · simp only [go_sem, Nat.reduceBEq, Nat.reduceLT, HExt_cons, SV.bool.injEq]
              exact (hbad fun hc => by have := hc.1 wb; rw [hb] at this; cases this).symm
          · have hwh : waxB S x y = true → hasB S x y = true := fun _ => hb
            simp only [go_sem, Nat.reduceBEq, Nat.reduceLT]
            refine (cell2_Q _ _ _ i o s S x y (by simp only [go_sem, hne, hs]) (by omega) hS x0 h2 y0 h1).A ?_
            by_cases hc : CellIn S x y
            rotate_left
            · simp only [go_sem, Nat.reduceLT, cellB_false hc, HExt_cons, SV.bool.injEq]
              exact (hbad fun h => hc h.2).symm
            simp only [go_sem, Nat.reduceBEq, Nat.reduceLT, cellB_true hc]
            refine ⟨⟨x + 1, by omega, fun x' a b => ?_⟩, by show 8 - (x + 1) < 8 - x; omega, ?_⟩
            · rcases (by omega : x' < x ∨ x' = x) with h | rfl
              · exact hallx x' a h
              · exact ⟨hwh, hc⟩
            · refine Imp.id (by simp) ?_ (impH.base0 hok (Nat.le_refl n) (HExt.rfl.cons (Nat.le_refl n)))
              simp only [go_sem, Nat.reduceBEq, w8 (n := (x : Int) + 1) (by omega), Int.natCast_add, Int.natCast_one]
              omega
        · have hx8 : x = 8 := by omega
          refine ⟨⟨y + 1, by omega, fun y' x' a b c d => ?_⟩, by show 8 - (y + 1) < 8 - y; omega, ?_⟩
          · rcases (by omega : y' < y ∨ y' = y) with h | rfl
            · exact hally y' x' a h c d
            · exact hallx x' c (by omega)
          · refine Imp.id (by simp) ?_ (impH.base0 hok (Nat.le_refl n) HExt.rfl)
            simp only [go_sem, Nat.reduceBEq, w8 (n := (y : Int) + 1) (by omega), Int.natCast_add, Int.natCast_one]
            omega
    · simp only [go_sem, HExt_cons, SV.bool.injEq]
      exact (validB_true ⟨hsm, fun y' x' a b c d => hally y' x' a (by omega) c d⟩).symm
end
end Go.Proofs.YtfelopllfhcdpaaGreat.V

/- The law's copies of arrays: the walk. -/
namespace Go.Proofs.YtfelopllfhcdpaaGreat.V

@[go_sem] theorem mkAgg_8 (F : Nat → SV) : mkAgg 8 F = .agg 8 F := rfl
@[go_sem] theorem mkAgg_24 (F : Nat → SV) : mkAgg 24 F = .agg 24 F := rfl
@[go_sem] theorem mkAgg_64 (F : Nat → SV) : mkAgg 64 F = .agg 64 F := rfl
@[go_sem] theorem mkAgg_192 (F : Nat → SV) : mkAgg 192 F = .agg 192 F := rfl
/-- Cells all plain. -/
def Flat (k : Nat) (F : Nat → SV) : Prop := ∀ j, j < k → (F j).flat
theorem Flat.ones {k : Nat} {F : Nat → SV} (h : Flat k F) : V.ones (.agg k F) = True := eq_true fun j hj => (h j hj).one

section
variable (cx : Cx) (h : List (Nat × Seg)) (n : Nat)

theorem toInt16A8_E (F : Nat → SV) (hF : ∀ j, j < 8 → ∃ v, F j = .int .i16 v) (K : HK) (hK : ∀ F', (∀ j, j < 8 → F' j = F j) → K (.agg 8 F') h n) : CallE Tryz.prog cx 68 [.agg 8 F] h n K := by
  have hfl : Flat 8 F := fun j hj => by obtain ⟨v, hv⟩ := hF j hj; rw [hv]; trivial
  refine CallE.imp0 (K := fun r h' n' => n ≤ n' ∧ HExt n h h' ∧ ∃ F', (∀ j, j < 8 → F' j = F j) ∧ r = .agg 8 F') ?_ ?_
  rotate_left
  · rintro hok r h' n' ⟨h0, hx, F', hF', rfl⟩
    exact ⟨.agg 8 F', h, n, Nat.le_refl _, by simp only [ren_nil], lt_aggF fun j hj => by rw [hF' j hj]; exact hfl j hj, impH.base0 hok (Nat.le_refl n) hx, hK F' hF'⟩
  refine callE_of_T (P := Tryz.prog) hti (nt := 15) (rs := [.cell 2 24]) rfl rfl Tryz.call68 Tryz.func68 rfl _ (by simp only [go_sem, and_self]) (Nat.le_of_ble_eq_true rfl) _ fun hok => ?_
  simp only [go_sem, Nat.reduceLT, Nat.reduceEqDiff, reduceIte]
  refine T_lp (ι := { q : Nat × (Nat → SV) // q.1 ≤ 8 ∧ (∀ j, j < q.1 → q.2 j = F j) ∧ Flat 8 q.2 })
    (fun q => ([(1, .ptr n 0), (2, .ptr (n + 1) 0), (3, .ptr (n + 2) 0), (4, .int .i64 q.1.1)], (n + 2, ⟨8, q.1.2, true, none⟩) :: (n + 1, ⟨8, (ti 24).z, true, none⟩) :: (n, ⟨8, F, true, none⟩) :: h, n + 3)) (fun q => 8 - q.1.1) ⟨(0, (ti 24).z), by omega, fun _ hj => by omega, fun _ _ => trivial⟩ ?_ ?_
  · refine Imp.id (by simp) ?_ ?_
    · simp only [go_sem, Nat.reduceBEq]
      omega
    · exact impH.cons0 (hget_hit _ _ _) (by simp) (SegLe.flat (Nat.le_refl _) id (.inr rfl) fun z hz => ⟨rfl, trivial⟩) (impH.cons0 ((hget_miss _ _ _ _ (by simp)).trans (hget_hit _ _ _)) (by simp) (SegLe.flat (Nat.le_refl _) id (.inr rfl) fun z hz => ⟨rfl, trivial⟩)
        (impH.cons0 (by simp only [go_sem]) (by simp) (SegLe.flat (Nat.le_refl _) id (.inr rfl) fun z hz => ⟨rfl, hfl z hz⟩) (impH.base0 hok (by simp) (((HExt.rfl.cons (Nat.le_refl n)).cons (by simp)).cons (by simp)))))
  · rintro ⟨⟨k, c⟩, hk, hc, hcf⟩
    simp only at hk hc hcf
    simp only [go_sem, Nat.reduceBEq, Nat.reduceLT, Nat.reduceLeDiff, reduceIte, decide_eq_true_eq, decide_eq_false_iff_not]
    refine ⟨fun h1 => ?_, fun h1 => ?_⟩
    · obtain ⟨v, hv⟩ := hF k (by omega)
      have hkr : (0 : Int) ≤ k ∧ (k : Int) < 8 := ⟨by omega, h1⟩
      simp only [go_sem, Nat.reduceEqDiff, reduceIte, hkr, hv]
      refine ⟨by omega, by omega, ⟨(k + 1, upd c k (.int .i16 v)), by omega, fun j hj => ?_, fun j hj => ?_⟩, by show 8 - (k + 1) < 8 - k; omega, ?_⟩
      · have hj : j < k + 1 := hj
        rcases (by omega : j < k ∨ j = k) with h | rfl
        · exact (upd_far (by omega)).trans (hc j h)
        · rw [hv]; exact upd_same _ _ _
      · rcases (by omega : j ≠ k ∨ j = k) with h | rfl
        · show (upd c k _ j).flat
          rw [upd_far h]; exact hcf j hj
        · show (upd c j _ j).flat
          rw [upd_same]; trivial
      · refine Imp.id (by simp) ?_ ?_
        · simp only [go_sem, Nat.reduceBEq, w64 (n := (k : Int) + 1) (by omega), Int.natCast_add, Int.natCast_one]
          omega
        · refine impH.cons0 (hget_hit _ _ _) (by simp) (SegLe.flat (Nat.le_refl _) id (.inr rfl) fun z hz => ⟨rfl, ?_⟩) (impH.cons0 ((hget_miss _ _ _ _ (by simp)).trans (hget_hit _ _ _)) (by simp) (SegLe.flat (Nat.le_refl _) id (.inr rfl) fun z hz => ⟨rfl, trivial⟩)
            (impH.cons0 (by simp only [go_sem]) (by simp) (SegLe.flat (Nat.le_refl _) id (.inr rfl) fun z hz => ⟨rfl, hfl z hz⟩) (impH.base0 hok (by simp) (((HExt.rfl.cons (Nat.le_refl n)).cons (by simp)).cons (by simp)))))
          rcases (by omega : z ≠ k ∨ z = k) with h | rfl
          · show (upd c k _ z).flat
            rw [upd_far h]; exact hcf z hz
          · show (upd c z _ z).flat
            rw [upd_same]; trivial
    · have hone : ones (.agg 8 fun j => c j) = True := hcf.ones
      have hk8 : k = 8 := by omega
      subst hk8
      simp only [go_sem, hone]
      exact ⟨c, hc, rfl⟩
end
end Go.Proofs.YtfelopllfhcdpaaGreat.V

/- The law's copies of nested arrays: the walk. -/
namespace Go.Proofs.YtfelopllfhcdpaaGreat.V
section
variable (cx : Cx) (h : List (Nat × Seg)) (n : Nat)

theorem toInt16A8A8_E (F : Nat → SV) (hF : ∀ j, j < 64 → ∃ v, F j = .int .i16 v) (K : HK) (hK : ∀ F', (∀ j, j < 64 → F' j = F j) → K (.agg 64 F') h n) : CallE Tryz.prog cx 38 [.agg 64 F] h n K := by
  have hfl : Flat 64 F := fun j hj => by obtain ⟨v, hv⟩ := hF j hj; rw [hv]; trivial
  refine CallE.imp0 (K := fun r h' n' => n ≤ n' ∧ HExt n h h' ∧ ∃ F', (∀ j, j < 64 → F' j = F j) ∧ r = .agg 64 F') ?_ ?_
  rotate_left
  · rintro hok r h' n' ⟨h0, hx, F', hF', rfl⟩
    exact ⟨.agg 64 F', h, n, Nat.le_refl _, by simp only [ren_nil], lt_aggF fun j hj => by rw [hF' j hj]; exact hfl j hj, impH.base0 hok (Nat.le_refl n) hx, hK F' hF'⟩
  refine callE_of_T (P := Tryz.prog) hti (nt := 16) (rs := [.cell 2 25]) rfl rfl Tryz.call38 Tryz.func38 rfl _ (by simp only [go_sem, and_self]) (Nat.le_of_ble_eq_true rfl) _ fun hok => ?_
  simp only [go_sem, Nat.reduceLT, Nat.reduceEqDiff, reduceIte]
  refine T_lp (ι := { q : Nat × (Nat → SV) // q.1 ≤ 8 ∧ (∀ j, j < q.1 * 8 → q.2 j = F j) ∧ Flat 64 q.2 })
    (fun q => ([(1, .ptr n 0), (2, .ptr (n + 1) 0), (3, .ptr (n + 2) 0), (4, .int .i64 q.1.1)], (n + 2, ⟨64, q.1.2, true, none⟩) :: (n + 1, ⟨64, (ti 25).z, true, none⟩) :: (n, ⟨64, F, true, none⟩) :: h, n + 3)) (fun q => 8 - q.1.1) ⟨(0, (ti 25).z), by omega, fun _ hj => by omega, fun _ _ => trivial⟩ ?_ ?_
  · refine Imp.id (by simp) ?_ ?_
    · simp only [go_sem, Nat.reduceBEq]
      omega
    · exact impH.cons0 (hget_hit _ _ _) (by simp) (SegLe.flat (Nat.le_refl _) id (.inr rfl) fun z hz => ⟨rfl, trivial⟩) (impH.cons0 ((hget_miss _ _ _ _ (by simp)).trans (hget_hit _ _ _)) (by simp) (SegLe.flat (Nat.le_refl _) id (.inr rfl) fun z hz => ⟨rfl, trivial⟩)
        (impH.cons0 (by simp only [go_sem]) (by simp) (SegLe.flat (Nat.le_refl _) id (.inr rfl) fun z hz => ⟨rfl, hfl z hz⟩) (impH.base0 hok (by simp) (((HExt.rfl.cons (Nat.le_refl n)).cons (by simp)).cons (by simp)))))
  · rintro ⟨⟨k, c⟩, hk, hc, hcf⟩
    simp only at hk hc hcf
    simp only [go_sem, Nat.reduceBEq, Nat.reduceLT, Nat.reduceLeDiff, reduceIte, decide_eq_true_eq, decide_eq_false_iff_not]
    refine ⟨fun h1 => ⟨⟨by omega, h1⟩, by omega, ?_⟩, fun h1 => ?_⟩
    · have hkr : (0 : Int) ≤ k ∧ (k : Int) < 8 := ⟨by omega, h1⟩
      refine callA_false (toInt16A8_E _ _ _ (fun j => F (k * 8 + j)) (fun j hj => hF (k * 8 + j) (by omega)) _ fun F' hF' => ?_)
      have hfl' : Flat 8 F' := fun j hj => by rw [hF' j hj]; exact hfl _ (by omega)
      simp only [go_sem, Nat.reduceBEq, Nat.reduceLT, Nat.reduceLeDiff, Nat.reduceEqDiff, reduceIte, hkr, hfl'.ones]
      have hput : ∀ j, j < 64 → (if k * 8 ≤ j ∧ j < k * 8 + 8 then F' (j - k * 8) else c j).flat := fun j hj => by
        split
        · rename_i h; exact hfl' _ (by omega)
        · exact hcf j hj
      refine ⟨by omega, ⟨(k + 1, fun j => if k * 8 ≤ j ∧ j < k * 8 + 8 then F' (j - k * 8) else c j), by omega, fun j hj => ?_, hput⟩, by show 8 - (k + 1) < 8 - k; omega, ?_⟩
      · have hj : j < (k + 1) * 8 := hj
        show (if k * 8 ≤ j ∧ j < k * 8 + 8 then F' (j - k * 8) else c j) = F j
        split
        · rename_i h; rw [hF' _ (by omega), show k * 8 + (j - k * 8) = j by omega]
        · exact hc j (by omega)
      · refine Imp.id (by simp) ?_ ?_
        · simp only [go_sem, Nat.reduceBEq, w64 (n := (k : Int) + 1) (by omega), Int.natCast_add, Int.natCast_one]
          omega
        · exact impH.cons0 (hget_hit _ _ _) (by simp) (SegLe.flat (Nat.le_refl _) id (.inr rfl) fun z hz => ⟨rfl, hput z hz⟩) (impH.cons0 ((hget_miss _ _ _ _ (by simp)).trans (hget_hit _ _ _)) (by simp) (SegLe.flat (Nat.le_refl _) id (.inr rfl) fun z hz => ⟨rfl, trivial⟩)
            (impH.cons0 (by simp only [go_sem]) (by simp) (SegLe.flat (Nat.le_refl _) id (.inr rfl) fun z hz => ⟨rfl, hfl z hz⟩) (impH.base0 hok (by simp) (((HExt.rfl.cons (Nat.le_refl n)).cons (by simp)).cons (by simp)))))
    · have hk8 : k = 8 := by omega
      subst hk8
      have hone : ones (.agg 64 fun j => c j) = True := hcf.ones
      simp only [go_sem, hone]
      exact ⟨c, hc, rfl⟩
theorem toByteA8_E (F : Nat → SV) (hF : ∀ j, j < 8 → ∃ v, F j = .int .u8 v) (K : HK) (hK : ∀ F', (∀ j, j < 8 → F' j = F j) → K (.agg 8 F') h n) : CallE Tryz.prog cx 40 [.agg 8 F] h n K := by
  have hfl : Flat 8 F := fun j hj => by obtain ⟨v, hv⟩ := hF j hj; rw [hv]; trivial
  refine CallE.imp0 (K := fun r h' n' => n ≤ n' ∧ HExt n h h' ∧ ∃ F', (∀ j, j < 8 → F' j = F j) ∧ r = .agg 8 F') ?_ ?_
  rotate_left
  · rintro hok r h' n' ⟨h0, hx, F', hF', rfl⟩
    exact ⟨.agg 8 F', h, n, Nat.le_refl _, by simp only [ren_nil], lt_aggF fun j hj => by rw [hF' j hj]; exact hfl j hj, impH.base0 hok (Nat.le_refl n) hx, hK F' hF'⟩
  refine callE_of_T (P := Tryz.prog) hti (nt := 15) (rs := [.cell 2 29]) rfl rfl Tryz.call40 Tryz.func40 rfl _ (by simp only [go_sem, and_self]) (Nat.le_of_ble_eq_true rfl) _ fun hok => ?_
  simp only [go_sem, Nat.reduceLT, Nat.reduceEqDiff, reduceIte]
  refine T_lp (ι := { q : Nat × (Nat → SV) // q.1 ≤ 8 ∧ (∀ j, j < q.1 → q.2 j = F j) ∧ Flat 8 q.2 })
    (fun q => ([(1, .ptr n 0), (2, .ptr (n + 1) 0), (3, .ptr (n + 2) 0), (4, .int .i64 q.1.1)], (n + 2, ⟨8, q.1.2, true, none⟩) :: (n + 1, ⟨8, (ti 29).z, true, none⟩) :: (n, ⟨8, F, true, none⟩) :: h, n + 3)) (fun q => 8 - q.1.1) ⟨(0, (ti 29).z), by omega, fun _ hj => by omega, fun _ _ => trivial⟩ ?_ ?_
  · refine Imp.id (by simp) ?_ ?_
    · simp only [go_sem, Nat.reduceBEq]
      omega
    · exact impH.cons0 (hget_hit _ _ _) (by simp) (SegLe.flat (Nat.le_refl _) id (.inr rfl) fun z hz => ⟨rfl, trivial⟩) (impH.cons0 ((hget_miss _ _ _ _ (by simp)).trans (hget_hit _ _ _)) (by simp) (SegLe.flat (Nat.le_refl _) id (.inr rfl) fun z hz => ⟨rfl, trivial⟩)
        (impH.cons0 (by simp only [go_sem]) (by simp) (SegLe.flat (Nat.le_refl _) id (.inr rfl) fun z hz => ⟨rfl, hfl z hz⟩) (impH.base0 hok (by simp) (((HExt.rfl.cons (Nat.le_refl n)).cons (by simp)).cons (by simp)))))
  · rintro ⟨⟨k, c⟩, hk, hc, hcf⟩
    simp only at hk hc hcf
    simp only [go_sem, Nat.reduceBEq, Nat.reduceLT, Nat.reduceLeDiff, reduceIte, decide_eq_true_eq, decide_eq_false_iff_not]
    refine ⟨fun h1 => ?_, fun h1 => ?_⟩
    · obtain ⟨v, hv⟩ := hF k (by omega)
      have hkr : (0 : Int) ≤ k ∧ (k : Int) < 8 := ⟨by omega, h1⟩
      simp only [go_sem, Nat.reduceEqDiff, reduceIte, hkr, hv]
      refine ⟨by omega, by omega, ⟨(k + 1, upd c k (.int .u8 v)), by omega, fun j hj => ?_, fun j hj => ?_⟩, by show 8 - (k + 1) < 8 - k; omega, ?_⟩
      · have hj : j < k + 1 := hj
        rcases (by omega : j < k ∨ j = k) with h | rfl
        · exact (upd_far (by omega)).trans (hc j h)
        · rw [hv]; exact upd_same _ _ _
      · rcases (by omega : j ≠ k ∨ j = k) with h | rfl
        · show (upd c k _ j).flat
          rw [upd_far h]; exact hcf j hj
        · show (upd c j _ j).flat
          rw [upd_same]; trivial
      · refine Imp.id (by simp) ?_ ?_
        · simp only [go_sem, Nat.reduceBEq, w64 (n := (k : Int) + 1) (by omega), Int.natCast_add, Int.natCast_one]
          omega
        · refine impH.cons0 (hget_hit _ _ _) (by simp) (SegLe.flat (Nat.le_refl _) id (.inr rfl) fun z hz => ⟨rfl, ?_⟩) (impH.cons0 ((hget_miss _ _ _ _ (by simp)).trans (hget_hit _ _ _)) (by simp) (SegLe.flat (Nat.le_refl _) id (.inr rfl) fun z hz => ⟨rfl, trivial⟩)
            (impH.cons0 (by simp only [go_sem]) (by simp) (SegLe.flat (Nat.le_refl _) id (.inr rfl) fun z hz => ⟨rfl, hfl z hz⟩) (impH.base0 hok (by simp) (((HExt.rfl.cons (Nat.le_refl n)).cons (by simp)).cons (by simp)))))
          rcases (by omega : z ≠ k ∨ z = k) with h | rfl
          · show (upd c k _ z).flat
            rw [upd_far h]; exact hcf z hz
          · show (upd c z _ z).flat
            rw [upd_same]; trivial
    · have hone : ones (.agg 8 fun j => c j) = True := hcf.ones
      have hk8 : k = 8 := by omega
      subst hk8
      simp only [go_sem, hone]
      exact ⟨c, hc, rfl⟩

end
end Go.Proofs.YtfelopllfhcdpaaGreat.V
