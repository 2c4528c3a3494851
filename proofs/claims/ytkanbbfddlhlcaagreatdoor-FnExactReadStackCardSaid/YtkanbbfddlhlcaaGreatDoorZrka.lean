/- Part 1 of the texts that this proof stands on: a symbolic walk over the program, what its functions and the reference's do, plain laws. -/
import Derived.Test.YtkanbbfddlhlcaaGreatDoorV13
import Derived.Test.YtkanbbfddlhlcaaGreatDoorTi
import Derived.Sort.AssemblyPlain
set_option linter.all false

/- Sheets as plain data, and as they lie in memory. -/
namespace Go.Proofs.YtkanbbfddlhlcaaGreatDoor.V

theorem fn_lt {f n : Nat} {xs ys : List SV} (h1 : ∀ v ∈ xs, v.lt n) (h2 : ∀ v ∈ ys, v.lt n) : (SV.fn f xs.length (cl xs) ys.length (cl ys)).lt n := ⟨cl_lt h1, cl_lt h2⟩

theorem lt_flat {m k : Nat} {vs : List SV} (hk : vs.length = k) (h : ∀ v ∈ vs, v.flat) : (SV.agg k (cl vs)).lt m := hk ▸ cl_lt fun v hv => (h v hv).below m

/-- A sheet: sides, water, dye, wax. -/
structure Sh where
  wide : Int
  high : Int
  wet : Int → Int → Int
  dye : Int → Int → Int → Int
  wax : Int → Int

/-- All numbers fit. -/
structure ShR (S : Sh) : Prop where
  wide : -128 ≤ S.wide ∧ S.wide < 128
  high : -128 ≤ S.high ∧ S.high < 128
  wet : ∀ y x, -32768 ≤ S.wet y x ∧ S.wet y x < 32768
  dye : ∀ y x i, -32768 ≤ S.dye y x i ∧ S.dye y x i < 32768
  wax : ∀ y, 0 ≤ S.wax y ∧ S.wax y < 256

/-- Cells that hold a sheet. -/
structure ShF (F : Nat → SV) (S : Sh) : Prop where
  R : ShR S
  wide : F 0 = .int .i8 S.wide
  high : F 1 = .int .i8 S.high
  wet : ∀ y x : Int, 0 ≤ y → y < 8 → 0 ≤ x → x < 8 → F (2 + y.toNat * 8 + x.toNat) = .int .i16 (S.wet y x)
  dye : ∀ y x i : Int, 0 ≤ y → y < 8 → 0 ≤ x → x < 8 → 0 ≤ i → i < 3 → F (66 + y.toNat * 24 + x.toNat * 3 + i.toNat) = .int .i16 (S.dye y x i)
  wax : ∀ y : Int, 0 ≤ y → y < 8 → F (258 + y.toNat) = .int .u8 (S.wax y)
def ShAt (s : Seg) (o : Nat) (S : Sh) : Prop := o + 266 ≤ s.n ∧ ShF (fun j => s.c (o + j)) S

theorem ShAt.wide {s : Seg} {o : Nat} {S : Sh} (h : ShAt s o S) : s.c o = .int .i8 S.wide := h.2.wide
theorem ShAt.high {s : Seg} {o : Nat} {S : Sh} (h : ShAt s o S) : s.c (o + 1) = .int .i8 S.high := h.2.high
theorem ShAt.wet {s : Seg} {o : Nat} {S : Sh} (h : ShAt s o S) {y x : Int} (h1 : 0 ≤ y) (h2 : y < 8) (h3 : 0 ≤ x) (h4 : x < 8) : s.c (o + 2 + y.toNat * 8 + x.toNat) = .int .i16 (S.wet y x) := by
  have := h.2.wet y x h1 h2 h3 h4
  simpa only [Nat.add_assoc] using this
theorem ShAt.dye {s : Seg} {o : Nat} {S : Sh} (h : ShAt s o S) {y x i : Int} (h1 : 0 ≤ y) (h2 : y < 8) (h3 : 0 ≤ x) (h4 : x < 8) (h5 : 0 ≤ i) (h6 : i < 3) :
    s.c (o + 66 + y.toNat * 24 + x.toNat * 3 + i.toNat) = .int .i16 (S.dye y x i) := by
  have := h.2.dye y x i h1 h2 h3 h4 h5 h6
  simpa only [Nat.add_assoc] using this
theorem ShAt.wax {s : Seg} {o : Nat} {S : Sh} (h : ShAt s o S) {y : Int} (h1 : 0 ≤ y) (h2 : y < 8) : s.c (o + 258 + y.toNat) = .int .u8 (S.wax y) := by
  have := h.2.wax y h1 h2
  simpa only [Nat.add_assoc] using this

theorem cl_flat {l : List SV} (h : ∀ v ∈ l, v.flat) {k : Nat} (hk : k < l.length) : (cl l k).flat := by
  rw [cl_eq, List.getElem?_eq_getElem hk]; exact h _ (List.getElem_mem hk)
theorem ShAt.flat {s : Seg} {o : Nat} {S : Sh} (h : ShAt s o S) {z : Nat} (h1 : o ≤ z) (h2 : z < o + 266) : (s.c z).flat := by
  obtain ⟨d, rfl⟩ : ∃ d, z = o + d := ⟨z - o, by omega⟩
  obtain ⟨hl, R, a1, a2, a3, a4, a5⟩ := h
  rcases (by omega : d = 0 ∨ d = 1 ∨ (2 ≤ d ∧ d < 66) ∨ (66 ≤ d ∧ d < 258) ∨ 258 ≤ d) with h | h | h | h | h
  · subst h; rw [show s.c (o + 0) = _ from a1]; trivial
  · subst h; rw [show s.c (o + 1) = _ from a2]; trivial
  · have := a3 (((d - 2) / 8 : Nat) : Int) (((d - 2) % 8 : Nat) : Int) (by omega) (by omega) (by omega) (by omega)
    simp only [Int.toNat_natCast] at this
    rw [show o + d = o + (2 + (d - 2) / 8 * 8 + (d - 2) % 8) by omega, this]; trivial
  · have := a4 (((d - 66) / 24 : Nat) : Int) (((d - 66) % 24 / 3 : Nat) : Int) (((d - 66) % 3 : Nat) : Int) (by omega) (by omega) (by omega) (by omega) (by omega) (by omega)
    simp only [Int.toNat_natCast] at this
    rw [show o + d = o + (66 + (d - 66) / 24 * 24 + (d - 66) % 24 / 3 * 3 + (d - 66) % 3) by omega, this]; trivial
  · have := a5 ((d - 258 : Nat) : Int) (by omega) (by omega)
    simp only [Int.toNat_natCast] at this
    rw [show o + d = o + (258 + (d - 258)) by omega, this]; trivial
theorem ShAt.below {sn : Nat} {c sc : Nat → SV} {r : Bool} {w : Option (Nat × Nat)} {o m : Nat} {S : Sh} (h : ShAt ⟨sn, c, r, w⟩ o S) (ho : ∀ z, z < o ∨ o + 266 ≤ z → c z = sc z) (hl : ∀ z, z < sn → (sc z).lt m) : ∀ z, z < sn → (c z).lt m := by
  intro z hz
  rcases (by omega : (z < o ∨ o + 266 ≤ z) ∨ (o ≤ z ∧ z < o + 266)) with h1 | ⟨h1, h2⟩
  · rw [ho z h1]; exact hl z hz
  · exact (h.flat h1 h2).below m

theorem w64 {n : Int} (h : -9223372036854775808 ≤ n ∧ n < 9223372036854775808) : IntKind.i64.wrap n = n := by rw [IntKind.wrap_i64]; omega
theorem w8 {n : Int} (h : -128 ≤ n ∧ n < 128) : IntKind.i8.wrap n = n := by simp [IntKind.wrap, IntKind.bits, IntKind.signed]; omega
theorem w16 {n : Int} (h : -32768 ≤ n ∧ n < 32768) : IntKind.i16.wrap n = n := by simp [IntKind.wrap, IntKind.bits, IntKind.signed]; omega
def zeroC (j : Nat) : SV := if j < 2 then .int .i8 0 else if j < 258 then .int .i16 0 else .int .u8 0
@[go_sem] theorem mkAgg_266 (F : Nat → SV) : mkAgg 266 F = .agg 266 F := rfl
theorem SV.flat.one {v : SV} (h : v.flat) : v.one := by cases v <;> first | trivial | exact h.elim
theorem ShF.flat {F : Nat → SV} {S : Sh} (h : ShF F S) {z : Nat} (hz : z < 266) : (F z).flat := by
  have := ShAt.flat (s := ⟨266, F, true, none⟩) (o := 0) (S := S) ⟨by simp, by simpa using h⟩ (Nat.zero_le z) (by simpa using hz)
  exact this
theorem ShF.ones {F : Nat → SV} {S : Sh} (h : ShF F S) : V.ones (.agg 266 F) = True := eq_true fun j hj => (h.flat hj).one

abbrev spot (x y : Int) : SV := .agg 2 (cl [.int .i8 x, .int .i8 y])

/-- Has a sheet a cell? -/
def hasB (S : Sh) (x y : Int) : Bool := ((decide (0 ≤ x) && decide (x < S.wide)) && decide (0 ≤ y)) && decide (y < S.high)
def waxB (S : Sh) (x y : Int) : Bool := decide (bitsI .and .u8 (shrI .u8 (S.wax y) x) 1 = 1)

section
variable (cx : Cx) (h : List (Nat × Seg)) (n : Nat)

theorem has_Q (i o : Nat) (s : Seg) (S : Sh) (x y : Int) (hs : hget h i = some s) (hi : i < n) (hS : ShAt s o S) :
    CallQ Tryz.prog cx 47 [.ptr i o, spot x y] h n (.bool (hasB S x y)) := by
  have hne : (n == i) = false := by simp; omega
  have hlen := hS.1
  refine callQ_of_T (P := Tryz.prog) hti (nt := 31) (rs := [.tmp 4]) rfl rfl Tryz.call47 Tryz.func47 rfl _ (by simp only [go_sem, and_self]) (Nat.le_of_ble_eq_true rfl) _ (by first | exact trivial | (refine lt_flat rfl ?_; simp [SV.flat]; done) | simp only [go_sem]) fun hok => ?_
  simp only [go_sem, Nat.reduceBEq, Nat.reduceLT]
  refine T_draw hti _ _ (by kernel_rfl) (by kernel_rfl) ?_
  simp only [go_sem, Nat.reduceBEq, Nat.reduceLT, Nat.reduceLeDiff, reduceCtorEq, hne, hs, hS.wide, hS.high, HExt_cons, SV.bool.injEq, decide_eq_true_eq, decide_eq_false_iff_not, hasB]
  refine ⟨fun h1 => ⟨by omega, fun h2 => ⟨fun h3 => ⟨by omega, ?_⟩, fun h3 => ?_⟩, fun h2 => ?_⟩, fun h1 => ?_⟩ <;> simp [*]
theorem waxed_Q (i o : Nat) (s : Seg) (S : Sh) (x y : Int) (hs : hget h i = some s) (hi : i < n) (hS : ShAt s o S) (hx : 0 ≤ x) (hy : 0 ≤ y) (hy8 : y < 8) :
    CallQ Tryz.prog cx 48 [.ptr i o, spot x y] h n (.bool (waxB S x y)) := by
  have hne : (n == i) = false := by simp; omega
  have hlen := hS.1
  refine callQ_of_T (P := Tryz.prog) hti (nt := 17) (rs := [.tmp 4]) rfl rfl Tryz.call48 Tryz.func48 rfl _ (by simp only [go_sem, and_self]) (Nat.le_of_ble_eq_true rfl) _ (by first | exact trivial | (refine lt_flat rfl ?_; simp [SV.flat]; done) | simp only [go_sem]) fun hok => ?_
  simp only [go_sem, Nat.reduceBEq, Nat.reduceLT]
  refine T_draw hti _ _ (by kernel_rfl) (by kernel_rfl) ?_
  simp only [go_sem, Nat.reduceBEq, Nat.reduceLT, Nat.reduceLeDiff, reduceCtorEq, hne, hs, hS.wax hy hy8, HExt_cons, SV.bool.injEq, waxB, hx, hy, hy8]
  omega
theorem wet_Q (i o : Nat) (s : Seg) (S : Sh) (x y : Int) (hs : hget h i = some s) (hi : i < n) (hS : ShAt s o S) (hx : 0 ≤ x) (hx8 : x < 8) (hy : 0 ≤ y) (hy8 : y < 8) :
    CallQ Tryz.prog cx 49 [.ptr i o, spot x y] h n (.int .i64 (S.wet y x)) := by
  have hne : (n == i) = false := by simp; omega
  have hlen := hS.1
  refine callQ_of_T (P := Tryz.prog) hti (nt := 16) (rs := [.tmp 4]) rfl rfl Tryz.call49 Tryz.func49 rfl _ (by simp only [go_sem, and_self]) (Nat.le_of_ble_eq_true rfl) _ (by first | exact trivial | (refine lt_flat rfl ?_; simp [SV.flat]; done) | simp only [go_sem]) fun hok => ?_
  simp only [go_sem, Nat.reduceBEq, Nat.reduceLT]
  refine T_draw hti _ _ (by kernel_rfl) (by kernel_rfl) ?_
  simp only [go_sem, Nat.reduceBEq, Nat.reduceLT, Nat.reduceLeDiff, reduceCtorEq, hne, hs, hS.wet hy hy8 hx hx8, HExt_cons, hx, hx8, hy, hy8]
  refine ⟨by omega, ?_⟩
  rw [w64]
  have := hS.2.R.wet y x
  omega

/-- The cells of a sheet, row by row. -/
def cellC (W : Nat) : Nat → SV := fun k => if k % 2 = 0 then .int .i8 ((k / 2 % W : Nat) : Int) else .int .i8 ((k / 2 / W : Nat) : Int)
theorem cellC_flat (W k : Nat) : (cellC W k).flat := by unfold cellC; split <;> trivial

theorem cells_E (i o : Nat) (s : Seg) (S : Sh) (W H : Nat) (hs : hget h i = some s) (hi : i < n) (hS : ShAt s o S) (hW : S.wide = W) (hH : S.high = H) (hW8 : W ≤ 8) (hH8 : H ≤ 8) (K : HK)
    (hK : ∀ cap, H * W ≤ cap → cap ≤ maxLen → K (.sl n 0 (H * W) cap) ((n, ⟨H * W * 2, cellC W, true, some (50, cap * 2)⟩) :: h) (n + 1)) :
    CallE Tryz.prog cx 21 [.ptr i o] h n K := by
  have hne : (n == i) = false := by simp; omega
  have hlen := hS.1
  refine callE_of_T (P := Tryz.prog) hti (nt := 30) (rs := [.tmp 2]) rfl rfl Tryz.call21 Tryz.func21 rfl _ (by simp only [go_sem, and_self]) (Nat.le_of_ble_eq_true rfl) _ fun hok => ?_
  simp only [go_sem, Nat.reduceBEq, Nat.reduceLT, Nat.reduceMul, reduceCtorEq, hne, hs, hS.high]
  refine ⟨by omega, ?_⟩
  refine T_lp (ι := { p : Nat × Nat // p.1 ≤ H ∧ p.1 * W ≤ p.2 ∧ p.2 ≤ maxLen })
    (fun p => ([(0, .ptr i o), (3, .sl n 0 (p.1.1 * W) p.1.2), (10, .int .i8 H), (11, .int .i8 p.1.1)], (n, ⟨p.1.1 * W * 2, cellC W, true, some (50, p.1.2 * 2)⟩) :: h, n + 1)) (fun p => H - p.1.1) ⟨(0, 0), by simp⟩ ?_ ?_
  · refine Imp.id (by simp) ?_ ?_
    · simp only [go_sem, Nat.reduceBEq, hH]
      exact ⟨by omega, by simp, by omega⟩
    · refine impH.cons (Nat.lt_succ_self n) (hget_hit _ _ _) (SegLe.flat (by simp) id (.inr (by simp)) fun k hk => by simp at hk) (impH.base hok (by simp) (fun _ _ => rfl) ?_)
      simp only [go_sem, HExt_cons]
  · rintro ⟨⟨y, cap⟩, hy, hcap, hm⟩
    simp only at hy hcap hm
    simp only [go_sem, Nat.reduceBEq, Nat.reduceLT, reduceCtorEq, hne, hs, hS.wide, hW, decide_eq_true_eq, decide_eq_false_iff_not]
    refine ⟨fun h1 => ⟨by omega, ?_⟩, fun h1 => ?_⟩
    · refine T_lp (ι := { p : Nat × Nat // p.1 ≤ W ∧ y * W + p.1 ≤ p.2 ∧ p.2 ≤ maxLen })
        (fun p => ([(0, .ptr i o), (3, .sl n 0 (y * W + p.1.1) p.1.2), (10, .int .i8 H), (11, .int .i8 y), (4, .int .i8 y), (17, .int .i8 W), (18, .int .i8 p.1.1)], (n, ⟨(y * W + p.1.1) * 2, cellC W, true, some (50, p.1.2 * 2)⟩) :: h, n + 1)) (fun p => W - p.1.1) ⟨(0, cap), by simp; omega⟩ ?_ ?_
      · refine Imp.id (by simp) ?_ ?_
        · simp only [go_sem, Nat.reduceBEq]
          omega
        · refine impH.cons (Nat.lt_succ_self n) (hget_hit _ _ _) (SegLe.flat (by simp) id (.inr rfl) fun k hk => ⟨rfl, cellC_flat W k⟩) (impH.base hok (by simp) (fun _ _ => rfl) ?_)
          simp only [go_sem, HExt_cons]
      · rintro ⟨⟨x, cap⟩, hx, hcap, hm⟩
        simp only at hx hcap hm
        simp only [go_sem, Nat.reduceBEq, Nat.reduceLT, Nat.reduceLeDiff, Nat.reduceMul, Nat.reduceSub, Nat.reduceMod, reduceIte, hne, hs, ↓hok.del (Nat.le_refl n), decide_eq_true_eq, decide_eq_false_iff_not]
        have hyW : y * W ≤ 7 * 8 := Nat.mul_le_mul (by omega) hW8
        refine ⟨fun h2 => ⟨⟨by omega, by omega, by omega⟩, fun cap' h3 h4 => ⟨⟨(x + 1, cap'), by omega, h3, h4⟩, (by show W - (x + 1) < W - x; omega), ?_⟩⟩, fun h2 => ?_⟩
        · refine Imp.of1 n (n + 2) (by simp) (by omega) (by simp) ?_ ?_
          · simp only [go_sem, Nat.reduceBEq, hne, w8 (n := (x : Int) + 1) (by omega), Int.natCast_add, Int.natCast_one, Nat.add_assoc]
            omega
          · refine impH.cons1 (hget_hit _ _ _) (Nat.lt_succ_self n) (SegLe.flat (Nat.le_refl _) id (.inr rfl) fun k hk => ⟨?_, cellC_flat W k⟩) (impH.base1 hok (by simp) (Nat.le_refl n) ?_)
            · have hk : k < (y * W + (x + 1)) * 2 := hk
              show both ((y * W + x) * 2) (cellC W) _ k = _
              unfold both news
              split
              · rfl
              · rename_i hk2
                have h5 : (y * W + x) % W = x := by rw [Nat.mul_comm, Nat.mul_add_mod, Nat.mod_eq_of_lt (by omega)]
                have h6 : (y * W + x) / W = y := by rw [Nat.mul_comm, Nat.mul_add_div (by omega), Nat.div_eq_of_lt (by omega), Nat.add_zero]
                rcases (by omega : k = (y * W + x) * 2 ∨ k = (y * W + x) * 2 + 1) with rfl | rfl
                · simp [cellC, h5, cl]
                · have : ((y * W + x) * 2 + 1) / 2 = y * W + x := by omega
                  simp [cellC, this, h6, cl]
            · simp only [go_sem, HExt_cons]
        · refine ⟨⟨(y + 1, cap), by omega, by rw [Nat.succ_mul]; omega, hm⟩, (by show H - (y + 1) < H - y; omega), ?_⟩
          have hx2 : x = W := by omega
          subst hx2
          refine Imp.id (by simp) ?_ ?_
          · simp only [go_sem, Nat.reduceBEq, hne, w8 (n := (y : Int) + 1) (by omega), Int.natCast_add, Int.natCast_one, Nat.succ_mul]
            omega
          · exact impH.cons0 (hget_hit _ _ _) (Nat.lt_succ_self n) (SegLe.flat (by show (y + 1) * x * 2 ≤ _; rw [Nat.succ_mul]; exact Nat.le_refl _) id (.inr rfl) fun k hk => ⟨rfl, cellC_flat x k⟩) (impH.base0 hok (by simp) (by simp only [go_sem, HExt_cons]))
    · have hy2 : y = H := by omega
      subst hy2
      exact hK cap hcap hm
end
end Go.Proofs.YtkanbbfddlhlcaaGreatDoor.V

/- Neighbours of a cell: what the program's code shows of them. -/
namespace Go.Proofs.YtkanbbfddlhlcaaGreatDoor.V

/-- Cells of a list of spots. -/
def spotsC (L : List (Int × Int)) : Nat → SV := fun k => if k % 2 = 0 then .int .i8 (L.getD (k / 2) (0, 0)).1 else .int .i8 (L.getD (k / 2) (0, 0)).2
theorem spotsC_x (L : List (Int × Int)) (j : Nat) : spotsC L (j * 2) = .int .i8 (L.getD j (0, 0)).1 := by
  unfold spotsC; rw [if_pos (by omega), show j * 2 / 2 = j by omega]
theorem spotsC_y (L : List (Int × Int)) (j : Nat) : spotsC L (j * 2 + 1) = .int .i8 (L.getD j (0, 0)).2 := by
  unfold spotsC; rw [if_neg (by omega), show (j * 2 + 1) / 2 = j by omega]

/-- The spots on the four sides. -/
def besideL (x y : Int) : List (Int × Int) := [(x, IntKind.i8.wrap (y - 1)), (IntKind.i8.wrap (x + 1), y), (x, IntKind.i8.wrap (y + 1)), (IntKind.i8.wrap (x - 1), y)]

section
variable (cx : Cx) (h : List (Nat × Seg)) (n : Nat)

end
end Go.Proofs.YtkanbbfddlhlcaaGreatDoor.V

/- Neighbours, giving, running, drying: what the program's code does to a sheet. -/
namespace Go.Proofs.YtkanbbfddlhlcaaGreatDoor.V

/-- Sides of a sheet that has no more than 8 by 8 cells. -/
def Small (S : Sh) : Prop := 1 ≤ S.wide ∧ S.wide ≤ 8 ∧ 1 ≤ S.high ∧ S.high ≤ 8
/-- The neighbours of a cell. -/
def nbB (S : Sh) (x y : Int) : Bool := !hasB S x y || waxB S x y
def nb (S : Sh) (x y : Int) : List (Int × Int) := (besideL x y).filter fun a => !nbB S a.1 a.2
section
variable (cx : Cx) (h : List (Nat × Seg)) (n : Nat)

end

/-! ### Changes of a sheet -/
def Sh.setDye (S : Sh) (y x i v : Int) : Sh := { S with dye := fun y' x' i' => if y' = y ∧ x' = x ∧ i' = i then v else S.dye y' x' i' }
def Sh.setWet (S : Sh) (y x v : Int) : Sh := { S with wet := fun y' x' => if y' = y ∧ x' = x then v else S.wet y' x' }
theorem ShAt.dyeN {s : Seg} {o : Nat} {S : Sh} (h : ShAt s o S) {y x : Int} (k : Nat) (h1 : 0 ≤ y) (h2 : y < 8) (h3 : 0 ≤ x) (h4 : x < 8) (h6 : k < 3) :
    s.c (o + 66 + y.toNat * 24 + x.toNat * 3 + k) = .int .i16 (S.dye y x k) := by
  have := h.dye h1 h2 h3 h4 (i := (k : Int)) (by omega) (by omega)
  simpa using this
theorem ShAt.setDye {sn : Nat} {c : Nat → SV} {r : Bool} {w : Option (Nat × Nat)} {o : Nat} {S : Sh} (h : ShAt ⟨sn, c, r, w⟩ o S) {y x v : Int} (k : Nat) (h1 : 0 ≤ y) (h2 : y < 8) (h3 : 0 ≤ x) (h4 : x < 8) (h6 : k < 3) (hv : -32768 ≤ v ∧ v < 32768) :
    ShAt ⟨sn, upd c (o + 66 + y.toNat * 24 + x.toNat * 3 + k) (.int .i16 v), r, w⟩ o (S.setDye y x k v) := by
  obtain ⟨hl, ⟨R1, R2, R3, R4, R5⟩, a1, a2, a3, a4, a5⟩ := h
  have ne : ∀ z, o + z ≠ o + 66 + y.toNat * 24 + x.toNat * 3 + k → upd c (o + 66 + y.toNat * 24 + x.toNat * 3 + k) (.int .i16 v) (o + z) = c (o + z) := fun z hz => by simp [upd, hz]
  refine ⟨hl, ⟨R1, R2, R3, fun y' x' i' => ?_, R5⟩, ?_, ?_, fun y' x' b1 b2 b3 b4 => ?_, fun y' x' i' b1 b2 b3 b4 b5 b6 => ?_, fun y' b1 b2 => ?_⟩
  · simp only [Sh.setDye]; split
    · exact hv
    · exact R4 _ _ _
  · exact (ne 0 (by omega)).trans a1
  · exact (ne 1 (by omega)).trans a2
  · exact (ne _ (by omega)).trans (a3 y' x' b1 b2 b3 b4)
  · simp only [Sh.setDye]
    split
    · rename_i he
      obtain ⟨rfl, rfl, rfl⟩ := he
      simp [upd, Nat.add_assoc]
    · rename_i he
      exact (ne _ (by omega)).trans (a4 y' x' i' b1 b2 b3 b4 b5 b6)
  · exact (ne _ (by omega)).trans (a5 y' b1 b2)
theorem ShAt.setWet {sn : Nat} {c : Nat → SV} {r : Bool} {w : Option (Nat × Nat)} {o : Nat} {S : Sh} (h : ShAt ⟨sn, c, r, w⟩ o S) {y x v : Int} (h1 : 0 ≤ y) (h2 : y < 8) (h3 : 0 ≤ x) (h4 : x < 8) (hv : -32768 ≤ v ∧ v < 32768) :
    ShAt ⟨sn, upd c (o + 2 + y.toNat * 8 + x.toNat) (.int .i16 v), r, w⟩ o (S.setWet y x v) := by
  obtain ⟨hl, ⟨R1, R2, R3, R4, R5⟩, a1, a2, a3, a4, a5⟩ := h
  have ne : ∀ z, o + z ≠ o + 2 + y.toNat * 8 + x.toNat → upd c (o + 2 + y.toNat * 8 + x.toNat) (.int .i16 v) (o + z) = c (o + z) := fun z hz => by simp [upd, hz]
  refine ⟨hl, ⟨R1, R2, fun y' x' => ?_, R4, R5⟩, ?_, ?_, fun y' x' b1 b2 b3 b4 => ?_, fun y' x' i' b1 b2 b3 b4 b5 b6 => ?_, fun y' b1 b2 => ?_⟩
  · simp only [Sh.setWet]; split
    · exact hv
    · exact R3 _ _
  · exact (ne 0 (by omega)).trans a1
  · exact (ne 1 (by omega)).trans a2
  · simp only [Sh.setWet]
    split
    · rename_i he
      obtain ⟨rfl, rfl⟩ := he
      simp [upd, Nat.add_assoc]
    · rename_i he
      exact (ne _ (by omega)).trans (a3 y' x' b1 b2 b3 b4)
  · exact (ne _ (by omega)).trans (a4 y' x' i' b1 b2 b3 b4 b5 b6)
  · exact (ne _ (by omega)).trans (a5 y' b1 b2)

section
variable (cx : Cx) (h : List (Nat × Seg)) (n : Nat)

end
end Go.Proofs.YtkanbbfddlhlcaaGreatDoor.V

/- Plain laws of sheets: what a unit given, a round run or dried, leaves. -/
namespace Go.Proofs.YtkanbbfddlhlcaaGreatDoor.V

/-- Water and dye are within their bounds. -/
structure Good (S : Sh) : Prop where
  small : Small S
  wet : ∀ y x : Int, 0 ≤ y → y < 8 → 0 ≤ x → x < 8 → 0 ≤ S.wet y x ∧ S.wet y x ≤ 200
  dye : ∀ y x i : Int, 0 ≤ y → y < 8 → 0 ≤ x → x < 8 → 0 ≤ i → i < 3 → 0 ≤ S.dye y x i ∧ S.dye y x i ≤ 1000

section
variable {S : Sh} {w fx fy tx ty : Int} (hw : 0 < w) (hfx : 0 ≤ fx) (hfx8 : fx < 8) (hfy : 0 ≤ fy) (hfy8 : fy < 8) (htx : 0 ≤ tx) (htx8 : tx < 8) (hty : 0 ≤ ty) (hty8 : ty < 8) (hne : ¬ (ty = fy ∧ tx = fx))

end

/-- Sides and wax are the same. -/
structure Alike' (S S' : Sh) : Prop where
  wide : S'.wide = S.wide
  high : S'.high = S.high
  wax : S'.wax = S.wax
theorem Alike'.refl (S : Sh) : Alike' S S := ⟨rfl, rfl, rfl⟩
theorem Alike'.trans {A B C : Sh} (h : Alike' A B) (k : Alike' B C) : Alike' A C := ⟨k.wide.trans h.wide, k.high.trans h.high, k.wax.trans h.wax⟩
theorem Alike'.hasB {S S' : Sh} (h : Alike' S S') (x y : Int) : V.hasB S' x y = V.hasB S x y := by simp [V.hasB, h.wide, h.high]
theorem Alike'.waxB {S S' : Sh} (h : Alike' S S') (x y : Int) : V.waxB S' x y = V.waxB S x y := by simp [V.waxB, h.wax]
theorem Alike'.nb {S S' : Sh} (h : Alike' S S') (x y : Int) : V.nb S' x y = V.nb S x y := by
  simp only [V.nb, V.nbB, h.hasB, h.waxB]

section
variable {S : Sh} {fx fy tx ty : Int} (hG : Good S) (hfx : 0 ≤ fx) (hfx8 : fx < 8) (hfy : 0 ≤ fy) (hfy8 : fy < 8) (htx : 0 ≤ tx) (htx8 : tx < 8) (hty : 0 ≤ ty) (hty8 : ty < 8) (h2 : 2 ≤ S.wet fy fx - S.wet ty tx)
include hG hfx hfx8 hfy hfy8 htx htx8 hty hty8 h2

end

end Go.Proofs.YtkanbbfddlhlcaaGreatDoor.V

/- Running and drying: the walk. -/
namespace Go.Proofs.YtkanbbfddlhlcaaGreatDoor.V

theorem cellC_x (W j : Nat) : cellC W (j * 2) = .int .i8 ((j % W : Nat) : Int) := by unfold cellC; rw [if_pos (by omega), show j * 2 / 2 = j by omega]
theorem cellC_y (W j : Nat) : cellC W (j * 2 + 1) = .int .i8 ((j / W : Nat) : Int) := by unfold cellC; rw [if_neg (by omega), show (j * 2 + 1) / 2 = j by omega]
theorem cell_in {W H j : Nat} {S : Sh} (hs : Small S) (hW : S.wide = W) (hH : S.high = H) (hj : j < H * W) : 0 ≤ ((j % W : Nat) : Int) ∧ ((j % W : Nat) : Int) < 8 ∧ 0 ≤ ((j / W : Nat) : Int) ∧ ((j / W : Nat) : Int) < 8 := by
  unfold Small at hs
  have hW0 : 0 < W := by omega
  have hm := Nat.mod_lt j hW0
  have hd : j / W < H := (Nat.div_lt_iff_lt_mul hW0).2 hj
  exact ⟨Int.natCast_nonneg _, by omega, Int.natCast_nonneg _, by omega⟩
theorem pair_flat (x y : Int) {z : Nat} (hz : z < 2) : (cl [SV.int .i8 x, SV.int .i8 y] z).flat := cl_flat (l := [_, _]) (fun v hv => by simp at hv; rcases hv with rfl | rfl <;> trivial) hz

section
variable (cx : Cx) (h : List (Nat × Seg)) (n : Nat)

end
end Go.Proofs.YtkanbbfddlhlcaaGreatDoor.V

/- Plain laws of drying. -/
namespace Go.Proofs.YtkanbbfddlhlcaaGreatDoor.V

/-- Cells before number j. -/
def before (W j : Nat) (y x : Int) : Prop := ∃ k, k < j ∧ y = ((k / W : Nat) : Int) ∧ x = ((k % W : Nat) : Int)
end Go.Proofs.YtkanbbfddlhlcaaGreatDoor.V

/- Validity of a sheet, its water: the walk of the program's own. -/
namespace Go.Proofs.YtkanbbfddlhlcaaGreatDoor.V

/-- A place of a sheet is as it should be. -/
def CellOk (S : Sh) (x y : Int) : Prop :=
  (waxB S x y = true → hasB S x y = true) ∧ (0 ≤ S.wet y x ∧ S.wet y x ≤ 200) ∧ (∀ i : Int, 0 ≤ i → i < 3 → 0 ≤ S.dye y x i ∧ S.dye y x i ≤ 1000) ∧
    ((hasB S x y = true ∧ waxB S x y = false) ∨ (S.wet y x = 0 ∧ S.dye y x 0 = 0 ∧ S.dye y x 1 = 0 ∧ S.dye y x 2 = 0))
def Valid (S : Sh) : Prop := Small S ∧ ∀ y x : Int, 0 ≤ y → y < 8 → 0 ≤ x → x < 8 → CellOk S x y
open Classical in
noncomputable def validB (S : Sh) : Bool := decide (Valid S)
theorem validB_true {S : Sh} (h : Valid S) : validB S = true := by simp [validB, h]
theorem validB_false {S : Sh} (h : ¬ Valid S) : validB S = false := by simp [validB, h]
theorem Valid.good {S : Sh} (h : Valid S) : Good S := ⟨h.1, fun y x a b c d => (h.2 y x a b c d).2.1, fun y x i a b c d e f => (h.2 y x a b c d).2.2.1 i e f⟩

section
variable (cx : Cx) (h : List (Nat × Seg)) (n : Nat)

theorem within_Q (a lo hi : Int) : CallQ Tryz.prog cx 46 [.int .i64 a, .int .i64 lo, .int .i64 hi] h n (.bool (decide (lo ≤ a ∧ a ≤ hi))) := by
  refine callQ_of_T (P := Tryz.prog) hti (nt := 15) (rs := [.tmp 6]) rfl rfl Tryz.call46 Tryz.func46 rfl _ (by simp only [go_sem, and_self]) (Nat.le_of_ble_eq_true rfl) _ (by first | exact trivial | (refine lt_flat rfl ?_; simp [SV.flat]; done) | simp only [go_sem]) fun hok => ?_
  simp only [go_sem, Nat.reduceBEq, Nat.reduceLT, HExt_cons, SV.bool.injEq, decide_eq_true_eq, decide_eq_false_iff_not]
  constructor <;> intro h1 <;> simp [h1]
theorem dye_Q (i o : Nat) (s : Seg) (S : Sh) (x y : Int) (hs : hget h i = some s) (hi : i < n) (hS : ShAt s o S) (hx : 0 ≤ x) (hx8 : x < 8) (hy : 0 ≤ y) (hy8 : y < 8) :
    CallQ Tryz.prog cx 50 [.ptr i o, spot x y] h n (.agg 3 (cl [.int .i16 (S.dye y x 0), .int .i16 (S.dye y x 1), .int .i16 (S.dye y x 2)])) := by
  have hne : (n == i) = false := by simp; omega
  have hlen := hS.1
  have d0 : s.c (o + 66 + y.toNat * 24 + x.toNat * 3) = .int .i16 (S.dye y x 0) := hS.dyeN 0 hy hy8 hx hx8 (by omega)
  have d1 : s.c (o + 66 + y.toNat * 24 + x.toNat * 3 + 1) = .int .i16 (S.dye y x 1) := hS.dyeN 1 hy hy8 hx hx8 (by omega)
  have d2 : s.c (o + 66 + y.toNat * 24 + x.toNat * 3 + 2) = .int .i16 (S.dye y x 2) := hS.dyeN 2 hy hy8 hx hx8 (by omega)
  refine callQ_of_T (P := Tryz.prog) hti (nt := 15) (rs := [.cell 4 35]) rfl rfl Tryz.call50 Tryz.func50 rfl _ (by simp only [go_sem, and_self]) (Nat.le_of_ble_eq_true rfl) _ (by first | exact trivial | (refine lt_flat rfl ?_; simp [SV.flat]; done) | simp only [go_sem]) fun hok => ?_
  simp only [go_sem, Nat.reduceBEq, Nat.reduceLT, Nat.reduceEqDiff, reduceIte]
  refine T_drawT hti 10 _ _ (by kernel_rfl) (by kernel_rfl) ?_
  have hnk : ∀ k, (n + k == i) = false := fun k => by simp; omega
  simp only [go_sem, Nat.reduceBEq, Nat.reduceLT, Nat.reduceLeDiff, reduceIte, reduceCtorEq, hne, hnk, hs, hx, hx8, hy, hy8, d0, d1, d2, HExt_cons]
  omega

theorem valid_Q (F : Nat → SV) (S : Sh) (hF : ShF F S) : CallQ Tryz.prog cx 24 [.agg 266 F] h n (.bool (validB S)) := by
  have hS : ShAt ⟨266, F, true, none⟩ 0 S := ⟨by simp, by simpa using hF⟩
  have hR := hF.R
  have wW := w64 (n := S.wide) (by have := hR.wide; omega)
  have wH := w64 (n := S.high) (by have := hR.high; omega)
  refine callQ_of_T (P := Tryz.prog) hti (nt := 77) (rs := [.tmp 2]) rfl rfl Tryz.call24 Tryz.func24 rfl _ (by simp only [go_sem, and_self]) (Nat.le_of_ble_eq_true rfl) _ (by first | exact trivial | (refine lt_flat rfl ?_; simp [SV.flat]; done) | simp only [go_sem]) fun hok => ?_
  simp only [go_sem, Nat.reduceBEq, Nat.reduceLT, Nat.reduceLeDiff, reduceCtorEq, hF.wide, hF.high, wW, wH]
  refine (within_Q _ _ _ S.wide 1 8).A ?_
  by_cases hw : 1 ≤ S.wide ∧ S.wide ≤ 8
  rotate_left
  · simp only [go_sem, Nat.reduceBEq, Nat.reduceLT, hF.wide, hF.high, wW, wH, decide_eq_false hw, Bool.not_false, HExt_cons, SV.bool.injEq]
    exact (validB_false fun hv => hw ⟨hv.1.1, hv.1.2.1⟩).symm
  simp only [go_sem, Nat.reduceBEq, Nat.reduceLT, Nat.reduceLeDiff, reduceCtorEq, hF.wide, hF.high, wW, wH, decide_eq_true hw, Bool.not_true]
  refine (within_Q _ _ _ S.high 1 8).A ?_
  by_cases hh : 1 ≤ S.high ∧ S.high ≤ 8
  rotate_left
  · simp only [go_sem, Nat.reduceBEq, Nat.reduceLT, decide_eq_false hh, Bool.not_false, HExt_cons, SV.bool.injEq]
    exact (validB_false fun hv => hh ⟨hv.1.2.2.1, hv.1.2.2.2⟩).symm
  simp only [go_sem, Nat.reduceBEq, Nat.reduceLT, decide_eq_true hh, Bool.not_true]
  have hsm : Small S := ⟨hw.1, hw.2, hh.1, hh.2⟩
  refine T_lp (ι := { y : Nat // y ≤ 8 ∧ ∀ y' x' : Int, 0 ≤ y' → y' < y → 0 ≤ x' → x' < 8 → CellOk S x' y' })
    (fun y => ([(1, .ptr n 0), (21, .int .i8 y.1)], (n, ⟨266, F, true, none⟩) :: h, n + 1)) (fun y => 8 - y.1) ⟨0, by omega, fun _ _ _ _ => by omega⟩ ?_ ?_
  · refine Imp.id (by simp) ?_ ?_
    · simp only [go_sem, Nat.reduceBEq]
      omega
    · exact impH.cons0 (by simp only [go_sem]) (by simp) (SegLe.flat (Nat.le_refl _) id (.inr rfl) fun z hz => ⟨rfl, hF.flat hz⟩) (impH.base0 hok (by simp) (HExt.rfl.cons (Nat.le_refl n)))
  · rintro ⟨y, hy, hally⟩
    try simp only at hy hally
    simp only [go_sem, Nat.reduceBEq, Nat.reduceLT, decide_eq_true_eq, decide_eq_false_iff_not]
    refine ⟨fun h1 => ?_, fun h1 => ?_⟩
    · refine T_lp (ι := { x : Nat // x ≤ 8 ∧ ∀ x' : Int, 0 ≤ x' → x' < x → CellOk S x' y })
        (fun x => ([(1, .ptr n 0), (3, .int .i8 y), (21, .int .i8 y), (24, .int .i8 x.1)], (n, ⟨266, F, true, none⟩) :: h, n + 1)) (fun x => 8 - x.1) ⟨0, by omega, fun _ _ => by omega⟩ ?_ ?_
      · refine Imp.id (by simp) ?_ ?_
        · simp only [go_sem, Nat.reduceBEq]
          omega
        · exact impH.cons0 (by simp only [go_sem]) (by simp) (SegLe.flat (Nat.le_refl _) id (.inr rfl) fun z hz => ⟨rfl, hF.flat hz⟩) (impH.base0 hok (by simp) (HExt.rfl.cons (Nat.le_refl n)))
      · rintro ⟨x, hx, hallx⟩
        try simp only at hx hallx
        simp only [go_sem, Nat.reduceBEq, Nat.reduceLT, Nat.reduceLeDiff, Nat.reduceEqDiff, reduceIte, decide_eq_true_eq, decide_eq_false_iff_not]
        refine ⟨fun h2 => ?_, fun h2 => ?_⟩
        · have x0 : (0 : Int) ≤ x := by omega
          have y0 : (0 : Int) ≤ y := by omega
          have hbad : ¬ CellOk S x y → validB S = false := fun hc => validB_false fun hv => hc (hv.2 y x y0 h1 x0 h2)
          refine (has_Q _ _ _ n 0 _ S x y (by simp only [go_sem]) (by omega) hS).A ?_
          cases hb : hasB S x y <;> cases wb : waxB S x y
          · have hwh : waxB S x y = true → hasB S x y = true := fun h => by rw [wb] at h; cases h
            simp only [go_sem, Nat.reduceBEq, Nat.reduceLT, Bool.not_true, Bool.not_false, decide_eq_true_eq, decide_eq_false_iff_not]
            refine (waxed_Q _ _ _ n 0 _ S x y (by simp only [go_sem]) (by omega) hS x0 y0 h1).A ?_
            simp only [go_sem, Nat.reduceBEq, Nat.reduceLT, Bool.not_true, Bool.not_false, decide_eq_true_eq, decide_eq_false_iff_not, wb]
            refine (wet_Q _ _ _ n 0 _ S x y (by simp only [go_sem]) (by omega) hS x0 h2 y0 h1).A ?_
            by_cases hz : S.wet y x = 0
            rotate_left
            · simp only [go_sem, Nat.reduceBEq, Nat.reduceLT, Bool.not_true, Bool.not_false, decide_eq_true_eq, decide_eq_false_iff_not, decide_eq_false hz, HExt_cons, SV.bool.injEq]
              exact (hbad fun hc => hc.2.2.2.elim (fun h => by simp [hb, wb] at h) (fun h => hz h.1)).symm
            simp only [go_sem, Nat.reduceBEq, Nat.reduceLT, Bool.not_true, Bool.not_false, decide_eq_true_eq, decide_eq_false_iff_not, decide_eq_true hz]
            refine (dye_Q _ _ _ n 0 _ S x y (by simp only [go_sem]) (by omega) hS x0 h2 y0 h1).A ?_
            by_cases hd : S.dye y x 0 = 0 ∧ S.dye y x 1 = 0 ∧ S.dye y x 2 = 0
            rotate_left
            · have hd' : ((decide (S.dye y x 0 = 0) && decide (S.dye y x 1 = 0)) && decide (S.dye y x 2 = 0)) = false := by
                rw [Bool.eq_false_iff]; simp only [ne_eq, Bool.and_eq_true, decide_eq_true_eq]; exact fun h => hd ⟨h.1.1, h.1.2, h.2⟩
              simp only [go_sem, Nat.reduceBEq, Nat.reduceLT, Nat.reduceMod, Bool.not_true, Bool.not_false, decide_eq_true_eq, decide_eq_false_iff_not, Bool.true_and, hd', HExt_cons, SV.bool.injEq]
              exact (hbad fun hc => hc.2.2.2.elim (fun h => by simp [hb, wb] at h) (fun h => hd h.2)).symm
            simp only [go_sem, Nat.reduceBEq, Nat.reduceLT, Nat.reduceMod, Bool.not_true, Bool.not_false, decide_eq_true_eq, decide_eq_false_iff_not, Bool.true_and, decide_eq_true hd.1, decide_eq_true hd.2.1, decide_eq_true hd.2.2, Bool.and_self]
            refine (wet_Q _ _ _ n 0 _ S x y (by simp only [go_sem]) (by omega) hS x0 h2 y0 h1).A ?_
            simp only [go_sem, Nat.reduceBEq, Nat.reduceLT, Bool.not_true, Bool.not_false, decide_eq_true_eq, decide_eq_false_iff_not, hz]
            refine (within_Q _ _ _ _ _ _).A ?_
            have hwn : 0 ≤ S.wet y x ∧ S.wet y x ≤ 200 := by omega
            have hfz : (hasB S x y = true ∧ waxB S x y = false) ∨ (S.wet y x = 0 ∧ S.dye y x 0 = 0 ∧ S.dye y x 1 = 0 ∧ S.dye y x 2 = 0) := .inr ⟨hz, hd⟩
            have hwn0 : decide ((0 : Int) ≤ 0 ∧ (0 : Int) ≤ 200) = true := by decide
            simp only [go_sem, Nat.reduceBEq, Nat.reduceLT, Int.reduceLE, Bool.not_true, Bool.not_false, decide_eq_true_eq, decide_eq_false_iff_not, hwn0, hz]
            refine (dye_Q _ _ _ n 0 _ S x y (by simp only [go_sem]) (by omega) hS x0 h2 y0 h1).A ?_
            simp only [go_sem, Nat.reduceLT, Bool.not_true, Bool.not_false, decide_eq_true_eq, decide_eq_false_iff_not]
            refine T_lp (ι := { k : Nat // k ≤ 3 ∧ ∀ k' : Int, 0 ≤ k' → k' < k → 0 ≤ S.dye y x k' ∧ S.dye y x k' ≤ 1000 })
              (fun k => ([(1, .ptr n 0), (3, .int .i8 y), (21, .int .i8 y), (24, .int .i8 x), (66, .agg 3 (cl [.int .i16 (S.dye y x 0), .int .i16 (S.dye y x 1), .int .i16 (S.dye y x 2)])), (67, .int .i64 k.1)], (n, ⟨266, F, true, none⟩) :: h, n + 1)) (fun k => 3 - k.1) ⟨0, by omega, fun _ _ => by omega⟩ ?_ ?_
            · refine Imp.id (by simp) ?_ ?_
              · simp only [go_sem, Nat.reduceBEq]
                exact ⟨by omega, lt_flat (vs := [_, _, _]) rfl (by simp [SV.flat])⟩
              · exact impH.cons0 (by simp only [go_sem]) (by simp) (SegLe.flat (Nat.le_refl _) id (.inr rfl) fun z hz => ⟨rfl, hF.flat hz⟩) (impH.base0 hok (by simp) ((HExt.rfl.cons (Nat.le_refl n)).cons (by simp)))
            · rintro ⟨k, hk, hallk⟩
              try simp only at hk hallk
              simp only [go_sem, Nat.reduceBEq, Nat.reduceLT, decide_eq_true_eq, decide_eq_false_iff_not]
              refine ⟨fun h3 => ⟨by omega, ?_⟩, fun h3 => ?_⟩
              · have hcl : cl [SV.int .i16 (S.dye y x 0), .int .i16 (S.dye y x 1), .int .i16 (S.dye y x 2)] k = .int .i16 (S.dye y x k) := by
                  rcases (by omega : k = 0 ∨ k = 1 ∨ k = 2) with rfl | rfl | rfl <;> rfl
                have hdr := hR.dye y x k
                simp only [go_sem, Nat.reduceLT, hcl, w64 (n := S.dye y x k) (by omega)]
                refine (within_Q _ _ _ _ _ _).A ?_
                by_cases hdk : 0 ≤ S.dye y x k ∧ S.dye y x k ≤ 1000
                · simp only [go_sem, Nat.reduceBEq, Nat.reduceLT, decide_eq_true hdk, Bool.not_true]
                  refine ⟨⟨k + 1, by omega, fun k' a b => ?_⟩, by show 3 - (k + 1) < 3 - k; omega, ?_⟩
                  · rcases (by omega : k' < k ∨ k' = k) with h | rfl
                    · exact hallk k' a h
                    · exact hdk
                  · refine Imp.id (by simp) ?_ ?_
                    · simp only [go_sem, Nat.reduceBEq, w64 (n := (k : Int) + 1) (by omega), Int.natCast_add, Int.natCast_one]
                      exact ⟨by omega, lt_flat (vs := [_, _, _]) rfl (by simp [SV.flat])⟩
                    · exact impH.cons0 (by simp only [go_sem]) (by simp) (SegLe.flat (Nat.le_refl _) id (.inr rfl) fun z hz => ⟨rfl, hF.flat hz⟩) (impH.base0 hok (by simp) (HExt.rfl.cons (Nat.le_refl n)))
                · simp only [go_sem, Nat.reduceLT, decide_eq_false hdk, Bool.not_false, HExt_cons, SV.bool.injEq]
                  exact (hbad fun hc => hdk (hc.2.2.1 k (by omega) h3)).symm
              · have hcell : CellOk S x y := ⟨hwh, hwn, fun k' a b => hallk k' a (by omega), hfz⟩
                refine ⟨⟨x + 1, by omega, fun x' a b => ?_⟩, by show 8 - (x + 1) < 8 - x; omega, ?_⟩
                · rcases (by omega : x' < x ∨ x' = x) with h | rfl
                  · exact hallx x' a h
                  · exact hcell
                · refine Imp.id (by simp) ?_ ?_
                  · simp only [go_sem, Nat.reduceBEq, w8 (n := (x : Int) + 1) (by omega), Int.natCast_add, Int.natCast_one]
                    omega
                  · exact impH.cons0 (by simp only [go_sem]) (by simp) (SegLe.flat (Nat.le_refl _) id (.inr rfl) fun z hz => ⟨rfl, hF.flat hz⟩) (impH.base0 hok (by simp) (HExt.rfl.cons (Nat.le_refl n)))
          · simp only [go_sem, Nat.reduceBEq, Nat.reduceLT, Bool.not_true, Bool.not_false, decide_eq_true_eq, decide_eq_false_iff_not]
            refine (waxed_Q _ _ _ n 0 _ S x y (by simp only [go_sem]) (by omega) hS x0 y0 h1).A ?_
            simp only [go_sem, Nat.reduceBEq, Nat.reduceLT, Bool.not_true, Bool.not_false, decide_eq_true_eq, decide_eq_false_iff_not, wb]
            refine (has_Q _ _ _ n 0 _ S x y (by simp only [go_sem]) (by omega) hS).A ?_
            simp only [go_sem, Nat.reduceBEq, Nat.reduceLT, Bool.not_true, Bool.not_false, decide_eq_true_eq, decide_eq_false_iff_not, hb, HExt_cons, SV.bool.injEq]
            exact (hbad fun hc => by have := hc.1 wb; rw [hb] at this; cases this).symm
          · have hwh : waxB S x y = true → hasB S x y = true := fun _ => hb
            simp only [go_sem, Nat.reduceBEq, Nat.reduceLT, Bool.not_true, Bool.not_false, decide_eq_true_eq, decide_eq_false_iff_not]
            refine (waxed_Q _ _ _ n 0 _ S x y (by simp only [go_sem]) (by omega) hS x0 y0 h1).A ?_
            simp only [go_sem, Nat.reduceBEq, Nat.reduceLT, Bool.not_true, Bool.not_false, decide_eq_true_eq, decide_eq_false_iff_not, wb]
            refine (waxed_Q _ _ _ n 0 _ S x y (by simp only [go_sem]) (by omega) hS x0 y0 h1).A ?_
            simp only [go_sem, Nat.reduceBEq, Nat.reduceLT, Bool.not_true, Bool.not_false, decide_eq_true_eq, decide_eq_false_iff_not, wb]
            refine (wet_Q _ _ _ n 0 _ S x y (by simp only [go_sem]) (by omega) hS x0 h2 y0 h1).A ?_
            simp only [go_sem, Nat.reduceBEq, Nat.reduceLT, Bool.not_true, Bool.not_false, decide_eq_true_eq, decide_eq_false_iff_not]
            refine (within_Q _ _ _ _ _ _).A ?_
            by_cases hwn : 0 ≤ S.wet y x ∧ S.wet y x ≤ 200
            rotate_left
            · simp only [go_sem, Nat.reduceBEq, Nat.reduceLT, Bool.not_true, Bool.not_false, decide_eq_true_eq, decide_eq_false_iff_not, decide_eq_false hwn, HExt_cons, SV.bool.injEq]
              exact (hbad fun hc => hwn hc.2.1).symm
            have hfz : (hasB S x y = true ∧ waxB S x y = false) ∨ (S.wet y x = 0 ∧ S.dye y x 0 = 0 ∧ S.dye y x 1 = 0 ∧ S.dye y x 2 = 0) := .inl ⟨hb, wb⟩
            simp only [go_sem, Nat.reduceBEq, Nat.reduceLT, Bool.not_true, Bool.not_false, decide_eq_true_eq, decide_eq_false_iff_not, decide_eq_true hwn]
            refine (dye_Q _ _ _ n 0 _ S x y (by simp only [go_sem]) (by omega) hS x0 h2 y0 h1).A ?_
            simp only [go_sem, Nat.reduceLT, Bool.not_true, Bool.not_false, decide_eq_true_eq, decide_eq_false_iff_not]
            refine T_lp (ι := { k : Nat // k ≤ 3 ∧ ∀ k' : Int, 0 ≤ k' → k' < k → 0 ≤ S.dye y x k' ∧ S.dye y x k' ≤ 1000 })
              (fun k => ([(1, .ptr n 0), (3, .int .i8 y), (21, .int .i8 y), (24, .int .i8 x), (66, .agg 3 (cl [.int .i16 (S.dye y x 0), .int .i16 (S.dye y x 1), .int .i16 (S.dye y x 2)])), (67, .int .i64 k.1)], (n, ⟨266, F, true, none⟩) :: h, n + 1)) (fun k => 3 - k.1) ⟨0, by omega, fun _ _ => by omega⟩ ?_ ?_
            · refine Imp.id (by simp) ?_ ?_
              · simp only [go_sem, Nat.reduceBEq]
                exact ⟨by omega, lt_flat (vs := [_, _, _]) rfl (by simp [SV.flat])⟩
              · exact impH.cons0 (by simp only [go_sem]) (by simp) (SegLe.flat (Nat.le_refl _) id (.inr rfl) fun z hz => ⟨rfl, hF.flat hz⟩) (impH.base0 hok (by simp) ((HExt.rfl.cons (Nat.le_refl n)).cons (by simp)))
            · rintro ⟨k, hk, hallk⟩
              try simp only at hk hallk
              simp only [go_sem, Nat.reduceBEq, Nat.reduceLT, decide_eq_true_eq, decide_eq_false_iff_not]
              refine ⟨fun h3 => ⟨by omega, ?_⟩, fun h3 => ?_⟩
              · have hcl : cl [SV.int .i16 (S.dye y x 0), .int .i16 (S.dye y x 1), .int .i16 (S.dye y x 2)] k = .int .i16 (S.dye y x k) := by
                  rcases (by omega : k = 0 ∨ k = 1 ∨ k = 2) with rfl | rfl | rfl <;> rfl
                have hdr := hR.dye y x k
                simp only [go_sem, Nat.reduceLT, hcl, w64 (n := S.dye y x k) (by omega)]
                refine (within_Q _ _ _ _ _ _).A ?_
                by_cases hdk : 0 ≤ S.dye y x k ∧ S.dye y x k ≤ 1000
                · simp only [go_sem, Nat.reduceBEq, Nat.reduceLT, decide_eq_true hdk, Bool.not_true]
                  refine ⟨⟨k + 1, by omega, fun k' a b => ?_⟩, by show 3 - (k + 1) < 3 - k; omega, ?_⟩
                  · rcases (by omega : k' < k ∨ k' = k) with h | rfl
                    · exact hallk k' a h
                    · exact hdk
                  · refine Imp.id (by simp) ?_ ?_
                    · simp only [go_sem, Nat.reduceBEq, w64 (n := (k : Int) + 1) (by omega), Int.natCast_add, Int.natCast_one]
                      exact ⟨by omega, lt_flat (vs := [_, _, _]) rfl (by simp [SV.flat])⟩
                    · exact impH.cons0 (by simp only [go_sem]) (by simp) (SegLe.flat (Nat.le_refl _) id (.inr rfl) fun z hz => ⟨rfl, hF.flat hz⟩) (impH.base0 hok (by simp) (HExt.rfl.cons (Nat.le_refl n)))
                · simp only [go_sem, Nat.reduceLT, decide_eq_false hdk, Bool.not_false, HExt_cons, SV.bool.injEq]
                  exact (hbad fun hc => hdk (hc.2.2.1 k (by omega) h3)).symm
              · have hcell : CellOk S x y := ⟨hwh, hwn, fun k' a b => hallk k' a (by omega), hfz⟩
                refine ⟨⟨x + 1, by omega, fun x' a b => ?_⟩, by show 8 - (x + 1) < 8 - x; omega, ?_⟩
                · rcases (by omega : x' < x ∨ x' = x) with h | rfl
                  · exact hallx x' a h
                  · exact hcell
                · refine Imp.id (by simp) ?_ ?_
                  · simp only [go_sem, Nat.reduceBEq, w8 (n := (x : Int) + 1) (by omega), Int.natCast_add, Int.natCast_one]
                    omega
                  · exact impH.cons0 (by simp only [go_sem]) (by simp) (SegLe.flat (Nat.le_refl _) id (.inr rfl) fun z hz => ⟨rfl, hF.flat hz⟩) (impH.base0 hok (by simp) (HExt.rfl.cons (Nat.le_refl n)))
          · have hwh : waxB S x y = true → hasB S x y = true := fun _ => hb
            simp only [go_sem, Nat.reduceBEq, Nat.reduceLT, Bool.not_true, Bool.not_false, decide_eq_true_eq, decide_eq_false_iff_not]
            refine (waxed_Q _ _ _ n 0 _ S x y (by simp only [go_sem]) (by omega) hS x0 y0 h1).A ?_
            simp only [go_sem, Nat.reduceBEq, Nat.reduceLT, Bool.not_true, Bool.not_false, decide_eq_true_eq, decide_eq_false_iff_not, wb]
            refine (waxed_Q _ _ _ n 0 _ S x y (by simp only [go_sem]) (by omega) hS x0 y0 h1).A ?_
            simp only [go_sem, Nat.reduceBEq, Nat.reduceLT, Bool.not_true, Bool.not_false, decide_eq_true_eq, decide_eq_false_iff_not, wb]
            refine (has_Q _ _ _ n 0 _ S x y (by simp only [go_sem]) (by omega) hS).A ?_
            simp only [go_sem, Nat.reduceBEq, Nat.reduceLT, Bool.not_true, Bool.not_false, decide_eq_true_eq, decide_eq_false_iff_not, hb]
            refine (wet_Q _ _ _ n 0 _ S x y (by simp only [go_sem]) (by omega) hS x0 h2 y0 h1).A ?_
            by_cases hz : S.wet y x = 0
            rotate_left
            · simp only [go_sem, Nat.reduceBEq, Nat.reduceLT, Bool.not_true, Bool.not_false, decide_eq_true_eq, decide_eq_false_iff_not, decide_eq_false hz, HExt_cons, SV.bool.injEq]
              exact (hbad fun hc => hc.2.2.2.elim (fun h => by simp [hb, wb] at h) (fun h => hz h.1)).symm
            simp only [go_sem, Nat.reduceBEq, Nat.reduceLT, Bool.not_true, Bool.not_false, decide_eq_true_eq, decide_eq_false_iff_not, decide_eq_true hz]
            refine (dye_Q _ _ _ n 0 _ S x y (by simp only [go_sem]) (by omega) hS x0 h2 y0 h1).A ?_
            by_cases hd : S.dye y x 0 = 0 ∧ S.dye y x 1 = 0 ∧ S.dye y x 2 = 0
            rotate_left
            · have hd' : ((decide (S.dye y x 0 = 0) && decide (S.dye y x 1 = 0)) && decide (S.dye y x 2 = 0)) = false := by
                rw [Bool.eq_false_iff]; simp only [ne_eq, Bool.and_eq_true, decide_eq_true_eq]; exact fun h => hd ⟨h.1.1, h.1.2, h.2⟩
              simp only [go_sem, Nat.reduceBEq, Nat.reduceLT, Nat.reduceMod, Bool.not_true, Bool.not_false, decide_eq_true_eq, decide_eq_false_iff_not, Bool.true_and, hd', HExt_cons, SV.bool.injEq]
              exact (hbad fun hc => hc.2.2.2.elim (fun h => by simp [hb, wb] at h) (fun h => hd h.2)).symm
            simp only [go_sem, Nat.reduceBEq, Nat.reduceLT, Nat.reduceMod, Bool.not_true, Bool.not_false, decide_eq_true_eq, decide_eq_false_iff_not, Bool.true_and, decide_eq_true hd.1, decide_eq_true hd.2.1, decide_eq_true hd.2.2, Bool.and_self]
            refine (wet_Q _ _ _ n 0 _ S x y (by simp only [go_sem]) (by omega) hS x0 h2 y0 h1).A ?_
            simp only [go_sem, Nat.reduceBEq, Nat.reduceLT, Bool.not_true, Bool.not_false, decide_eq_true_eq, decide_eq_false_iff_not, hz]
            refine (within_Q _ _ _ _ _ _).A ?_
            have hwn : 0 ≤ S.wet y x ∧ S.wet y x ≤ 200 := by omega
            have hfz : (hasB S x y = true ∧ waxB S x y = false) ∨ (S.wet y x = 0 ∧ S.dye y x 0 = 0 ∧ S.dye y x 1 = 0 ∧ S.dye y x 2 = 0) := .inr ⟨hz, hd⟩
            have hwn0 : decide ((0 : Int) ≤ 0 ∧ (0 : Int) ≤ 200) = true := by decide
            simp only [go_sem, Nat.reduceBEq, Nat.reduceLT, Int.reduceLE, Bool.not_true, Bool.not_false, decide_eq_true_eq, decide_eq_false_iff_not, hwn0, hz]
            refine (dye_Q _ _ _ n 0 _ S x y (by simp only [go_sem]) (by omega) hS x0 h2 y0 h1).A ?_
            simp only [go_sem, Nat.reduceLT, Bool.not_true, Bool.not_false, decide_eq_true_eq, decide_eq_false_iff_not]
            refine T_lp (ι := { k : Nat // k ≤ 3 ∧ ∀ k' : Int, 0 ≤ k' → k' < k → 0 ≤ S.dye y x k' ∧ S.dye y x k' ≤ 1000 })
              (fun k => ([(1, .ptr n 0), (3, .int .i8 y), (21, .int .i8 y), (24, .int .i8 x), (66, .agg 3 (cl [.int .i16 (S.dye y x 0), .int .i16 (S.dye y x 1), .int .i16 (S.dye y x 2)])), (67, .int .i64 k.1)], (n, ⟨266, F, true, none⟩) :: h, n + 1)) (fun k => 3 - k.1) ⟨0, by omega, fun _ _ => by omega⟩ ?_ ?_
            · refine Imp.id (by simp) ?_ ?_
              · simp only [go_sem, Nat.reduceBEq]
                exact ⟨by omega, lt_flat (vs := [_, _, _]) rfl (by simp [SV.flat])⟩
              · exact impH.cons0 (by simp only [go_sem]) (by simp) (SegLe.flat (Nat.le_refl _) id (.inr rfl) fun z hz => ⟨rfl, hF.flat hz⟩) (impH.base0 hok (by simp) ((HExt.rfl.cons (Nat.le_refl n)).cons (by simp)))
            · rintro ⟨k, hk, hallk⟩
              try simp only at hk hallk
              simp only [go_sem, Nat.reduceBEq, Nat.reduceLT, decide_eq_true_eq, decide_eq_false_iff_not]
              refine ⟨fun h3 => ⟨by omega, ?_⟩, fun h3 => ?_⟩
              · have hcl : cl [SV.int .i16 (S.dye y x 0), .int .i16 (S.dye y x 1), .int .i16 (S.dye y x 2)] k = .int .i16 (S.dye y x k) := by
                  rcases (by omega : k = 0 ∨ k = 1 ∨ k = 2) with rfl | rfl | rfl <;> rfl
                have hdr := hR.dye y x k
                simp only [go_sem, Nat.reduceLT, hcl, w64 (n := S.dye y x k) (by omega)]
                refine (within_Q _ _ _ _ _ _).A ?_
                by_cases hdk : 0 ≤ S.dye y x k ∧ S.dye y x k ≤ 1000
                · simp only [go_sem, Nat.reduceBEq, Nat.reduceLT, decide_eq_true hdk, Bool.not_true]
                  refine ⟨⟨k + 1, by omega, fun k' a b => ?_⟩, by show 3 - (k + 1) < 3 - k; omega, ?_⟩
                  · rcases (by omega : k' < k ∨ k' = k) with h | rfl
                    · exact hallk k' a h
                    · exact hdk
                  · refine Imp.id (by simp) ?_ ?_
                    · simp only [go_sem, Nat.reduceBEq, w64 (n := (k : Int) + 1) (by omega), Int.natCast_add, Int.natCast_one]
                      exact ⟨by omega, lt_flat (vs := [_, _, _]) rfl (by simp [SV.flat])⟩
                    · exact impH.cons0 (by simp only [go_sem]) (by simp) (SegLe.flat (Nat.le_refl _) id (.inr rfl) fun z hz => ⟨rfl, hF.flat hz⟩) (impH.base0 hok (by simp) (HExt.rfl.cons (Nat.le_refl n)))
                · simp only [go_sem, Nat.reduceLT, decide_eq_false hdk, Bool.not_false, HExt_cons, SV.bool.injEq]
                  exact (hbad fun hc => hdk (hc.2.2.1 k (by omega) h3)).symm
              · have hcell : CellOk S x y := ⟨hwh, hwn, fun k' a b => hallk k' a (by omega), hfz⟩
                refine ⟨⟨x + 1, by omega, fun x' a b => ?_⟩, by show 8 - (x + 1) < 8 - x; omega, ?_⟩
                · rcases (by omega : x' < x ∨ x' = x) with h | rfl
                  · exact hallx x' a h
                  · exact hcell
                · refine Imp.id (by simp) ?_ ?_
                  · simp only [go_sem, Nat.reduceBEq, w8 (n := (x : Int) + 1) (by omega), Int.natCast_add, Int.natCast_one]
                    omega
                  · exact impH.cons0 (by simp only [go_sem]) (by simp) (SegLe.flat (Nat.le_refl _) id (.inr rfl) fun z hz => ⟨rfl, hF.flat hz⟩) (impH.base0 hok (by simp) (HExt.rfl.cons (Nat.le_refl n)))
        · have hx8 : x = 8 := by omega
          refine ⟨⟨y + 1, by omega, fun y' x' a b c d => ?_⟩, by show 8 - (y + 1) < 8 - y; omega, ?_⟩
          · rcases (by omega : y' < y ∨ y' = y) with h | rfl
            · exact hally y' x' a h c d
            · exact hallx x' c (by omega)
          · refine Imp.id (by simp) ?_ ?_
            · simp only [go_sem, Nat.reduceBEq, w8 (n := (y : Int) + 1) (by omega), Int.natCast_add, Int.natCast_one]
              omega
            · exact impH.cons0 (by simp only [go_sem]) (by simp) (SegLe.flat (Nat.le_refl _) id (.inr rfl) fun z hz => ⟨rfl, hF.flat hz⟩) (impH.base0 hok (by simp) (HExt.rfl.cons (Nat.le_refl n)))
    · simp only [go_sem, HExt_cons, SV.bool.injEq]
      exact (validB_true ⟨hsm, fun y' x' a b c d => hally y' x' a (by omega) c d⟩).symm
end
end Go.Proofs.YtkanbbfddlhlcaaGreatDoor.V

/- The reference's small functions of sheets. -/
namespace Go.Proofs.YtkanbbfddlhlcaaGreatDoor.V

theorem wu64 {n : Int} (h : 0 ≤ n ∧ n < 18446744073709551616) : IntKind.u64.wrap n = n := by simp [IntKind.wrap, IntKind.bits, IntKind.signed]; omega

section
variable (cx : Cx) (h : List (Nat × Seg)) (n : Nat)

theorem in_Q (a lo hi : Int) : CallQ Tryz.prog cx 34 [.int .i64 a, .int .i64 lo, .int .i64 hi] h n (.bool (decide (lo ≤ a ∧ a ≤ hi))) := by
  refine callQ_of_T (P := Tryz.prog) hti (nt := 15) (rs := [.tmp 6]) rfl rfl Tryz.call34 Tryz.func34 rfl _ (by simp only [go_sem, and_self]) (Nat.le_of_ble_eq_true rfl) _ (by first | exact trivial | (refine lt_flat rfl ?_; simp [SV.flat]; done) | simp only [go_sem]) fun hok => ?_
  simp only [go_sem, Nat.reduceBEq, Nat.reduceLT, HExt_cons, SV.bool.injEq, decide_eq_true_eq, decide_eq_false_iff_not]
  constructor <;> intro h1 <;> simp [h1]
theorem waxed2_Q (i o : Nat) (s : Seg) (S : Sh) (x y : Int) (hs : hget h i = some s) (hi : i < n) (hS : ShAt s o S) (hx : 0 ≤ x) (hx8 : x < 128) (hy : 0 ≤ y) (hy8 : y < 8) :
    CallQ Tryz.prog cx 36 [.ptr i o, spot x y] h n (.bool (waxB S x y)) := by
  have hne : (n == i) = false := by simp; omega
  have hlen := hS.1
  refine callQ_of_T (P := Tryz.prog) hti (nt := 18) (rs := [.tmp 4]) rfl rfl Tryz.call36 Tryz.func36 rfl _ (by simp only [go_sem, and_self]) (Nat.le_of_ble_eq_true rfl) _ (by first | exact trivial | (refine lt_flat rfl ?_; simp [SV.flat]; done) | simp only [go_sem]) fun hok => ?_
  simp only [go_sem, Nat.reduceBEq, Nat.reduceLT]
  refine T_draw hti _ _ (by kernel_rfl) (by kernel_rfl) ?_
  simp only [go_sem, Nat.reduceBEq, Nat.reduceLT, Nat.reduceLeDiff, reduceCtorEq, hne, hs, hS.wax hy hy8, HExt_cons, SV.bool.injEq, waxB, hx, hy, hy8, wu64 (n := x) (by omega)]
  omega
theorem is_Q (i o : Nat) (s : Seg) (S : Sh) (x y : Int) (hs : hget h i = some s) (hi : i < n) (hS : ShAt s o S) (hx : -128 ≤ x ∧ x < 128) (hy : -128 ≤ y ∧ y < 128) :
    CallQ Tryz.prog cx 35 [.ptr i o, spot x y] h n (.bool (hasB S x y)) := by
  have hne : (n == i) = false := by simp; omega
  have hlen := hS.1
  have hRw := hS.2.R.wide
  have hRh := hS.2.R.high
  refine callQ_of_T (P := Tryz.prog) hti (nt := 27) (rs := [.tmp 4]) rfl rfl Tryz.call35 Tryz.func35 rfl _ (by simp only [go_sem, and_self]) (Nat.le_of_ble_eq_true rfl) _ (by first | exact trivial | (refine lt_flat rfl ?_; simp [SV.flat]; done) | simp only [go_sem]) fun hok => ?_
  simp only [go_sem, Nat.reduceBEq, Nat.reduceLT]
  refine T_draw hti _ _ (by kernel_rfl) (by kernel_rfl) ?_
  simp only [go_sem, Nat.reduceBEq, Nat.reduceLT, Nat.reduceLeDiff, reduceCtorEq, hne, hs, hS.wide, hS.high, w64 (n := x) (by omega), w64 (n := y) (by omega), w64 (n := S.wide) (by omega), w64 (n := S.high) (by omega), w64 (n := S.wide - 1) (by omega), w64 (n := S.high - 1) (by omega)]
  refine ⟨by omega, (in_Q _ _ _ x 0 (S.wide - 1)).A ?_⟩
  simp only [go_sem, Nat.reduceBEq, Nat.reduceLT, reduceCtorEq, hne, hs, hS.wide, hS.high, w64 (n := x) (by omega), w64 (n := y) (by omega), w64 (n := S.wide) (by omega), w64 (n := S.high) (by omega), w64 (n := S.wide - 1) (by omega), w64 (n := S.high - 1) (by omega), decide_eq_true_eq, decide_eq_false_iff_not, HExt_cons, SV.bool.injEq]
  refine ⟨fun h1 => ⟨by omega, (in_Q _ _ _ y 0 (S.high - 1)).A ?_⟩, fun h1 => ?_⟩
  · simp only [go_sem, Nat.reduceBEq, Nat.reduceLT, HExt_cons, SV.bool.injEq]
    rw [Bool.eq_iff_iff]
    simp only [hasB, Bool.and_eq_true, decide_eq_true_eq]
    omega
  · symm
    rw [Bool.eq_false_iff]
    simp only [hasB, ne_eq, Bool.and_eq_true, decide_eq_true_eq]
    omega
end
end Go.Proofs.YtkanbbfddlhlcaaGreatDoor.V

/- The law's copies of arrays: the walk. -/
namespace Go.Proofs.YtkanbbfddlhlcaaGreatDoor.V

@[go_sem] theorem mkAgg_8 (F : Nat → SV) : mkAgg 8 F = .agg 8 F := rfl
@[go_sem] theorem mkAgg_24 (F : Nat → SV) : mkAgg 24 F = .agg 24 F := rfl
@[go_sem] theorem mkAgg_64 (F : Nat → SV) : mkAgg 64 F = .agg 64 F := rfl
@[go_sem] theorem mkAgg_192 (F : Nat → SV) : mkAgg 192 F = .agg 192 F := rfl
/-- Cells all plain. -/
def Flat (k : Nat) (F : Nat → SV) : Prop := ∀ j, j < k → (F j).flat
theorem Flat.ones {k : Nat} {F : Nat → SV} (h : Flat k F) : V.ones (.agg k F) = True := eq_true fun j hj => (h j hj).one

section
variable (cx : Cx) (h : List (Nat × Seg)) (n : Nat)

end
end Go.Proofs.YtkanbbfddlhlcaaGreatDoor.V

/- The law's copies of nested arrays: the walk. -/
namespace Go.Proofs.YtkanbbfddlhlcaaGreatDoor.V
section
variable (cx : Cx) (h : List (Nat × Seg)) (n : Nat)

end
end Go.Proofs.YtkanbbfddlhlcaaGreatDoor.V

/- Wax, bit by bit. -/
namespace Go.Proofs.YtkanbbfddlhlcaaGreatDoor.V
theorem wrap_u8w {n : Nat} (h : n < 256) : IntKind.u8.wrap (n : Int) = (n : Int) := by simp [IntKind.wrap, IntKind.bits, IntKind.signed]; omega
theorem ofInt_natw (w n : Nat) : BitVec.ofInt w (n : Int) = BitVec.ofNat w n := by
  apply BitVec.eq_of_toNat_eq; simp
theorem wax_bit {a k : Nat} (ha : a < 256) (hk : k < 8) : decide (bitsI .and .u8 (shrI .u8 (a : Int) (k : Int)) 1 = 1) = a.testBit k := by
  have e1 : shrI .u8 (a : Int) (k : Int) = ((a / 2 ^ k : Nat) : Int) := by
    unfold shrI
    rw [show min ((k : Int).toNat) IntKind.u8.bits = k by simp [IntKind.bits]; omega]
    rw [Int.fdiv_eq_ediv_of_nonneg _ (by exact Int.le_of_lt (Int.pow_pos (by decide)))]
    simp
  rw [e1]
  have hm : a / 2 ^ k < 256 := Nat.lt_of_le_of_lt (Nat.div_le_self _ _) ha
  have e2 : bitsI .and .u8 ((a / 2 ^ k : Nat) : Int) 1 = ((a / 2 ^ k % 2 : Nat) : Int) := by
    unfold bitsI
    simp only
    rw [show (1 : Int) = ((1 : Nat) : Int) from rfl, ofInt_natw, ofInt_natw]
    have : (BitVec.ofNat IntKind.u8.bits (a / 2 ^ k) &&& BitVec.ofNat IntKind.u8.bits 1).toNat = a / 2 ^ k % 2 := by
      show (BitVec.ofNat 8 (a / 2 ^ k) &&& BitVec.ofNat 8 1).toNat = _
      rw [BitVec.toNat_and, BitVec.toNat_ofNat, BitVec.toNat_ofNat, Nat.mod_eq_of_lt hm]
      exact Nat.and_one_is_mod _
    rw [this, wrap_u8w (by omega)]
  rw [e2, Nat.testBit_eq_decide_div_mod_eq]
  congr 1
  rw [eq_iff_iff]
  omega
theorem wax_or {a k : Nat} (ha : a < 256) (hk : k < 8) : bitsI .or .u8 (a : Int) (shlI .u8 1 (k : Int)) = ((a ||| 2 ^ k : Nat) : Int) ∧ (a ||| 2 ^ k) < 256 := by
  have h2 : 2 ^ k < 256 := Nat.lt_of_lt_of_le (Nat.pow_lt_pow_right (by decide) hk) (by decide)
  have hor : (a ||| 2 ^ k) < 256 := Nat.or_lt_two_pow (n := 8) ha h2
  refine ⟨?_, hor⟩
  have e1 : shlI .u8 1 (k : Int) = ((2 ^ k : Nat) : Int) := by
    unfold shlI
    rw [show min ((k : Int).toNat) IntKind.u8.bits = k by simp [IntKind.bits]; omega, Int.one_mul]
    rw [show ((2 : Int) ^ k) = ((2 ^ k : Nat) : Int) by simp]
    exact wrap_u8w h2
  rw [e1]
  unfold bitsI
  simp only
  rw [ofInt_natw, ofInt_natw]
  have : (BitVec.ofNat IntKind.u8.bits a ||| BitVec.ofNat IntKind.u8.bits (2 ^ k)).toNat = a ||| 2 ^ k := by
    show (BitVec.ofNat 8 a ||| BitVec.ofNat 8 (2 ^ k)).toNat = _
    rw [BitVec.toNat_or, BitVec.toNat_ofNat, BitVec.toNat_ofNat, Nat.mod_eq_of_lt ha, Nat.mod_eq_of_lt h2]
  rw [this, wrap_u8w hor]
/-- A cell waxed: it is, the others are as they were. -/
theorem wax_set {v : Int} {x x' : Int} (hv : 0 ≤ v ∧ v < 256) (hx : 0 ≤ x ∧ x < 8) (hx' : 0 ≤ x' ∧ x' < 8) :
    decide (bitsI .and .u8 (shrI .u8 (bitsI .or .u8 v (shlI .u8 1 x)) x') 1 = 1) = (decide (x' = x) || decide (bitsI .and .u8 (shrI .u8 v x') 1 = 1)) := by
  obtain ⟨a, rfl⟩ := Int.eq_ofNat_of_zero_le hv.1
  obtain ⟨k, rfl⟩ := Int.eq_ofNat_of_zero_le hx.1
  obtain ⟨k', rfl⟩ := Int.eq_ofNat_of_zero_le hx'.1
  obtain ⟨e, hl⟩ := wax_or (a := a) (k := k) (by omega) (by omega)
  rw [e, wax_bit hl (by omega), wax_bit (by omega) (by omega), Nat.testBit_or, Nat.testBit_two_pow, Bool.or_comm]
  congr 1
  rw [decide_eq_decide]
  omega
end Go.Proofs.YtkanbbfddlhlcaaGreatDoor.V

/- The source of choices: next, pick, one. -/
namespace Go.Proofs.YtkanbbfddlhlcaaGreatDoor.V
/-- A slice of bytes. -/
def BySl (h : List (Nat × Seg)) (n i : Nat) (A : SV) : Prop :=
  A = .nils ∨ ∃ j o len cap s, A = .sl j o len cap ∧ j < n ∧ j ≠ i ∧ hget h j = some s ∧ o + len ≤ s.n ∧ len ≤ 1048576 ∧ ∀ k, k < len → ∃ v : Int, s.c (o + k) = .int .u8 v ∧ 0 ≤ v ∧ v < 256
section
variable (cx : Cx) (h : List (Nat × Seg)) (n : Nat)
end
end Go.Proofs.YtkanbbfddlhlcaaGreatDoor.V

/- Plain laws: lists of spots, sorted, each one once. -/
namespace Go.Proofs.YtkanbbfddlhlcaaGreatDoor.V

/-- Ahead: a row above; further to the west in a row. -/
def ltSp (a b : Int × Int) : Bool := decide (a.2 < b.2) || (decide (a.2 = b.2) && decide (a.1 < b.1))
theorem ltSp_iff {a b : Int × Int} : ltSp a b = true ↔ a.2 < b.2 ∨ (a.2 = b.2 ∧ a.1 < b.1) := by simp [ltSp]
theorem ltSp_not {a b : Int × Int} : ltSp a b = false ↔ b.2 < a.2 ∨ (a.2 = b.2 ∧ b.1 ≤ a.1) := by
  rw [Bool.eq_false_iff, ne_eq, ltSp_iff]; omega
theorem ltSp_swo : Go.Sort.SWO ltSp where
  irrefl x := by rw [ltSp_not]; omega
  trans x y z h1 h2 := by rw [ltSp_iff] at *; omega
  ntrans x y z h1 h2 := by rw [ltSp_not] at *; omega
theorem ltSp_tri {a b : Int × Int} (h1 : ltSp a b = false) (h2 : ltSp b a = false) : a = b := by
  rw [ltSp_not] at h1 h2
  exact Prod.ext (by omega) (by omega)
def srtS (L : List (Int × Int)) : List (Int × Int) := L.mergeSort fun a b => !ltSp b a
theorem srtS_perm (L : List (Int × Int)) : (srtS L).Perm L := List.mergeSort_perm L _
theorem srtS_sorted (L : List (Int × Int)) : (srtS L).Pairwise fun a b => ltSp b a = false := by
  have h := List.pairwise_mergeSort (le := fun a b => !ltSp b a) (fun a b c h1 h2 => by
    simp only [Bool.not_eq_true'] at *
    exact ltSp_swo.ntrans c b a h2 h1) (fun a b => by
    cases h1 : ltSp b a with
    | false => simp
    | true =>
      cases h2 : ltSp a b with
      | false => simp
      | true => rw [ltSp_iff] at h1 h2; omega) L
  exact h.imp fun {a b} h => by simpa using h
/-- Each one once, where equal ones stand together. -/
def cmpS : List (Int × Int) → List (Int × Int)
  | [] => []
  | [a] => [a]
  | a :: b :: l => if a = b then cmpS (b :: l) else a :: cmpS (b :: l)
theorem cmpS_mem : ∀ (L : List (Int × Int)) (a : Int × Int), a ∈ cmpS L ↔ a ∈ L
  | [], a => Iff.rfl
  | [b], a => Iff.rfl
  | b :: c :: l, a => by
    have ih := cmpS_mem (c :: l) a
    simp only [cmpS]
    split
    · rename_i e; subst e; rw [ih]; simp
    · rw [List.mem_cons, ih]; simp
theorem cmpS_strict : ∀ (L : List (Int × Int)), L.Pairwise (fun a b => ltSp b a = false) → (cmpS L).Pairwise fun a b => ltSp a b = true
  | [], _ => List.Pairwise.nil
  | [b], _ => by simp [cmpS]
  | b :: c :: l, h => by
    have h' := (List.pairwise_cons.1 h)
    have ih := cmpS_strict (c :: l) h'.2
    simp only [cmpS]
    split
    · exact ih
    · rename_i hne
      refine List.pairwise_cons.2 ⟨fun a ha => ?_, ih⟩
      rw [cmpS_mem] at ha
      have hb := h'.1 a ha
      have hc := h'.1 c (by simp)
      cases hlt : ltSp b a with
      | true => rfl
      | false =>
        have e : b = a := ltSp_tri hlt hb
        subst e
        rcases List.mem_cons.1 ha with rfl | ha
        · exact absurd rfl hne
        · have h3 := (List.pairwise_cons.1 h'.2).1 b ha
          exact absurd (ltSp_tri h3 hc) hne
theorem strict_ext : ∀ {A B : List (Int × Int)}, A.Pairwise (fun a b => ltSp a b = true) → B.Pairwise (fun a b => ltSp a b = true) → (∀ a, a ∈ A ↔ a ∈ B) → A = B
  | [], [], _, _, _ => rfl
  | [], b :: B, _, _, h => absurd ((h b).2 (by simp)) (by simp)
  | a :: A, [], _, _, h => absurd ((h a).1 (by simp)) (by simp)
  | a :: A, b :: B, hA, hB, h => by
    have hA' := List.pairwise_cons.1 hA
    have hB' := List.pairwise_cons.1 hB
    have irr : ∀ x y, ltSp x y = true → ltSp y x = true → False := fun x y h1 h2 => by rw [ltSp_iff] at h1 h2; omega
    have e : a = b := by
      rcases List.mem_cons.1 ((h a).1 (by simp)) with e | h1
      · exact e
      · rcases List.mem_cons.1 ((h b).2 (by simp)) with e | h2
        · exact e.symm
        · exact absurd (irr a b (hA'.1 b h2) (hB'.1 a h1)) (by simp)
    subst e
    congr 1
    refine strict_ext hA'.2 hB'.2 fun x => ?_
    constructor
    · intro hx
      rcases List.mem_cons.1 ((h x).1 (by simp [hx])) with e | h1
      · subst e; exact absurd (irr x x (hA'.1 x hx) (hA'.1 x hx)) (by simp)
      · exact h1
    · intro hx
      rcases List.mem_cons.1 ((h x).2 (by simp [hx])) with e | h1
      · subst e; exact absurd (irr x x (hB'.1 x hx) (hB'.1 x hx)) (by simp)
      · exact h1
/-- A set of cells. -/
def setL (L : List (Int × Int)) : List (Int × Int) := cmpS (srtS L)
theorem setL_mem (L : List (Int × Int)) (a : Int × Int) : a ∈ setL L ↔ a ∈ L := by
  unfold setL; rw [cmpS_mem]; exact (srtS_perm L).mem_iff
theorem setL_strict (L : List (Int × Int)) : (setL L).Pairwise fun a b => ltSp a b = true := cmpS_strict _ (srtS_sorted L)
theorem setL_eq {L B : List (Int × Int)} (hB : B.Pairwise fun a b => ltSp a b = true) (h : ∀ a, a ∈ B ↔ a ∈ L) : setL L = B := strict_ext (setL_strict L) hB fun a => (setL_mem L a).trans (h a).symm
end Go.Proofs.YtkanbbfddlhlcaaGreatDoor.V

/- Sets of cells: as grids, and as ordered lists. -/
namespace Go.Proofs.YtkanbbfddlhlcaaGreatDoor.V
/-- A set of cells as a grid. -/
def mkC (L : List (Int × Int)) : Nat → SV := fun j => .bool (decide ((((j % 8 : Nat) : Int), ((j / 8 : Nat) : Int)) ∈ L))
theorem mkC_flat (L : List (Int × Int)) (k : Nat) : (mkC L k).flat := trivial
def mkS (L : List (Int × Int)) : Seg := ⟨64, mkC L, true, none⟩
def In8 (p : Int × Int) : Prop := (0 ≤ p.1 ∧ p.1 < 8) ∧ 0 ≤ p.2 ∧ p.2 < 8
def In8s (L : List (Int × Int)) : Prop := ∀ p ∈ L, In8 p
abbrev Strict (L : List (Int × Int)) : Prop := L.Pairwise fun a b => ltSp a b = true
theorem mkC_ix {y x : Int} (h1 : 0 ≤ y) (h3 : 0 ≤ x) (h4 : x < 8) : (((y.toNat * 8 + x.toNat) % 8 : Nat) : Int) = x ∧ (((y.toNat * 8 + x.toNat) / 8 : Nat) : Int) = y := by omega
/-- The cells of a grid up to a place, ordered. -/
def cellK (k : Nat) : Int × Int := (((k % 8 : Nat) : Int), ((k / 8 : Nat) : Int))
def upM (L : List (Int × Int)) (k : Nat) : List (Int × Int) := ((List.range k).filter fun k => decide (cellK k ∈ L)).map cellK
theorem upM_len (L : List (Int × Int)) (k : Nat) : (upM L k).length ≤ k := by
  unfold upM; rw [List.length_map]; exact Nat.le_trans (List.length_filter_le _ _) (by simp)
theorem upM_strict (L : List (Int × Int)) (k : Nat) : Strict (upM L k) := by
  unfold upM
  refine List.pairwise_map.2 ((List.Pairwise.sublist List.filter_sublist (List.pairwise_lt_range (n := k))).imp fun {a b} h => ?_)
  rw [ltSp_iff]; simp only [cellK]; omega
theorem upM_mem (L : List (Int × Int)) (p : Int × Int) : p ∈ upM L 64 ↔ p ∈ L ∧ In8 p := by
  unfold upM
  rw [List.mem_map]
  constructor
  · rintro ⟨k, hk, rfl⟩
    rw [List.mem_filter, List.mem_range] at hk
    refine ⟨of_decide_eq_true hk.2, ⟨?_, ?_⟩, ?_, ?_⟩ <;> simp only [cellK] <;> omega
  · rintro ⟨h, ⟨h1, h2⟩, h3, h4⟩
    have e : cellK (p.2.toNat * 8 + p.1.toNat) = p := Prod.ext (mkC_ix h3 h1 h2).1 (mkC_ix h3 h1 h2).2
    refine ⟨p.2.toNat * 8 + p.1.toNat, List.mem_filter.2 ⟨List.mem_range.2 (by omega), ?_⟩, e⟩
    rw [e]; exact decide_eq_true h
theorem upM_eq {L : List (Int × Int)} (hL : Strict L) (h8 : In8s L) : upM L 64 = L :=
  strict_ext (upM_strict L 64) hL fun p => ⟨fun h => ((upM_mem L p).1 h).1, fun h => (upM_mem L p).2 ⟨h, h8 p h⟩⟩
theorem In8s.setL {L : List (Int × Int)} (h : In8s L) : In8s (setL L) := fun p hp => h p ((setL_mem L p).1 hp)
theorem In8s.filter {L : List (Int × Int)} (h : In8s L) (P : Int × Int → Bool) : In8s (L.filter P) := fun p hp => h p (List.mem_filter.1 hp).1
theorem strict_len {L : List (Int × Int)} (hL : Strict L) (h8 : In8s L) : L.length ≤ 64 := by rw [← upM_eq hL h8]; exact upM_len _ _
end Go.Proofs.YtkanbbfddlhlcaaGreatDoor.V

/- Plain laws of water: running keeps it, drying lessens it. -/
namespace Go.Proofs.YtkanbbfddlhlcaaGreatDoor.V

/-- A sum of the first numbers. -/
def sumN (f : Nat → Int) : Nat → Int
  | 0 => 0
  | n + 1 => sumN f n + f n
/-- The water of the first cells. -/
def wetAt (S : Sh) (W : Nat) (k : Nat) : Int := S.wet ((k / W : Nat) : Int) ((k % W : Nat) : Int)
def waterN (S : Sh) (W : Nat) (j : Nat) : Int := sumN (wetAt S W) j
def water (S : Sh) (W H : Nat) : Int := waterN S W (H * W)

theorem cell_lt {W H j : Nat} {S : Sh} (hs : Small S) (hW : S.wide = W) (hH : S.high = H) (hj : j < H * W) : 0 ≤ ((j % W : Nat) : Int) ∧ ((j % W : Nat) : Int) < 8 ∧ 0 ≤ ((j / W : Nat) : Int) ∧ ((j / W : Nat) : Int) < 8 := by
  unfold Small at hs
  have hW0 : 0 < W := by omega
  have hm := Nat.mod_lt j hW0
  have hd : j / W < H := (Nat.div_lt_iff_lt_mul hW0).2 hj
  exact ⟨Int.natCast_nonneg _, by omega, Int.natCast_nonneg _, by omega⟩
end Go.Proofs.YtkanbbfddlhlcaaGreatDoor.V

/- The code of a sheet, its water: the walk. -/
namespace Go.Proofs.YtkanbbfddlhlcaaGreatDoor.V

section
variable (cx : Cx) (h : List (Nat × Seg)) (n : Nat)

end

end Go.Proofs.YtkanbbfddlhlcaaGreatDoor.V

/- Cells that hold spots. -/
namespace Go.Proofs.YtkanbbfddlhlcaaGreatDoor.V
/-- Cells that hold spots. -/
def SpsAt (s : Seg) (L : List (Int × Int)) : Prop := L.length * 2 ≤ s.n ∧ ∀ k, k < L.length * 2 → s.c k = spotsC L k
theorem SpsAt.x {s : Seg} {L : List (Int × Int)} (h : SpsAt s L) {j : Nat} (hj : j < L.length) : s.c (j * 2) = .int .i8 (L.getD j (0, 0)).1 := by rw [h.2 _ (by omega), spotsC_x]
theorem SpsAt.y {s : Seg} {L : List (Int × Int)} (h : SpsAt s L) {j : Nat} (hj : j < L.length) : s.c (j * 2 + 1) = .int .i8 (L.getD j (0, 0)).2 := by rw [h.2 _ (by omega), spotsC_y]

end Go.Proofs.YtkanbbfddlhlcaaGreatDoor.V

/- The reference's neighbours, giving, running, drying: the walk. -/
namespace Go.Proofs.YtkanbbfddlhlcaaGreatDoor.V

section
variable (cx : Cx) (h : List (Nat × Seg)) (n : Nat)

end
end Go.Proofs.YtkanbbfddlhlcaaGreatDoor.V

/- The reference's giving of a unit: the walk. -/
namespace Go.Proofs.YtkanbbfddlhlcaaGreatDoor.V

section
variable (cx : Cx) (h : List (Nat × Seg)) (n : Nat)

end
end Go.Proofs.YtkanbbfddlhlcaaGreatDoor.V

/- The reference's round of running: the walk. -/
namespace Go.Proofs.YtkanbbfddlhlcaaGreatDoor.V

theorem ShF.at {F : Nat → SV} {S : Sh} (h : ShF F S) : ShAt ⟨266, F, true, none⟩ 0 S := ⟨by simp, by simpa using h⟩
theorem ShAt.F {F : Nat → SV} {S : Sh} (h : ShAt ⟨266, F, true, none⟩ 0 S) : ShF F S := by have := h.2; simp only [Nat.zero_add] at this; exact this
section
variable (cx : Cx) (h : List (Nat × Seg)) (n : Nat)

end
end Go.Proofs.YtkanbbfddlhlcaaGreatDoor.V

/- The reference's water of a sheet: the walk. -/
namespace Go.Proofs.YtkanbbfddlhlcaaGreatDoor.V

section
variable (cx : Cx) (h : List (Nat × Seg)) (n : Nat)
end

/-- Places that a sheet does not have hold no water. -/
def Out (S : Sh) : Prop := ∀ y x : Int, 0 ≤ y → y < 8 → 0 ≤ x → x < 8 → hasB S x y = false → S.wet y x = 0
theorem Valid.out {S : Sh} (hV : Valid S) : Out S := fun y x a b c d hf => (hV.2 y x a b c d).2.2.2.elim (fun h => by rw [hf] at h; cases h.1) (fun h => h.1)
end Go.Proofs.YtkanbbfddlhlcaaGreatDoor.V

/- Validity of a sheet, by the reference: the walk. -/
namespace Go.Proofs.YtkanbbfddlhlcaaGreatDoor.V

/-- Water and dye of a place are as they should be. -/
def CellIn (S : Sh) (x y : Int) : Prop :=
  (0 ≤ S.wet y x ∧ S.wet y x ≤ 200) ∧ (∀ i : Int, 0 ≤ i → i < 3 → 0 ≤ S.dye y x i ∧ S.dye y x i ≤ 1000) ∧
    ((hasB S x y = true ∧ waxB S x y = false) ∨ (S.wet y x = 0 ∧ S.dye y x 0 = 0 ∧ S.dye y x 1 = 0 ∧ S.dye y x 2 = 0))
open Classical in
noncomputable def cellB (S : Sh) (x y : Int) : Bool := decide (CellIn S x y)
theorem cellB_true {S : Sh} {x y : Int} (h : CellIn S x y) : cellB S x y = true := by simp [cellB, h]
theorem cellB_false {S : Sh} {x y : Int} (h : ¬ CellIn S x y) : cellB S x y = false := by simp [cellB, h]
/-- Water and the first dyes of a place, added. -/
def sumD (S : Sh) (x y : Int) : Nat → Int
  | 0 => S.wet y x
  | k + 1 => sumD S x y k + S.dye y x k

section
variable (cx : Cx) (h : List (Nat × Seg)) (n : Nat)

theorem cell2_Q (i o : Nat) (s : Seg) (S : Sh) (x y : Int) (hs : hget h i = some s) (hi : i < n) (hS : ShAt s o S) (hx : 0 ≤ x) (hx8 : x < 8) (hy : 0 ≤ y) (hy8 : y < 8) :
    CallQ Tryz.prog cx 37 [.ptr i o, spot x y] h n (.bool (cellB S x y)) := by
  have hne : (n == i) = false := by simp; omega
  have hlen := hS.1
  have hwr := hS.2.R.wet y x
  have hbad : ¬ CellIn S x y → cellB S x y = false := cellB_false
  refine callQ_of_T (P := Tryz.prog) hti (nt := 60) (rs := [.tmp 4]) rfl rfl Tryz.call37 Tryz.func37 rfl _ (by simp only [go_sem, and_self]) (Nat.le_of_ble_eq_true rfl) _ (by first | exact trivial | (refine lt_flat rfl ?_; simp [SV.flat]; done) | simp only [go_sem]) fun hok => ?_
  simp only [go_sem, Nat.reduceBEq, Nat.reduceLT]
  refine T_draw hti _ _ (by kernel_rfl) (by kernel_rfl) ?_
  simp only [go_sem, Nat.reduceBEq, Nat.reduceLT, Nat.reduceLeDiff, reduceCtorEq, hne, hs, hS.wet hy hy8 hx hx8, hx, hx8, hy, hy8, w64 (n := S.wet y x) (by omega)]
  refine ⟨by omega, (in_Q _ _ _ _ _ _).A ?_⟩
  by_cases hwn : 0 ≤ S.wet y x ∧ S.wet y x ≤ 200
  rotate_left
  · simp only [go_sem, Nat.reduceLT, decide_eq_false hwn, HExt_cons, SV.bool.injEq]
    exact (hbad fun hc => hwn hc.1).symm
  simp only [go_sem, Nat.reduceBEq, Nat.reduceLT, decide_eq_true hwn]
  refine T_lp (ι := { k : Nat // k ≤ 3 ∧ ∀ k' : Int, 0 ≤ k' → k' < k → 0 ≤ S.dye y x k' ∧ S.dye y x k' ≤ 1000 })
    (fun k => ([(0, .ptr i o), (3, .ptr n 0), (6, .int .i64 (sumD S x y k.1)), (7, .int .i64 k.1)], (n, ⟨2, cl [.int .i8 x, .int .i8 y], true, none⟩) :: h, n + 1)) (fun k => 3 - k.1) ⟨0, by omega, fun _ _ => by omega⟩ ?_ ?_
  · refine Imp.id (by simp) ?_ ?_
    · simp only [go_sem, Nat.reduceBEq, sumD]
      omega
    · exact impH.cons0 (by simp only [go_sem]) (by simp) (SegLe.flat (Nat.le_refl _) id (.inr rfl) fun z hz => ⟨rfl, pair_flat _ _ hz⟩) (impH.base0 hok (by simp) (HExt.rfl.cons (Nat.le_refl n)))
  · rintro ⟨k, hk, hall⟩
    have hsum : 0 ≤ sumD S x y k ∧ sumD S x y k ≤ 200 + 1000 * k := by
      have : ∀ m, m ≤ k → 0 ≤ sumD S x y m ∧ sumD S x y m ≤ 200 + 1000 * m := by
        intro m
        induction m with
        | zero => intro _; simp only [sumD]; omega
        | succ m ih => intro hm; have := ih (by omega); have := hall m (by omega) (by omega); simp only [sumD]; omega
      exact this k (Nat.le_refl k)
    simp only [go_sem, Nat.reduceBEq, Nat.reduceLT, decide_eq_true_eq, decide_eq_false_iff_not]
    refine ⟨fun h1 => ?_, fun h1 => ?_⟩
    · have hkr : (0 : Int) ≤ k ∧ (k : Int) < 3 := ⟨by omega, h1⟩
      have hd1 : s.c (o + 66 + y.toNat * 24 + x.toNat * 3 + k) = .int .i16 (S.dye y x k) := hS.dyeN k hy hy8 hx hx8 (by omega)
      have hdr := hS.2.R.dye y x k
      refine T_draw hti _ _ (by kernel_rfl) (by kernel_rfl) ?_
      simp only [go_sem, Nat.reduceBEq, Nat.reduceLT, Nat.reduceLeDiff, reduceCtorEq, hne, hs, hx, hx8, hy, hy8, hkr, hd1, w64 (n := S.dye y x k) (by omega)]
      refine ⟨by omega, (in_Q _ _ _ _ _ _).A ?_⟩
      by_cases hdk : 0 ≤ S.dye y x k ∧ S.dye y x k ≤ 1000
      rotate_left
      · simp only [go_sem, Nat.reduceLT, decide_eq_false hdk, HExt_cons, SV.bool.injEq]
        exact (hbad fun hc => hdk (hc.2.1 k hkr.1 hkr.2)).symm
      simp only [go_sem, Nat.reduceBEq, Nat.reduceLT, decide_eq_true hdk, w64 (n := sumD S x y k + S.dye y x k) (by omega)]
      refine ⟨⟨k + 1, by omega, fun k' a b => ?_⟩, by show 3 - (k + 1) < 3 - k; omega, ?_⟩
      · rcases (by omega : k' < k ∨ k' = k) with h | rfl
        · exact hall k' a h
        · exact hdk
      · refine Imp.id (by simp) ?_ ?_
        · simp only [go_sem, Nat.reduceBEq, sumD, w64 (n := (k : Int) + 1) (by omega), Int.natCast_add, Int.natCast_one]
          omega
        · exact impH.cons0 (by simp only [go_sem]) (by simp) (SegLe.flat (Nat.le_refl _) id (.inr rfl) fun z hz => ⟨rfl, pair_flat _ _ hz⟩) (impH.base0 hok (by simp) (HExt.rfl.cons (Nat.le_refl n)))
    · have hk3 : k = 3 := by omega
      subst hk3
      have hd : ∀ i : Int, 0 ≤ i → i < 3 → 0 ≤ S.dye y x i ∧ S.dye y x i ≤ 1000 := fun i a b => hall i a b
      have d0 := hd 0 (by omega) (by omega)
      have d1 := hd 1 (by omega) (by omega)
      have d2 := hd 2 (by omega) (by omega)
      have hs3 : sumD S x y 3 = S.wet y x + S.dye y x 0 + S.dye y x 1 + S.dye y x 2 := rfl
      refine ⟨fun hz => ?_, fun hz => ?_⟩
      · have hnz : ¬ (S.wet y x = 0 ∧ S.dye y x 0 = 0 ∧ S.dye y x 1 = 0 ∧ S.dye y x 2 = 0) := fun h => hz (by rw [hs3]; omega)
        refine (is_Q _ _ _ i o s S x y (by simp only [go_sem, hne, hs]) (by omega) hS (by omega) (by omega)).A ?_
        cases hb : hasB S x y
        · simp only [go_sem, Nat.reduceBEq, Nat.reduceLT, Int.reduceLT, HExt_cons, SV.bool.injEq]
          exact (hbad fun hc => hc.2.2.elim (fun h => by rw [hb] at h; exact absurd h.1 (by simp)) hnz).symm
        · simp only [go_sem, Nat.reduceBEq, Nat.reduceLT, Int.reduceLT]
          refine (waxed2_Q _ _ _ i o s S x y (by simp only [go_sem, hne, hs]) (by omega) hS hx (by omega) hy hy8).A ?_
          cases wb : waxB S x y
          · simp only [go_sem, Nat.reduceBEq, Nat.reduceLT, HExt_cons, SV.bool.injEq]
            exact (cellB_true ⟨hwn, hd, .inl ⟨hb, wb⟩⟩).symm
          · simp only [go_sem, Nat.reduceBEq, Nat.reduceLT, HExt_cons, SV.bool.injEq]
            exact (hbad fun hc => hc.2.2.elim (fun h => by rw [wb] at h; exact absurd h.2 (by simp)) hnz).symm
      · rw [hs3] at hz
        rw [cellB_true ⟨hwn, hd, .inr ⟨by omega, by omega, by omega, by omega⟩⟩]

theorem ok2_Q (i o : Nat) (s : Seg) (S : Sh) (hs : hget h i = some s) (hi : i < n) (hS : ShAt s o S) :
    CallQ Tryz.prog cx 18 [.ptr i o] h n (.bool (validB S)) := by
  have hne : (n == i) = false := by simp; omega
  have hlen := hS.1
  have wW := w64 (n := S.wide) (by have := hS.2.R.wide; omega)
  have wH := w64 (n := S.high) (by have := hS.2.R.high; omega)
  refine callQ_of_T (P := Tryz.prog) hti (nt := 46) (rs := [.tmp 2]) rfl rfl Tryz.call18 Tryz.func18 rfl _ (by simp only [go_sem, and_self]) (Nat.le_of_ble_eq_true rfl) _ (by first | exact trivial | (refine lt_flat rfl ?_; simp [SV.flat]; done) | simp only [go_sem]) fun hok => ?_
  simp only [go_sem, Nat.reduceBEq, Nat.reduceLT, reduceCtorEq, hne, hs, hS.wide, hS.high, wW, wH]
  refine ⟨by omega, (in_Q _ _ _ S.wide 1 8).A ?_⟩
  by_cases hw : 1 ≤ S.wide ∧ S.wide ≤ 8
  rotate_left
  · simp only [go_sem, Nat.reduceBEq, Nat.reduceLT, decide_eq_false hw, HExt_cons, SV.bool.injEq]
    exact (validB_false fun hv => hw ⟨hv.1.1, hv.1.2.1⟩).symm
  simp only [go_sem, Nat.reduceBEq, Nat.reduceLT, reduceCtorEq, hne, hs, hS.wide, hS.high, wW, wH, decide_eq_true hw]
  refine ⟨by omega, (in_Q _ _ _ S.high 1 8).A ?_⟩
  by_cases hh : 1 ≤ S.high ∧ S.high ≤ 8
  rotate_left
  · simp only [go_sem, Nat.reduceBEq, Nat.reduceLT, decide_eq_false hh, HExt_cons, SV.bool.injEq]
    exact (validB_false fun hv => hh ⟨hv.1.2.2.1, hv.1.2.2.2⟩).symm
  simp only [go_sem, Nat.reduceBEq, Nat.reduceLT, decide_eq_true hh]
  have hsm : Small S := ⟨hw.1, hw.2, hh.1, hh.2⟩
  refine T_lp (ι := { y : Nat // y ≤ 8 ∧ ∀ y' x' : Int, 0 ≤ y' → y' < y → 0 ≤ x' → x' < 8 → CellOk S x' y' })
    (fun y => ([(0, .ptr i o), (3, .int .i8 y.1)], h, n)) (fun y => 8 - y.1) ⟨0, by omega, fun _ _ _ _ => by omega⟩ ?_ ?_
  · refine Imp.id (by simp) ?_ (impH.base0 hok (Nat.le_refl n) HExt.rfl)
    simp only [go_sem, Nat.reduceBEq]
    omega
  · rintro ⟨y, hy, hally⟩
    simp only [go_sem, Nat.reduceBEq, Nat.reduceLT, decide_eq_true_eq, decide_eq_false_iff_not]
    refine ⟨fun h1 => ?_, fun h1 => ?_⟩
    · refine T_lp (ι := { x : Nat // x ≤ 8 ∧ ∀ x' : Int, 0 ≤ x' → x' < x → CellOk S x' y })
        (fun x => ([(0, .ptr i o), (3, .int .i8 y), (4, .int .i8 x.1)], h, n)) (fun x => 8 - x.1) ⟨0, by omega, fun _ _ => by omega⟩ ?_ ?_
      · refine Imp.id (by simp) ?_ (impH.base0 hok (Nat.le_refl n) HExt.rfl)
        simp only [go_sem, Nat.reduceBEq]
        omega
      · rintro ⟨x, hx, hallx⟩
        simp only [go_sem, Nat.reduceBEq, Nat.reduceLT, Nat.reduceLeDiff, Nat.reduceEqDiff, reduceIte, decide_eq_true_eq, decide_eq_false_iff_not]
        refine ⟨fun h2 => ?_, fun h2 => ?_⟩
        · have x0 : (0 : Int) ≤ x := by omega
          have y0 : (0 : Int) ≤ y := by omega
          have hbad : ¬ CellOk S x y → validB S = false := fun hc => validB_false fun hv => hc (hv.2 y x y0 h1 x0 h2)
          refine (is_Q _ _ _ i o s S x y (by simp only [go_sem, hne, hs]) (by omega) hS (by omega) (by omega)).A ?_
          cases hb : hasB S x y
          · simp only [go_sem, Nat.reduceBEq, Nat.reduceLT]
            refine (waxed2_Q _ _ _ i o s S x y (by simp only [go_sem, hne, hs]) (by omega) hS x0 (by omega) y0 h1).A ?_
            cases wb : waxB S x y
            · have hwh : waxB S x y = true → hasB S x y = true := fun h => by rw [wb] at h; cases h
              simp only [go_sem, Nat.reduceBEq, Nat.reduceLT]
              refine (cell2_Q _ _ _ i o s S x y (by simp only [go_sem, hne, hs]) (by omega) hS x0 h2 y0 h1).A ?_
              by_cases hc : CellIn S x y
              rotate_left
              · simp only [go_sem, Nat.reduceLT, cellB_false hc, HExt_cons, SV.bool.injEq]
                exact (hbad fun h => hc h.2).symm
              simp only [go_sem, Nat.reduceBEq, Nat.reduceLT, cellB_true hc]
              refine ⟨⟨x + 1, by omega, fun x' a b => ?_⟩, by show 8 - (x + 1) < 8 - x; omega, ?_⟩
              · rcases (by omega : x' < x ∨ x' = x) with h | rfl
                · exact hallx x' a h
                · exact ⟨hwh, hc⟩
              · refine Imp.id (by simp) ?_ (impH.base0 hok (Nat.le_refl n) (HExt.rfl.cons (Nat.le_refl n)))
                simp only [go_sem, Nat.reduceBEq, w8 (n := (x : Int) + 1) (by omega), Int.natCast_add, Int.natCast_one]
                omega
            · simp only [go_sem, Nat.reduceBEq, Nat.reduceLT, HExt_cons, SV.bool.injEq]
              exact (hbad fun hc => by have := hc.1 wb; rw [hb] at this; cases this).symm
          · have hwh : waxB S x y = true → hasB S x y = true := fun _ => hb
            simp only [go_sem, Nat.reduceBEq, Nat.reduceLT]
            refine (cell2_Q _ _ _ i o s S x y (by simp only [go_sem, hne, hs]) (by omega) hS x0 h2 y0 h1).A ?_
            by_cases hc : CellIn S x y
            rotate_left
            · simp only [go_sem, Nat.reduceLT, cellB_false hc, HExt_cons, SV.bool.injEq]
              exact (hbad fun h => hc h.2).symm
            simp only [go_sem, Nat.reduceBEq, Nat.reduceLT, cellB_true hc]
            refine ⟨⟨x + 1, by omega, fun x' a b => ?_⟩, by show 8 - (x + 1) < 8 - x; omega, ?_⟩
            · rcases (by omega : x' < x ∨ x' = x) with h | rfl
              · exact hallx x' a h
              · exact ⟨hwh, hc⟩
            · refine Imp.id (by simp) ?_ (impH.base0 hok (Nat.le_refl n) (HExt.rfl.cons (Nat.le_refl n)))
              simp only [go_sem, Nat.reduceBEq, w8 (n := (x : Int) + 1) (by omega), Int.natCast_add, Int.natCast_one]
              omega
        · have hx8 : x = 8 := by omega
          refine ⟨⟨y + 1, by omega, fun y' x' a b c d => ?_⟩, by show 8 - (y + 1) < 8 - y; omega, ?_⟩
          · rcases (by omega : y' < y ∨ y' = y) with h | rfl
            · exact hally y' x' a h c d
            · exact hallx x' c (by omega)
          · refine Imp.id (by simp) ?_ (impH.base0 hok (Nat.le_refl n) HExt.rfl)
            simp only [go_sem, Nat.reduceBEq, w8 (n := (y : Int) + 1) (by omega), Int.natCast_add, Int.natCast_one]
            omega
    · simp only [go_sem, HExt_cons, SV.bool.injEq]
      exact (validB_true ⟨hsm, fun y' x' a b c d => hally y' x' a (by omega) c d⟩).symm
end
end Go.Proofs.YtkanbbfddlhlcaaGreatDoor.V
