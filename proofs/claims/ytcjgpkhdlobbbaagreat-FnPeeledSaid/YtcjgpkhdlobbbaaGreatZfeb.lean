/- Part 2 of the texts that this proof stands on: a symbolic walk over the program, what its functions and the reference's do, plain laws. -/
import Derived.Test.YtcjgpkhdlobbbaaGreatZfea
import Derived.Test.YtcjgpkhdlobbbaaGreatV13
import Derived.Test.YtcjgpkhdlobbbaaGreatTi
import Derived.Sort.AssemblyPlain
set_option linter.all false

/- Sheets as plain data, and as they lie in memory. -/
namespace Go.Proofs.YtcjgpkhdlobbbaaGreat.V

theorem fn_lt {f n : Nat} {xs ys : List SV} (h1 : ∀ v ∈ xs, v.lt n) (h2 : ∀ v ∈ ys, v.lt n) : (SV.fn f xs.length (cl xs) ys.length (cl ys)).lt n := ⟨cl_lt h1, cl_lt h2⟩

theorem lt_flat {m k : Nat} {vs : List SV} (hk : vs.length = k) (h : ∀ v ∈ vs, v.flat) : (SV.agg k (cl vs)).lt m := hk ▸ cl_lt fun v hv => (h v hv).below m

/-- A sheet: sides, water, dye, wax. -/
structure Sh where
  wide : Int
  high : Int
  wet : Int → Int → Int
  dye : Int → Int → Int → Int
  wax : Int → Int

/-- All numbers fit. -/
structure ShR (S : Sh) : Prop where
  wide : -128 ≤ S.wide ∧ S.wide < 128
  high : -128 ≤ S.high ∧ S.high < 128
  wet : ∀ y x, -32768 ≤ S.wet y x ∧ S.wet y x < 32768
  dye : ∀ y x i, -32768 ≤ S.dye y x i ∧ S.dye y x i < 32768
  wax : ∀ y, 0 ≤ S.wax y ∧ S.wax y < 256

/-- Cells that hold a sheet. -/
structure ShF (F : Nat → SV) (S : Sh) : Prop where
  R : ShR S
  wide : F 0 = .int .i8 S.wide
  high : F 1 = .int .i8 S.high
  wet : ∀ y x : Int, 0 ≤ y → y < 8 → 0 ≤ x → x < 8 → F (2 + y.toNat * 8 + x.toNat) = .int .i16 (S.wet y x)
  dye : ∀ y x i : Int, 0 ≤ y → y < 8 → 0 ≤ x → x < 8 → 0 ≤ i → i < 3 → F (66 + y.toNat * 24 + x.toNat * 3 + i.toNat) = .int .i16 (S.dye y x i)
  wax : ∀ y : Int, 0 ≤ y → y < 8 → F (258 + y.toNat) = .int .u8 (S.wax y)
def ShAt (s : Seg) (o : Nat) (S : Sh) : Prop := o + 266 ≤ s.n ∧ ShF (fun j => s.c (o + j)) S

theorem ShAt.wide {s : Seg} {o : Nat} {S : Sh} (h : ShAt s o S) : s.c o = .int .i8 S.wide := h.2.wide
theorem ShAt.high {s : Seg} {o : Nat} {S : Sh} (h : ShAt s o S) : s.c (o + 1) = .int .i8 S.high := h.2.high
theorem ShAt.wet {s : Seg} {o : Nat} {S : Sh} (h : ShAt s o S) {y x : Int} (h1 : 0 ≤ y) (h2 : y < 8) (h3 : 0 ≤ x) (h4 : x < 8) : s.c (o + 2 + y.toNat * 8 + x.toNat) = .int .i16 (S.wet y x) := by
  have := h.2.wet y x h1 h2 h3 h4
  simpa only [Nat.add_assoc] using this
theorem ShAt.dye {s : Seg} {o : Nat} {S : Sh} (h : ShAt s o S) {y x i : Int} (h1 : 0 ≤ y) (h2 : y < 8) (h3 : 0 ≤ x) (h4 : x < 8) (h5 : 0 ≤ i) (h6 : i < 3) :
    s.c (o + 66 + y.toNat * 24 + x.toNat * 3 + i.toNat) = .int .i16 (S.dye y x i) := by
  have := h.2.dye y x i h1 h2 h3 h4 h5 h6
  simpa only [Nat.add_assoc] using this
theorem ShAt.wax {s : Seg} {o : Nat} {S : Sh} (h : ShAt s o S) {y : Int} (h1 : 0 ≤ y) (h2 : y < 8) : s.c (o + 258 + y.toNat) = .int .u8 (S.wax y) := by
  have := h.2.wax y h1 h2
  simpa only [Nat.add_assoc] using this

theorem upd_far {c : Nat → SV} {o z : Nat} {v : SV} (h : z ≠ o) : upd c o v z = c z := by simp [upd, h]
theorem cl_flat {l : List SV} (h : ∀ v ∈ l, v.flat) {k : Nat} (hk : k < l.length) : (cl l k).flat := by
  rw [cl_eq, List.getElem?_eq_getElem hk]; exact h _ (List.getElem_mem hk)
theorem ShAt.flat {s : Seg} {o : Nat} {S : Sh} (h : ShAt s o S) {z : Nat} (h1 : o ≤ z) (h2 : z < o + 266) : (s.c z).flat := by
  obtain ⟨d, rfl⟩ : ∃ d, z = o + d := ⟨z - o, by omega⟩
  obtain ⟨hl, R, a1, a2, a3, a4, a5⟩ := h
  rcases (by omega : d = 0 ∨ d = 1 ∨ (2 ≤ d ∧ d < 66) ∨ (66 ≤ d ∧ d < 258) ∨ 258 ≤ d) with h | h | h | h | h
  · subst h; rw [show s.c (o + 0) = _ from a1]; trivial
  · subst h; rw [show s.c (o + 1) = _ from a2]; trivial
  · have := a3 (((d - 2) / 8 : Nat) : Int) (((d - 2) % 8 : Nat) : Int) (by omega) (by omega) (by omega) (by omega)
    simp only [Int.toNat_natCast] at this
    rw [show o + d = o + (2 + (d - 2) / 8 * 8 + (d - 2) % 8) by omega, this]; trivial
  · have := a4 (((d - 66) / 24 : Nat) : Int) (((d - 66) % 24 / 3 : Nat) : Int) (((d - 66) % 3 : Nat) : Int) (by omega) (by omega) (by omega) (by omega) (by omega) (by omega)
    simp only [Int.toNat_natCast] at this
    rw [show o + d = o + (66 + (d - 66) / 24 * 24 + (d - 66) % 24 / 3 * 3 + (d - 66) % 3) by omega, this]; trivial
  · have := a5 ((d - 258 : Nat) : Int) (by omega) (by omega)
    simp only [Int.toNat_natCast] at this
    rw [show o + d = o + (258 + (d - 258)) by omega, this]; trivial
theorem ShAt.below {sn : Nat} {c sc : Nat → SV} {r : Bool} {w : Option (Nat × Nat)} {o m : Nat} {S : Sh} (h : ShAt ⟨sn, c, r, w⟩ o S) (ho : ∀ z, z < o ∨ o + 266 ≤ z → c z = sc z) (hl : ∀ z, z < sn → (sc z).lt m) : ∀ z, z < sn → (c z).lt m := by
  intro z hz
  rcases (by omega : (z < o ∨ o + 266 ≤ z) ∨ (o ≤ z ∧ z < o + 266)) with h1 | ⟨h1, h2⟩
  · rw [ho z h1]; exact hl z hz
  · exact (h.flat h1 h2).below m

theorem w64 {n : Int} (h : -9223372036854775808 ≤ n ∧ n < 9223372036854775808) : IntKind.i64.wrap n = n := by rw [IntKind.wrap_i64]; omega
theorem w8 {n : Int} (h : -128 ≤ n ∧ n < 128) : IntKind.i8.wrap n = n := by simp [IntKind.wrap, IntKind.bits, IntKind.signed]; omega
def zeroC (j : Nat) : SV := if j < 2 then .int .i8 0 else if j < 258 then .int .i16 0 else .int .u8 0
theorem lt_aggF {k m : Nat} {F : Nat → SV} (h : ∀ j, j < k → (F j).flat) : (SV.agg k F).lt m := fun j hj => (h j hj).below m
@[go_sem] theorem mkAgg_266 (F : Nat → SV) : mkAgg 266 F = .agg 266 F := rfl
theorem SV.flat.one {v : SV} (h : v.flat) : v.one := by cases v <;> first | trivial | exact h.elim
theorem ShF.flat {F : Nat → SV} {S : Sh} (h : ShF F S) {z : Nat} (hz : z < 266) : (F z).flat := by
  have := ShAt.flat (s := ⟨266, F, true, none⟩) (o := 0) (S := S) ⟨by simp, by simpa using h⟩ (Nat.zero_le z) (by simpa using hz)
  exact this
theorem ShF.ones {F : Nat → SV} {S : Sh} (h : ShF F S) : V.ones (.agg 266 F) = True := eq_true fun j hj => (h.flat hj).one

abbrev spot (x y : Int) : SV := .agg 2 (cl [.int .i8 x, .int .i8 y])

/-- Has a sheet a cell? -/
def hasB (S : Sh) (x y : Int) : Bool := ((decide (0 ≤ x) && decide (x < S.wide)) && decide (0 ≤ y)) && decide (y < S.high)
def waxB (S : Sh) (x y : Int) : Bool := decide (bitsI .and .u8 (shrI .u8 (S.wax y) x) 1 = 1)

section
variable (cx : Cx) (h : List (Nat × Seg)) (n : Nat)

theorem has_Q (i o : Nat) (s : Seg) (S : Sh) (x y : Int) (hs : hget h i = some s) (hi : i < n) (hS : ShAt s o S) :
    CallQ Tryz.prog cx 74 [.ptr i o, spot x y] h n (.bool (hasB S x y)) := by
  have hne : (n == i) = false := by simp; omega
  have hlen := hS.1
  refine callQ_of_T (P := Tryz.prog) hti (nt := 31) (rs := [.tmp 4]) rfl rfl Tryz.call74 Tryz.func74 rfl _ (by simp only [go_sem, and_self]) (Nat.le_of_ble_eq_true rfl) _ (by first | exact trivial | (refine lt_flat rfl ?_; simp [SV.flat]; done) | simp only [go_sem]) fun hok => ?_
  simp only [go_sem, Nat.reduceBEq, Nat.reduceLT]
  refine T_draw hti _ _ (by kernel_rfl) (by kernel_rfl) ?_
  simp only [go_sem, Nat.reduceBEq, Nat.reduceLT, Nat.reduceLeDiff, reduceCtorEq, hne, hs, hS.wide, hS.high, HExt_cons, SV.bool.injEq, decide_eq_true_eq, decide_eq_false_iff_not, hasB]
  refine ⟨fun h1 => ⟨by omega, fun h2 => ⟨fun h3 => ⟨by omega, ?_⟩, fun h3 => ?_⟩, fun h2 => ?_⟩, fun h1 => ?_⟩ <;> simp [*]
theorem waxed_Q (i o : Nat) (s : Seg) (S : Sh) (x y : Int) (hs : hget h i = some s) (hi : i < n) (hS : ShAt s o S) (hx : 0 ≤ x) (hy : 0 ≤ y) (hy8 : y < 8) :
    CallQ Tryz.prog cx 88 [.ptr i o, spot x y] h n (.bool (waxB S x y)) := by
  have hne : (n == i) = false := by simp; omega
  have hlen := hS.1
  refine callQ_of_T (P := Tryz.prog) hti (nt := 17) (rs := [.tmp 4]) rfl rfl Tryz.call88 Tryz.func88 rfl _ (by simp only [go_sem, and_self]) (Nat.le_of_ble_eq_true rfl) _ (by first | exact trivial | (refine lt_flat rfl ?_; simp [SV.flat]; done) | simp only [go_sem]) fun hok => ?_
  simp only [go_sem, Nat.reduceBEq, Nat.reduceLT]
  refine T_draw hti _ _ (by kernel_rfl) (by kernel_rfl) ?_
  simp only [go_sem, Nat.reduceBEq, Nat.reduceLT, Nat.reduceLeDiff, reduceCtorEq, hne, hs, hS.wax hy hy8, HExt_cons, SV.bool.injEq, waxB, hx, hy, hy8]
  omega
/-- The cells of a sheet, row by row. -/
def cellC (W : Nat) : Nat → SV := fun k => if k % 2 = 0 then .int .i8 ((k / 2 % W : Nat) : Int) else .int .i8 ((k / 2 / W : Nat) : Int)
theorem cellC_flat (W k : Nat) : (cellC W k).flat := by unfold cellC; split <;> trivial

theorem cells_E (i o : Nat) (s : Seg) (S : Sh) (W H : Nat) (hs : hget h i = some s) (hi : i < n) (hS : ShAt s o S) (hW : S.wide = W) (hH : S.high = H) (hW8 : W ≤ 8) (hH8 : H ≤ 8) (K : HK)
    (hK : ∀ cap, H * W ≤ cap → cap ≤ maxLen → K (.sl n 0 (H * W) cap) ((n, ⟨H * W * 2, cellC W, true, some (46, cap * 2)⟩) :: h) (n + 1)) :
    CallE Tryz.prog cx 63 [.ptr i o] h n K := by
  have hne : (n == i) = false := by simp; omega
  have hlen := hS.1
  refine callE_of_T (P := Tryz.prog) hti (nt := 30) (rs := [.tmp 2]) rfl rfl Tryz.call63 Tryz.func63 rfl _ (by simp only [go_sem, and_self]) (Nat.le_of_ble_eq_true rfl) _ fun hok => ?_
  simp only [go_sem, Nat.reduceBEq, Nat.reduceLT, Nat.reduceMul, reduceCtorEq, hne, hs, hS.high]
  refine ⟨by omega, ?_⟩
  refine T_lp (ι := { p : Nat × Nat // p.1 ≤ H ∧ p.1 * W ≤ p.2 ∧ p.2 ≤ maxLen })
    (fun p => ([(0, .ptr i o), (3, .sl n 0 (p.1.1 * W) p.1.2), (10, .int .i8 H), (11, .int .i8 p.1.1)], (n, ⟨p.1.1 * W * 2, cellC W, true, some (46, p.1.2 * 2)⟩) :: h, n + 1)) (fun p => H - p.1.1) ⟨(0, 0), by simp⟩ ?_ ?_
  · refine Imp.id (by simp) ?_ ?_
    · simp only [go_sem, Nat.reduceBEq, hH]
      exact ⟨by omega, by simp, by omega⟩
    · refine impH.cons (Nat.lt_succ_self n) (hget_hit _ _ _) (SegLe.flat (by simp) id (.inr (by simp)) fun k hk => by simp at hk) (impH.base hok (by simp) (fun _ _ => rfl) ?_)
      simp only [go_sem, HExt_cons]
  · rintro ⟨⟨y, cap⟩, hy, hcap, hm⟩
    simp only at hy hcap hm
    simp only [go_sem, Nat.reduceBEq, Nat.reduceLT, reduceCtorEq, hne, hs, hS.wide, hW, decide_eq_true_eq, decide_eq_false_iff_not]
    refine ⟨fun h1 => ⟨by omega, ?_⟩, fun h1 => ?_⟩
    · refine T_lp (ι := { p : Nat × Nat // p.1 ≤ W ∧ y * W + p.1 ≤ p.2 ∧ p.2 ≤ maxLen })
        (fun p => ([(0, .ptr i o), (3, .sl n 0 (y * W + p.1.1) p.1.2), (10, .int .i8 H), (11, .int .i8 y), (4, .int .i8 y), (17, .int .i8 W), (18, .int .i8 p.1.1)], (n, ⟨(y * W + p.1.1) * 2, cellC W, true, some (46, p.1.2 * 2)⟩) :: h, n + 1)) (fun p => W - p.1.1) ⟨(0, cap), by simp; omega⟩ ?_ ?_
      · refine Imp.id (by simp) ?_ ?_
        · simp only [go_sem, Nat.reduceBEq]
          omega
        · refine impH.cons (Nat.lt_succ_self n) (hget_hit _ _ _) (SegLe.flat (by simp) id (.inr rfl) fun k hk => ⟨rfl, cellC_flat W k⟩) (impH.base hok (by simp) (fun _ _ => rfl) ?_)
          simp only [go_sem, HExt_cons]
      · rintro ⟨⟨x, cap⟩, hx, hcap, hm⟩
        simp only at hx hcap hm
        simp only [go_sem, Nat.reduceBEq, Nat.reduceLT, Nat.reduceLeDiff, Nat.reduceMul, Nat.reduceSub, Nat.reduceMod, reduceIte, hne, hs, ↓hok.del (Nat.le_refl n), decide_eq_true_eq, decide_eq_false_iff_not]
        have hyW : y * W ≤ 7 * 8 := Nat.mul_le_mul (by omega) hW8
        refine ⟨fun h2 => ⟨⟨by omega, by omega, by omega⟩, fun cap' h3 h4 => ⟨⟨(x + 1, cap'), by omega, h3, h4⟩, (by show W - (x + 1) < W - x; omega), ?_⟩⟩, fun h2 => ?_⟩
        · refine Imp.of1 n (n + 2) (by simp) (by omega) (by simp) ?_ ?_
          · simp only [go_sem, Nat.reduceBEq, hne, w8 (n := (x : Int) + 1) (by omega), Int.natCast_add, Int.natCast_one, Nat.add_assoc]
            omega
          · refine impH.cons1 (hget_hit _ _ _) (Nat.lt_succ_self n) (SegLe.flat (Nat.le_refl _) id (.inr rfl) fun k hk => ⟨?_, cellC_flat W k⟩) (impH.base1 hok (by simp) (Nat.le_refl n) ?_)
            · have hk : k < (y * W + (x + 1)) * 2 := hk
              show both ((y * W + x) * 2) (cellC W) _ k = _
              unfold both news
              split
              · rfl
              · rename_i hk2
                have h5 : (y * W + x) % W = x := by rw [Nat.mul_comm, Nat.mul_add_mod, Nat.mod_eq_of_lt (by omega)]
                have h6 : (y * W + x) / W = y := by rw [Nat.mul_comm, Nat.mul_add_div (by omega), Nat.div_eq_of_lt (by omega), Nat.add_zero]
                rcases (by omega : k = (y * W + x) * 2 ∨ k = (y * W + x) * 2 + 1) with rfl | rfl
                · simp [cellC, h5, cl]
                · have : ((y * W + x) * 2 + 1) / 2 = y * W + x := by omega
                  simp [cellC, this, h6, cl]
            · simp only [go_sem, HExt_cons]
        · refine ⟨⟨(y + 1, cap), by omega, by rw [Nat.succ_mul]; omega, hm⟩, (by show H - (y + 1) < H - y; omega), ?_⟩
          have hx2 : x = W := by omega
          subst hx2
          refine Imp.id (by simp) ?_ ?_
          · simp only [go_sem, Nat.reduceBEq, hne, w8 (n := (y : Int) + 1) (by omega), Int.natCast_add, Int.natCast_one, Nat.succ_mul]
            omega
          · exact impH.cons0 (hget_hit _ _ _) (Nat.lt_succ_self n) (SegLe.flat (by show (y + 1) * x * 2 ≤ _; rw [Nat.succ_mul]; exact Nat.le_refl _) id (.inr rfl) fun k hk => ⟨rfl, cellC_flat x k⟩) (impH.base0 hok (by simp) (by simp only [go_sem, HExt_cons]))
    · have hy2 : y = H := by omega
      subst hy2
      exact hK cap hcap hm
end
end Go.Proofs.YtcjgpkhdlobbbaaGreat.V

/- Neighbours of a cell: what the program's code shows of them. -/
namespace Go.Proofs.YtcjgpkhdlobbbaaGreat.V

/-- Cells of a list of spots. -/
def spotsC (L : List (Int × Int)) : Nat → SV := fun k => if k % 2 = 0 then .int .i8 (L.getD (k / 2) (0, 0)).1 else .int .i8 (L.getD (k / 2) (0, 0)).2
theorem spotsC_flat (L : List (Int × Int)) (k : Nat) : (spotsC L k).flat := by unfold spotsC; split <;> trivial
theorem spotsC_x (L : List (Int × Int)) (j : Nat) : spotsC L (j * 2) = .int .i8 (L.getD j (0, 0)).1 := by
  unfold spotsC; rw [if_pos (by omega), show j * 2 / 2 = j by omega]
theorem spotsC_y (L : List (Int × Int)) (j : Nat) : spotsC L (j * 2 + 1) = .int .i8 (L.getD j (0, 0)).2 := by
  unfold spotsC; rw [if_neg (by omega), show (j * 2 + 1) / 2 = j by omega]

/-- The spots on the four sides. -/
def besideL (x y : Int) : List (Int × Int) := [(x, IntKind.i8.wrap (y - 1)), (IntKind.i8.wrap (x + 1), y), (x, IntKind.i8.wrap (y + 1)), (IntKind.i8.wrap (x - 1), y)]

section
variable (cx : Cx) (h : List (Nat × Seg)) (n : Nat)

theorem beside_E (x y : Int) (K : HK) (hK : K (.sl n 0 4 4) ((n, ⟨8, spotsC (besideL x y), true, some (46, 8)⟩) :: h) (n + 1)) :
    CallE Tryz.prog cx 86 [spot x y] h n K := by
  refine CallE.imp1 (K := fun r h' n' => r = .sl (n + 1) 0 4 4 ∧ n' = n + 2 ∧ HExt n h h' ∧ ∃ s, hget h' (n + 1) = some s ∧ s.n = 8 ∧ s.rw = true ∧ s.own = some (46, 8) ∧ ∀ k, k < 8 → s.c k = spotsC (besideL x y) k) ?_ ?_
  · refine callE_of_T (P := Tryz.prog) hti (nt := 28) (rs := [.tmp 2]) rfl rfl Tryz.call86 Tryz.func86 rfl _ (by simp only [go_sem, and_self]) (Nat.le_of_ble_eq_true rfl) _ fun hok => ?_
    simp only [go_sem, Nat.reduceBEq, Nat.reduceLT, Nat.reduceLeDiff, Nat.reduceMul, reduceCtorEq, HExt_cons, Option.some.injEq, exists_eq_left']
    intro k hk
    rcases (by omega : k = 0 ∨ k = 1 ∨ k = 2 ∨ k = 3 ∨ k = 4 ∨ k = 5 ∨ k = 6 ∨ k = 7) with rfl | rfl | rfl | rfl | rfl | rfl | rfl | rfl <;> rfl
  · rintro hok r h' n' ⟨rfl, rfl, hx, s, hs, h1, h2, h3, h4⟩
    exact ⟨n + 1, .sl n 0 4 4, _, n + 1, by simp, Nat.le_refl _, by simp only [ren_sl, sig_hit], Nat.lt_succ_self n,
      impH.cons1 hs (Nat.lt_succ_self n) (SegLe.flat (by simp [h1]) (fun _ => h2) (.inr h3.symm) fun k hk => ⟨h4 k hk, spotsC_flat _ _⟩) (impH.base1 hok (by simp) (Nat.le_refl n) hx), hK⟩

theorem indexFunc_Q (i m cap : Nat) (L : List (Int × Int)) (s : Seg) (f a b : Nat) (G F : Nat → SV) (p : Int → Int → Bool) (r : Int)
    (hs : hget h i = some s) (hi : i < n) (hm : L.length = m) (hm9 : m ≤ 1000000000) (hn : m * 2 ≤ s.n) (hc : ∀ k, k < m * 2 → s.c k = spotsC L k) (hF : (SV.fn f a G b F).lt n)
    (hr0 : r = -1 → ∀ j, j < m → p (L.getD j (0, 0)).1 (L.getD j (0, 0)).2 = false) (hr1 : r ≠ -1 → 0 ≤ r ∧ r < m ∧ p (L.getD r.toNat (0, 0)).1 (L.getD r.toNat (0, 0)).2 = true ∧ ∀ j : Nat, (j : Int) < r → p (L.getD j (0, 0)).1 (L.getD j (0, 0)).2 = false)
    (hp : ∀ j, j < m → ∀ nt n0, CallQ Tryz.prog ⟨cx.w0, cx.W, nt, n0⟩ f (lst a G ++ [spot (L.getD j (0, 0)).1 (L.getD j (0, 0)).2] ++ lst b F) h n (.bool (p (L.getD j (0, 0)).1 (L.getD j (0, 0)).2))) :
    CallQ Tryz.prog cx 93 [.sl i 0 m cap, .fn f a G b F] h n (.int .i64 r) := by
  refine callQ_of_T (P := Tryz.prog) hti (nt := 19) (rs := [.tmp 4]) rfl rfl Tryz.call93 Tryz.func93 rfl _ (by simp only [go_sem, and_self]) (Nat.le_of_ble_eq_true rfl) _ (by first | exact trivial | (refine lt_flat rfl ?_; simp [SV.flat]; done) | simp only [go_sem]) fun hok => ?_
  simp only [go_sem, Nat.reduceBEq, Nat.reduceLT, Int.reduceNeg]
  refine T_lp (ι := { j : Nat // j ≤ m ∧ ∀ k, k < j → p (L.getD k (0, 0)).1 (L.getD k (0, 0)).2 = false })
    (fun j => ([(0, .sl i 0 m cap), (1, .fn f a G b F), (7, .int .i64 m), (8, .int .i64 j.1)], h, n)) (fun j => m - j.1) ⟨0, by simp⟩ ?_ ?_
  · refine Imp.id (by simp) ?_ ?_
    · simp only [go_sem, Nat.reduceBEq]
      exact ⟨hi, hF⟩
    · exact impH.base0 hok (by simp) (by simp only [go_sem])
  · rintro ⟨j, hj, hall⟩
    simp only [go_sem, Nat.reduceBEq, Nat.reduceLT, Int.reduceNeg, hs, decide_eq_true_eq, decide_eq_false_iff_not]
    refine ⟨fun h1 => ⟨⟨by omega, h1⟩, by omega, ?_⟩, fun h1 => ?_⟩
    · simp only [hc (j * 2) (by omega), hc (j * 2 + 1) (by omega), spotsC_x, spotsC_y]
      refine (hp j (by omega) _ _).A ?_
      simp only [go_sem, Nat.reduceBEq, Nat.reduceLT, Int.reduceNeg]
      refine ⟨fun h2 => ?_, fun h2 => ⟨⟨j + 1, by omega, fun k hk => ?_⟩, by show m - (j + 1) < m - j; omega, ?_⟩⟩
      · rcases (by omega : r = -1 ∨ r ≠ -1) with hr | hr
        · have := hr0 hr j (by omega)
          rw [this] at h2; cases h2
        · obtain ⟨r0, r1, r2, r3⟩ := hr1 hr
          rcases (by omega : (j : Int) < r ∨ r < j ∨ r = j) with h | h | h
          · rw [r3 j h] at h2; cases h2
          · have := hall r.toNat (by omega)
            rw [r2] at this; cases this
          · rw [h]
      · rcases (by omega : k < j ∨ k = j) with h | rfl
        · exact hall k h
        · exact h2
      · refine Imp.id (by simp) ?_ (impH.base0 hok (by simp) (by simp only [go_sem]))
        simp only [go_sem, Nat.reduceBEq, w64 (n := (j : Int) + 1) (by omega), Int.natCast_add, Int.natCast_one]
        exact ⟨hi, hF⟩
    · rcases (by omega : r = -1 ∨ r ≠ -1) with hr | hr
      · rw [hr]
      · obtain ⟨r0, r1, r2, r3⟩ := hr1 hr
        have := hall r.toNat (by omega)
        rw [r2] at this; cases this

theorem spotsC_take {a b : List (Int × Int)} {k : Nat} (h : k < a.length * 2) : spotsC (a ++ b) k = spotsC a k := by
  unfold spotsC
  have : (a ++ b).getD (k / 2) (0, 0) = a.getD (k / 2) (0, 0) := by
    rw [List.getD_eq_getElem?_getD, List.getD_eq_getElem?_getD, List.getElem?_append_left (by omega)]
  rw [this]
theorem take_filter (P : Int × Int → Bool) (L : List (Int × Int)) (j : Nat) (hj : j < L.length) : (L.take (j + 1)).filter P = (L.take j).filter P ++ (if P (L.getD j (0, 0)) then [L.getD j (0, 0)] else []) := by
  rw [List.take_succ, List.getElem?_eq_getElem hj, List.filter_append]
  congr 1
  simp [List.getD_eq_getElem?_getD, hj, List.filter_cons]
theorem filter_len (P : Int × Int → Bool) (L : List (Int × Int)) (j : Nat) : ((L.take j).filter P).length ≤ j := Nat.le_trans (List.length_filter_le _ _) (by simp; omega)
theorem filter_all {P : Int × Int → Bool} {L : List (Int × Int)} (j : Nat) (hj : j ≤ L.length) (hall : ∀ k, k < j → P (L.getD k (0, 0)) = true) : (L.take j).filter P = L.take j := by
  rw [List.filter_eq_self]
  intro a ha
  obtain ⟨k, hk, rfl⟩ := List.mem_iff_getElem.1 ha
  simp only [List.length_take] at hk
  have := hall k (by omega)
  rw [List.getD_eq_getElem?_getD, List.getElem?_eq_getElem (by omega)] at this
  simpa using this
theorem spotsC_take2 (L : List (Int × Int)) (j k : Nat) (h : k < j * 2) : spotsC (L.take j) k = spotsC L k := by
  unfold spotsC
  have : (L.take j).getD (k / 2) (0, 0) = L.getD (k / 2) (0, 0) := by
    rw [List.getD_eq_getElem?_getD, List.getD_eq_getElem?_getD, List.getElem?_take_of_lt (by omega)]
  rw [this]

theorem spotsC_last (A : List (Int × Int)) (x : Int × Int) : spotsC (A ++ [x]) (A.length * 2) = .int .i8 x.1 ∧ spotsC (A ++ [x]) (A.length * 2 + 1) = .int .i8 x.2 := by
  rw [spotsC_x, spotsC_y]
  simp [List.getD_eq_getElem?_getD]
/-- One spot written behind k others. -/
def putS (k : Nat) (x : Int × Int) (c : Nat → SV) : Nat → SV := fun z => if k * 2 ≤ z ∧ z < k * 2 + 2 then cl [.int .i8 x.1, .int .i8 x.2] (z - k * 2) else c z
theorem putS_0 (k : Nat) (x : Int × Int) (c : Nat → SV) : putS k x c (k * 2) = .int .i8 x.1 := by unfold putS; rw [if_pos (by omega), Nat.sub_self]; rfl
theorem putS_1 (k : Nat) (x : Int × Int) (c : Nat → SV) : putS k x c (k * 2 + 1) = .int .i8 x.2 := by unfold putS; rw [if_pos (by omega), show k * 2 + 1 - k * 2 = 1 by omega]; rfl
theorem putS_o (k : Nat) (x : Int × Int) (c : Nat → SV) (z : Nat) (h : z < k * 2 ∨ k * 2 + 2 ≤ z) : putS k x c z = c z := by unfold putS; rw [if_neg (by omega)]
theorem putS_flat (k : Nat) (x : Int × Int) {c : Nat → SV} {z : Nat} (h : (c z).flat) : (putS k x c z).flat := by
  rcases (by omega : z = k * 2 ∨ z = k * 2 + 1 ∨ (z < k * 2 ∨ k * 2 + 2 ≤ z)) with rfl | rfl | h'
  · rw [putS_0]; trivial
  · rw [putS_1]; trivial
  · rw [putS_o _ _ _ _ h']; exact h

theorem deleteFunc_E (i m cap : Nat) (L : List (Int × Int)) (s : Seg) (f a b : Nat) (G F : Nat → SV) (p : Int → Int → Bool) (r : Int)
    (hs : hget h i = some s) (hi : i < n) (hm : L.length = m) (hm9 : m ≤ 1000000000) (hcap : m ≤ cap) (hn : s.n = m * 2) (hrw : s.rw = true) (hc : ∀ k, k < m * 2 → s.c k = spotsC L k) (hF : (SV.fn f a G b F).lt n)
    (hr0 : r = -1 → ∀ j, j < m → p (L.getD j (0, 0)).1 (L.getD j (0, 0)).2 = false) (hr1 : r ≠ -1 → 0 ≤ r ∧ r < m ∧ p (L.getD r.toNat (0, 0)).1 (L.getD r.toNat (0, 0)).2 = true ∧ ∀ j : Nat, (j : Int) < r → p (L.getD j (0, 0)).1 (L.getD j (0, 0)).2 = false)
    (hp : ∀ j, j < m → ∀ nt n0 h' n', n ≤ n' → HBut i n h h' → CallQ Tryz.prog ⟨cx.w0, cx.W, nt, n0⟩ f (lst a G ++ [spot (L.getD j (0, 0)).1 (L.getD j (0, 0)).2] ++ lst b F) h' n' (.bool (p (L.getD j (0, 0)).1 (L.getD j (0, 0)).2)))
    (K : HK) (hK : ∀ own, K (.sl i 0 (L.filter fun a => !p a.1 a.2).length cap) (hset h i ⟨(L.filter fun a => !p a.1 a.2).length * 2, spotsC (L.filter fun a => !p a.1 a.2), true, own⟩) n) :
    CallE Tryz.prog cx 85 [.sl i 0 m cap, .fn f a G b F] h n K := by
  generalize hP : (fun a : Int × Int => !p a.1 a.2) = P at *
  have hPj : ∀ j, P (L.getD j (0, 0)) = !p (L.getD j (0, 0)).1 (L.getD j (0, 0)).2 := fun j => by rw [← hP]
  obtain ⟨sn, sc, sr, so⟩ := s
  simp only at hn hrw hc
  subst hn hrw
  have hgi : ∀ t, hget (hset h i t) i = some t := fun t => by rw [hget_hset, if_pos rfl, hs]; rfl
  have hbut : ∀ t, HBut i n h (hset h i t) := fun t j hj hji u hu => by rw [hget_hset, if_neg (Ne.symm hji)]; exact hu
  refine CallE.imp0 (K := fun r h' n' => n ≤ n' ∧ r = .sl i 0 (L.filter P).length cap ∧ HBut i n h h' ∧ ∃ t, hget h' i = some t ∧ (L.filter P).length * 2 ≤ t.n ∧ t.rw = true ∧ t.own = so ∧ ∀ k, k < (L.filter P).length * 2 → t.c k = spotsC (L.filter P) k) ?_ ?_
  · refine callE_of_T (P := Tryz.prog) hti (nt := 42) (rs := [.tmp 4]) rfl rfl Tryz.call85 Tryz.func85 rfl _ (by simp only [go_sem, and_self]) (Nat.le_of_ble_eq_true rfl) _ fun hok => ?_
    simp only [go_sem, Nat.reduceBEq, Nat.reduceLT, Int.reduceNeg]
    refine (indexFunc_Q ⟨cx.w0, cx.W, 42, n⟩ h n i m cap L _ f a b G F p r hs hi hm hm9 (Nat.le_refl _) hc hF hr0 hr1 (fun j hj nt n0 => hp j hj nt n0 h n (Nat.le_refl _) (fun _ _ _ _ h => h))).A ?_
    simp only [go_sem, Nat.reduceBEq, Nat.reduceLT, Int.reduceNeg, decide_eq_true_eq, decide_eq_false_iff_not]
    refine ⟨fun h1 => ?_, fun h1 => ?_⟩
    · have hall : L.filter P = L := by
        have := filter_all (P := P) L.length (Nat.le_refl _) fun k hk => by rw [hPj, hr0 h1 k (by omega)]; rfl
        rwa [List.take_length] at this
      rw [hall, hm]
      exact ⟨rfl, fun _ _ _ _ h => h, _, hs, Nat.le_refl _, rfl, rfl, hc⟩
    · obtain ⟨r0, r1, r2, r3⟩ := hr1 h1
      refine T_lp (ι := { q : Nat × (Nat → SV) // q.1 ≤ m ∧ (∀ z, z < ((L.take q.1).filter P).length * 2 → q.2 z = spotsC ((L.take q.1).filter P) z) ∧ (∀ z, q.1 * 2 ≤ z → z < m * 2 → q.2 z = spotsC L z) ∧ ∀ z, z < m * 2 → (q.2 z).flat })
        (fun q => ([(0, .sl i 0 m cap), (1, .fn f a G b F), (5, .int .i64 ((L.take q.1.1).filter P).length), (6, .int .i64 q.1.1)], hset h i ⟨m * 2, q.1.2, true, so⟩, n)) (fun q => m - q.1.1)
        ⟨(r.toNat + 1, sc), by
          have hf : ((L.take (r.toNat + 1)).filter P) = L.take r.toNat := by
            rw [take_filter P L r.toNat (by omega), filter_all r.toNat (by omega) (fun k hk => by rw [hPj, r3 k (by omega)]; rfl), hPj, r2]
            simp
          refine ⟨by omega, fun z hz => ?_, fun z _ hz => hc z hz, fun z hz => by show (sc z).flat; rw [hc z hz]; exact spotsC_flat _ _⟩
          simp only [hf, List.length_take] at hz ⊢
          rw [hc z (by omega), spotsC_take2 L r.toNat z (by omega)]⟩ ?_ ?_
      · have hf : ((L.take (r.toNat + 1)).filter P) = L.take r.toNat := by
          rw [take_filter P L r.toNat (by omega), filter_all r.toNat (by omega) (fun k hk => by rw [hPj, r3 k (by omega)]; rfl), hPj, r2]
          simp
        refine Imp.id (by simp) ?_ ?_
        · simp only [go_sem, Nat.reduceBEq, Int.reduceNeg, w64 (n := r + 1) (by omega), hf, List.length_take]
          refine ⟨hi, hF, ?_, ?_⟩
          · congr 1; omega
          · congr 1; omega
        · show impH h (sig []) n (hset h i ⟨m * 2, sc, true, so⟩)
          rw [hset_self hs]
          exact impH.base0 hok (by simp) (by simp only [go_sem])
      · rintro ⟨⟨j, c'⟩, hj, hk, hrest, hflat⟩
        simp only at hj hk hrest hflat
        have hlen := filter_len P L j
        have hne : (n == i) = false := by simp; omega
        simp only [go_sem, Nat.reduceBEq, Nat.reduceLT, Nat.reduceMul, Int.reduceToNat, reduceIte, Int.reduceLE, hgi, hne, decide_eq_true_eq, decide_eq_false_iff_not]
        refine ⟨fun h2 => ⟨⟨by omega, h2⟩, by omega, ?_⟩, fun h2 => ?_⟩
        · simp only [hrest (j * 2) (Nat.le_refl _) (by omega), hrest (j * 2 + 1) (by omega) (by omega), spotsC_x, spotsC_y]
          refine ⟨⟨trivial, trivial⟩, (hp j (by omega) _ _ _ _ (by simp) ((hbut _).cons (Nat.le_refl n))).A ?_⟩
          simp only [go_sem, Nat.reduceBEq, Nat.reduceLT, hgi, hne, hset_hset]
          refine ⟨fun h3 => ⟨⟨by omega, by omega⟩, ⟨by omega, ?_⟩⟩, fun h3 => ?_⟩
          · have hf : (L.take (j + 1)).filter P = (L.take j).filter P ++ [L.getD j (0, 0)] := by
              rw [take_filter P L j (by omega), hPj, h3]; rfl
            refine ⟨⟨(j + 1, putS ((L.take j).filter P).length (L.getD j (0, 0)) c'), by omega, fun z hz => ?_, fun z hz hz2 => ?_, fun z hz => putS_flat _ _ (hflat z hz)⟩, by show m - (j + 1) < m - j; omega, ?_⟩
            · simp only [hf] at hz ⊢
              rw [List.length_append, List.length_singleton] at hz
              rcases (by omega : z < ((L.take j).filter P).length * 2 ∨ z = ((L.take j).filter P).length * 2 ∨ z = ((L.take j).filter P).length * 2 + 1) with h | h | h
              · rw [putS_o _ _ _ _ (.inl h), hk z h, spotsC_take (b := [L.getD j (0, 0)]) h]
              · rw [h, putS_0, (spotsC_last _ _).1]
              · rw [h, putS_1, (spotsC_last _ _).2]
            · have hz : (j + 1) * 2 ≤ z := hz
              show putS _ _ _ _ = _
              rw [putS_o _ _ _ _ (.inr (by omega))]
              exact hrest z (by omega) hz2
            · refine Imp.id (by simp) ?_ ?_
              · simp only [go_sem, Nat.reduceBEq, w64 (n := (j : Int) + 1) (by omega), w64 (n := (((L.take j).filter P).length : Int) + 1) (by omega), Int.natCast_add, Int.natCast_one, hf, List.length_append, List.length_singleton]
                exact ⟨hi, hF⟩
              · refine impH.set0 hok (Nat.le_refl n) hs ((hbut _).cons (Nat.le_refl n)) ((hget_miss _ _ _ _ hne).trans (hgi _)) (SegLe.flat (Nat.le_refl _) id (.inr rfl) fun z hz => ⟨?_, putS_flat _ _ (hflat z hz)⟩)
                have hz : z < m * 2 := hz
                simp only [putS]
                split
                · rw [if_pos (by omega)]; congr 1; omega
                · rfl
          · have hf : (L.take (j + 1)).filter P = (L.take j).filter P := by
              rw [take_filter P L j (by omega), hPj, h3]; simp
            refine ⟨⟨(j + 1, c'), by omega, by simp only [hf]; exact hk, fun z hz hz2 => hrest z (by have hz : (j + 1) * 2 ≤ z := hz; omega) hz2, hflat⟩, by show m - (j + 1) < m - j; omega, ?_⟩
            refine Imp.id (by simp) ?_ ?_
            · simp only [go_sem, Nat.reduceBEq, w64 (n := (j : Int) + 1) (by omega), Int.natCast_add, Int.natCast_one, hf]
              exact ⟨hi, hF⟩
            · refine impH.base0 (h0 := hset h i ⟨m * 2, c', true, so⟩) (hok.hset fun z hz => ?_) (Nat.le_refl n) (by simp only [go_sem, HExt_cons])
              exact (hflat z hz).below n
        · have hjm : j = m := by omega
          subst hjm
          have hft : (L.take j).filter P = L.filter P := by rw [← hm, List.take_length]
          simp only [hft] at *
          have hll : (L.filter P).length ≤ j := by omega
          refine ⟨⟨by omega, by omega, by omega⟩, ?_, ⟨by omega, by omega⟩, ?_, ?_, ?_⟩
          · split <;> omega
          · simp
          · rw [hset_hset]; exact hbut _
          · rw [hset_hset, hgi]
            refine ⟨_, rfl, by show _ ≤ j * 2; omega, rfl, rfl, fun z hz => ?_⟩
            show clrC _ _ _ _ _ = _
            unfold clrC
            rw [if_neg]
            · exact hk z hz
            · split <;> omega
  · rintro hok r h' n' ⟨h0, rfl, hx, t, ht, h1, h2, h3, h4⟩
    exact ⟨.sl i 0 (L.filter P).length cap, _, n, Nat.le_refl _, by simp only [ren_nil], hi, impH.set0 hok (Nat.le_refl n) hs hx ht (SegLe.flat h1 (fun _ => h2) (.inl rfl) fun k hk => ⟨h4 k hk, spotsC_flat _ _⟩), hK none⟩
end
end Go.Proofs.YtcjgpkhdlobbbaaGreat.V

/- Neighbours, giving, running, drying: what the program's code does to a sheet. -/
namespace Go.Proofs.YtcjgpkhdlobbbaaGreat.V

/-- Sides of a sheet that has no more than 8 by 8 cells. -/
def Small (S : Sh) : Prop := 1 ≤ S.wide ∧ S.wide ≤ 8 ∧ 1 ≤ S.high ∧ S.high ≤ 8
theorem hasB_in {S : Sh} {x y : Int} (hS : Small S) (h : hasB S x y = true) : 0 ≤ x ∧ x < 8 ∧ 0 ≤ y ∧ y < 8 := by
  simp only [hasB, Bool.and_eq_true, decide_eq_true_eq] at h
  have := hS.2.1; have := hS.2.2.2
  omega

/-- The neighbours of a cell. -/
def nbB (S : Sh) (x y : Int) : Bool := !hasB S x y || waxB S x y
def nb (S : Sh) (x y : Int) : List (Int × Int) := (besideL x y).filter fun a => !nbB S a.1 a.2
/-- The number of the first of which something is so. -/
def fst4 (p : Int → Int → Bool) (L : List (Int × Int)) : Int :=
  match (List.range L.length).find? fun j => p (L.getD j (0, 0)).1 (L.getD j (0, 0)).2 with
  | some j => j
  | none => -1
theorem fst4_none {p : Int → Int → Bool} {L : List (Int × Int)} (h : fst4 p L = -1) : ∀ j, j < L.length → p (L.getD j (0, 0)).1 (L.getD j (0, 0)).2 = false := by
  unfold fst4 at h
  split at h
  · omega
  · rename_i hf
    intro j hj
    have := List.find?_eq_none.1 hf j (List.mem_range.2 hj)
    simpa using this
theorem fst4_some {p : Int → Int → Bool} {L : List (Int × Int)} (h : fst4 p L ≠ -1) : 0 ≤ fst4 p L ∧ fst4 p L < L.length ∧ p (L.getD (fst4 p L).toNat (0, 0)).1 (L.getD (fst4 p L).toNat (0, 0)).2 = true ∧
    ∀ j : Nat, (j : Int) < fst4 p L → p (L.getD j (0, 0)).1 (L.getD j (0, 0)).2 = false := by
  unfold fst4 at h ⊢
  split at h
  · rename_i j hf
    obtain ⟨h1, a, b, h2, h3⟩ := List.find?_eq_some_iff_append.1 hf
    have hlen : j < L.length := by
      have : j ∈ List.range L.length := by rw [h2]; simp
      exact List.mem_range.1 this
    refine ⟨by simp, by simpa using hlen, by simpa using h1, fun i hi => ?_⟩
    have hi' : i < j := by simpa using hi
    have hja : j = a.length := by
      have h4 : (List.range L.length)[a.length]? = some j := by rw [h2]; simp
      rw [List.getElem?_eq_some_iff] at h4
      obtain ⟨_, h4⟩ := h4
      simpa using h4.symm
    have hia : i ∈ a := by
      have h4 : (List.range L.length)[i]? = a[i]? := by rw [h2, List.getElem?_append_left (by omega)]
      rw [List.getElem?_eq_getElem (by simp; omega), List.getElem?_eq_getElem (by omega)] at h4
      simp at h4
      rw [h4]; exact List.getElem_mem _
    have := h3 i hia
    simpa using this
  · exact absurd rfl h

section
variable (cx : Cx) (h : List (Nat × Seg)) (n : Nat)

theorem nb1_Q (i o iv : Nat) (s sv : Seg) (S : Sh) (x y : Int) (hs : hget h i = some s) (hi : i < n) (hS : ShAt s o S) (hsm : Small S) (hv : hget h iv = some sv) (hvi : iv < n) (hvn : 1 ≤ sv.n) (hvc : sv.c 0 = .ptr i o) :
    CallQ Tryz.prog cx 87 [spot x y, .ptr iv 0] h n (.bool (nbB S x y)) := by
  have hne : (n == i) = false := by simp; omega
  have hnv : (n == iv) = false := by simp; omega
  refine callQ_of_T (P := Tryz.prog) hti (nt := 13) (rs := [.tmp 3]) rfl rfl Tryz.call87 Tryz.func87 rfl _ (by simp only [go_sem, and_self]) (Nat.le_of_ble_eq_true rfl) _ (by first | exact trivial | (refine lt_flat rfl ?_; simp [SV.flat]; done) | simp only [go_sem]) fun hok => ?_
  simp only [go_sem, Nat.reduceBEq, Nat.reduceLT, hnv, hv, hvc]
  refine ⟨by omega, (has_Q _ _ _ i o s S x y ((hget_miss _ _ _ _ hne).trans hs) (by omega) hS).A ?_⟩
  simp only [go_sem, Nat.reduceBEq, Nat.reduceLT, hnv, hv, hvc, HExt_cons, SV.bool.injEq]
  refine ⟨fun h1 => ⟨hvn, ?_⟩, fun h1 => ?_⟩
  · have h1 : hasB S x y = true := by simpa using h1
    obtain ⟨x0, x8, y0, y8⟩ := hasB_in hsm h1
    refine (waxed_Q _ _ _ i o s S x y ((hget_miss _ _ _ _ hne).trans hs) (by omega) hS x0 y0 y8).A ?_
    simp only [go_sem, Nat.reduceBEq, Nat.reduceLT, HExt_cons, SV.bool.injEq, nbB, h1, Bool.not_true, Bool.false_or]
  · simp only [nbB, h1, Bool.true_or]

theorem neighbours_E (i o : Nat) (s : Seg) (S : Sh) (x y : Int) (hs : hget h i = some s) (hi : i < n) (hS : ShAt s o S) (hsm : Small S) (K : HK)
    (hK : ∀ cap, K (.sl n 0 (nb S x y).length cap) ((n, ⟨(nb S x y).length * 2, spotsC (nb S x y), true, none⟩) :: h) (n + 1)) :
    CallE Tryz.prog cx 78 [.ptr i o, spot x y] h n K := by
  have hne : (n == i) = false := by simp; omega
  refine CallE.imp1 (K := fun r h' n' => r = .sl (n + 2) 0 (nb S x y).length 4 ∧ n' = n + 3 ∧ HExt n h h' ∧ ∃ t, hget h' (n + 2) = some t ∧ t.n = (nb S x y).length * 2 ∧ t.rw = true ∧ t.c = spotsC (nb S x y)) ?_ ?_
  · refine callE_of_T (P := Tryz.prog) hti (nt := 9) (rs := [.tmp 4]) rfl rfl Tryz.call78 Tryz.func78 rfl _ (by simp only [go_sem, and_self]) (Nat.le_of_ble_eq_true rfl) _ fun hok => ?_
    simp only [go_sem, Nat.reduceBEq, Nat.reduceLT]
    refine callA_false (beside_E _ _ _ x y _ ?_)
    simp only [go_sem, Nat.reduceBEq, Nat.reduceLT]
    refine callA_false (deleteFunc_E _ _ _ (n + 2) 4 4 (besideL x y) _ _ _ _ _ _ (nbB S) (fst4 (nbB S) (besideL x y)) (hget_hit _ _ _) (by omega) rfl (by omega) (Nat.le_refl _) rfl rfl (fun _ _ => rfl) ?_
      (fun h => fst4_none h) (fun h => fst4_some h) (fun j hj nt n0 h' n' hn hb => ?_) _ fun own => ?_)
    · exact fn_lt (xs := []) (ys := [.ptr n 0]) (fun v hv => by cases hv) (fun v hv => by simp at hv; subst hv; show n < _; omega)
    · show CallQ _ _ _ [spot _ _, .ptr n 0] h' n' _
      have hg : ∀ j t, j < n → hget h j = some t → hget h' j = some t := fun j t hj ht => hb j (by omega) (by omega) t (by simp only [hget]; rw [if_neg (by omega), if_neg (by omega), if_neg (by omega)]; exact ht)
      exact nb1_Q _ h' n' i o n s ⟨1, cl [.ptr i o], true, none⟩ S _ _ (hg i s hi hs) (by omega) hS hsm (hb n (by omega) (by omega) _ (by simp [hget])) (by omega) (Nat.le_refl _) rfl
    · simp only [go_sem, Nat.reduceLT]
      exact ⟨rfl, _, rfl, rfl, rfl, rfl⟩
  · rintro hok r h' n' ⟨rfl, rfl, hx, t, ht, h1, h2, h3⟩
    exact ⟨n + 2, .sl n 0 (nb S x y).length 4, _, n + 1, by simp, by simp, by simp only [ren_sl, sig_hit], Nat.lt_succ_self n,
      impH.cons1 ht (Nat.lt_succ_self n) (SegLe.flat (by simp [h1]) (fun _ => h2) (.inl rfl) fun k hk => ⟨by rw [h3], spotsC_flat _ _⟩) (impH.base1 hok (by simp) (Nat.le_refl n) hx), hK _⟩
end

/-! ### Changes of a sheet -/
def Sh.setDye (S : Sh) (y x i v : Int) : Sh := { S with dye := fun y' x' i' => if y' = y ∧ x' = x ∧ i' = i then v else S.dye y' x' i' }
def Sh.setWet (S : Sh) (y x v : Int) : Sh := { S with wet := fun y' x' => if y' = y ∧ x' = x then v else S.wet y' x' }
theorem ShAt.dyeN {s : Seg} {o : Nat} {S : Sh} (h : ShAt s o S) {y x : Int} (k : Nat) (h1 : 0 ≤ y) (h2 : y < 8) (h3 : 0 ≤ x) (h4 : x < 8) (h6 : k < 3) :
    s.c (o + 66 + y.toNat * 24 + x.toNat * 3 + k) = .int .i16 (S.dye y x k) := by
  have := h.dye h1 h2 h3 h4 (i := (k : Int)) (by omega) (by omega)
  simpa using this
theorem ShAt.setDye {sn : Nat} {c : Nat → SV} {r : Bool} {w : Option (Nat × Nat)} {o : Nat} {S : Sh} (h : ShAt ⟨sn, c, r, w⟩ o S) {y x v : Int} (k : Nat) (h1 : 0 ≤ y) (h2 : y < 8) (h3 : 0 ≤ x) (h4 : x < 8) (h6 : k < 3) (hv : -32768 ≤ v ∧ v < 32768) :
    ShAt ⟨sn, upd c (o + 66 + y.toNat * 24 + x.toNat * 3 + k) (.int .i16 v), r, w⟩ o (S.setDye y x k v) := by
  obtain ⟨hl, ⟨R1, R2, R3, R4, R5⟩, a1, a2, a3, a4, a5⟩ := h
  have ne : ∀ z, o + z ≠ o + 66 + y.toNat * 24 + x.toNat * 3 + k → upd c (o + 66 + y.toNat * 24 + x.toNat * 3 + k) (.int .i16 v) (o + z) = c (o + z) := fun z hz => by simp [upd, hz]
  refine ⟨hl, ⟨R1, R2, R3, fun y' x' i' => ?_, R5⟩, ?_, ?_, fun y' x' b1 b2 b3 b4 => ?_, fun y' x' i' b1 b2 b3 b4 b5 b6 => ?_, fun y' b1 b2 => ?_⟩
  · simp only [Sh.setDye]; split
    · exact hv
    · exact R4 _ _ _
  · exact (ne 0 (by omega)).trans a1
  · exact (ne 1 (by omega)).trans a2
  · exact (ne _ (by omega)).trans (a3 y' x' b1 b2 b3 b4)
  · simp only [Sh.setDye]
    split
    · rename_i he
      obtain ⟨rfl, rfl, rfl⟩ := he
      simp [upd, Nat.add_assoc]
    · rename_i he
      exact (ne _ (by omega)).trans (a4 y' x' i' b1 b2 b3 b4 b5 b6)
  · exact (ne _ (by omega)).trans (a5 y' b1 b2)
theorem ShAt.setWet {sn : Nat} {c : Nat → SV} {r : Bool} {w : Option (Nat × Nat)} {o : Nat} {S : Sh} (h : ShAt ⟨sn, c, r, w⟩ o S) {y x v : Int} (h1 : 0 ≤ y) (h2 : y < 8) (h3 : 0 ≤ x) (h4 : x < 8) (hv : -32768 ≤ v ∧ v < 32768) :
    ShAt ⟨sn, upd c (o + 2 + y.toNat * 8 + x.toNat) (.int .i16 v), r, w⟩ o (S.setWet y x v) := by
  obtain ⟨hl, ⟨R1, R2, R3, R4, R5⟩, a1, a2, a3, a4, a5⟩ := h
  have ne : ∀ z, o + z ≠ o + 2 + y.toNat * 8 + x.toNat → upd c (o + 2 + y.toNat * 8 + x.toNat) (.int .i16 v) (o + z) = c (o + z) := fun z hz => by simp [upd, hz]
  refine ⟨hl, ⟨R1, R2, fun y' x' => ?_, R4, R5⟩, ?_, ?_, fun y' x' b1 b2 b3 b4 => ?_, fun y' x' i' b1 b2 b3 b4 b5 b6 => ?_, fun y' b1 b2 => ?_⟩
  · simp only [Sh.setWet]; split
    · exact hv
    · exact R3 _ _
  · exact (ne 0 (by omega)).trans a1
  · exact (ne 1 (by omega)).trans a2
  · simp only [Sh.setWet]
    split
    · rename_i he
      obtain ⟨rfl, rfl⟩ := he
      simp [upd, Nat.add_assoc]
    · rename_i he
      exact (ne _ (by omega)).trans (a3 y' x' b1 b2 b3 b4)
  · exact (ne _ (by omega)).trans (a4 y' x' i' b1 b2 b3 b4 b5 b6)
  · exact (ne _ (by omega)).trans (a5 y' b1 b2)

section
variable (cx : Cx) (h : List (Nat × Seg)) (n : Nat)

end
end Go.Proofs.YtcjgpkhdlobbbaaGreat.V

/- The law's copies of arrays: the walk. -/
namespace Go.Proofs.YtcjgpkhdlobbbaaGreat.V

@[go_sem] theorem mkAgg_8 (F : Nat → SV) : mkAgg 8 F = .agg 8 F := rfl
@[go_sem] theorem mkAgg_24 (F : Nat → SV) : mkAgg 24 F = .agg 24 F := rfl
@[go_sem] theorem mkAgg_64 (F : Nat → SV) : mkAgg 64 F = .agg 64 F := rfl
@[go_sem] theorem mkAgg_192 (F : Nat → SV) : mkAgg 192 F = .agg 192 F := rfl
/-- Cells all plain. -/
def Flat (k : Nat) (F : Nat → SV) : Prop := ∀ j, j < k → (F j).flat
theorem Flat.ones {k : Nat} {F : Nat → SV} (h : Flat k F) : V.ones (.agg k F) = True := eq_true fun j hj => (h j hj).one

section
variable (cx : Cx) (h : List (Nat × Seg)) (n : Nat)

end
end Go.Proofs.YtcjgpkhdlobbbaaGreat.V

/- The law's copies of nested arrays: the walk. -/
namespace Go.Proofs.YtcjgpkhdlobbbaaGreat.V
section
variable (cx : Cx) (h : List (Nat × Seg)) (n : Nat)

end
end Go.Proofs.YtcjgpkhdlobbbaaGreat.V

/- Plain laws: lists of spots, sorted, each one once. -/
namespace Go.Proofs.YtcjgpkhdlobbbaaGreat.V

/-- Ahead: a row above; further to the west in a row. -/
def ltSp (a b : Int × Int) : Bool := decide (a.2 < b.2) || (decide (a.2 = b.2) && decide (a.1 < b.1))
theorem ltSp_iff {a b : Int × Int} : ltSp a b = true ↔ a.2 < b.2 ∨ (a.2 = b.2 ∧ a.1 < b.1) := by simp [ltSp]
theorem ltSp_not {a b : Int × Int} : ltSp a b = false ↔ b.2 < a.2 ∨ (a.2 = b.2 ∧ b.1 ≤ a.1) := by
  rw [Bool.eq_false_iff, ne_eq, ltSp_iff]; omega
theorem ltSp_swo : Go.Sort.SWO ltSp where
  irrefl x := by rw [ltSp_not]; omega
  trans x y z h1 h2 := by rw [ltSp_iff] at *; omega
  ntrans x y z h1 h2 := by rw [ltSp_not] at *; omega
theorem ltSp_tri {a b : Int × Int} (h1 : ltSp a b = false) (h2 : ltSp b a = false) : a = b := by
  rw [ltSp_not] at h1 h2
  exact Prod.ext (by omega) (by omega)
def srtS (L : List (Int × Int)) : List (Int × Int) := L.mergeSort fun a b => !ltSp b a
theorem srtS_perm (L : List (Int × Int)) : (srtS L).Perm L := List.mergeSort_perm L _
theorem srtS_sorted (L : List (Int × Int)) : (srtS L).Pairwise fun a b => ltSp b a = false := by
  have h := List.pairwise_mergeSort (le := fun a b => !ltSp b a) (fun a b c h1 h2 => by
    simp only [Bool.not_eq_true'] at *
    exact ltSp_swo.ntrans c b a h2 h1) (fun a b => by
    cases h1 : ltSp b a with
    | false => simp
    | true =>
      cases h2 : ltSp a b with
      | false => simp
      | true => rw [ltSp_iff] at h1 h2; omega) L
  exact h.imp fun {a b} h => by simpa using h
/-- Each one once, where equal ones stand together. -/
def cmpS : List (Int × Int) → List (Int × Int)
  | [] => []
  | [a] => [a]
  | a :: b :: l => if a = b then cmpS (b :: l) else a :: cmpS (b :: l)
theorem cmpS_mem : ∀ (L : List (Int × Int)) (a : Int × Int), a ∈ cmpS L ↔ a ∈ L
  | [], a => Iff.rfl
  | [b], a => Iff.rfl
  | b :: c :: l, a => by
    have ih := cmpS_mem (c :: l) a
    simp only [cmpS]
    split
    · rename_i e; subst e; rw [ih]; simp
    · rw [List.mem_cons, ih]; simp
theorem cmpS_strict : ∀ (L : List (Int × Int)), L.Pairwise (fun a b => ltSp b a = false) → (cmpS L).Pairwise fun a b => ltSp a b = true
  | [], _ => List.Pairwise.nil
  | [b], _ => by simp [cmpS]
  | b :: c :: l, h => by
    have h' := (List.pairwise_cons.1 h)
    have ih := cmpS_strict (c :: l) h'.2
    simp only [cmpS]
    split
    · exact ih
    · rename_i hne
      refine List.pairwise_cons.2 ⟨fun a ha => ?_, ih⟩
      rw [cmpS_mem] at ha
      have hb := h'.1 a ha
      have hc := h'.1 c (by simp)
      cases hlt : ltSp b a with
      | true => rfl
      | false =>
        have e : b = a := ltSp_tri hlt hb
        subst e
        rcases List.mem_cons.1 ha with rfl | ha
        · exact absurd rfl hne
        · have h3 := (List.pairwise_cons.1 h'.2).1 b ha
          exact absurd (ltSp_tri h3 hc) hne
theorem strict_ext : ∀ {A B : List (Int × Int)}, A.Pairwise (fun a b => ltSp a b = true) → B.Pairwise (fun a b => ltSp a b = true) → (∀ a, a ∈ A ↔ a ∈ B) → A = B
  | [], [], _, _, _ => rfl
  | [], b :: B, _, _, h => absurd ((h b).2 (by simp)) (by simp)
  | a :: A, [], _, _, h => absurd ((h a).1 (by simp)) (by simp)
  | a :: A, b :: B, hA, hB, h => by
    have hA' := List.pairwise_cons.1 hA
    have hB' := List.pairwise_cons.1 hB
    have irr : ∀ x y, ltSp x y = true → ltSp y x = true → False := fun x y h1 h2 => by rw [ltSp_iff] at h1 h2; omega
    have e : a = b := by
      rcases List.mem_cons.1 ((h a).1 (by simp)) with e | h1
      · exact e
      · rcases List.mem_cons.1 ((h b).2 (by simp)) with e | h2
        · exact e.symm
        · exact absurd (irr a b (hA'.1 b h2) (hB'.1 a h1)) (by simp)
    subst e
    congr 1
    refine strict_ext hA'.2 hB'.2 fun x => ?_
    constructor
    · intro hx
      rcases List.mem_cons.1 ((h x).1 (by simp [hx])) with e | h1
      · subst e; exact absurd (irr x x (hA'.1 x hx) (hA'.1 x hx)) (by simp)
      · exact h1
    · intro hx
      rcases List.mem_cons.1 ((h x).2 (by simp [hx])) with e | h1
      · subst e; exact absurd (irr x x (hB'.1 x hx) (hB'.1 x hx)) (by simp)
      · exact h1
/-- A set of cells. -/
def setL (L : List (Int × Int)) : List (Int × Int) := cmpS (srtS L)
theorem setL_mem (L : List (Int × Int)) (a : Int × Int) : a ∈ setL L ↔ a ∈ L := by
  unfold setL; rw [cmpS_mem]; exact (srtS_perm L).mem_iff
theorem setL_strict (L : List (Int × Int)) : (setL L).Pairwise fun a b => ltSp a b = true := cmpS_strict _ (srtS_sorted L)
theorem setL_eq {L B : List (Int × Int)} (hB : B.Pairwise fun a b => ltSp a b = true) (h : ∀ a, a ∈ B ↔ a ∈ L) : setL L = B := strict_ext (setL_strict L) hB fun a => (setL_mem L a).trans (h a).symm
theorem srtS_len (L : List (Int × Int)) : (srtS L).length = L.length := List.length_mergeSort L
/-- The kit's sort gives the sorted list. -/
theorem sorted_srtS {d d' : Array (Int × Int)} (h1 : Go.Sort.PermIn 0 d.size d d') (h2 : Go.Sort.SortedIn ltSp 0 d.size d') : d'.toList = srtS d.toList :=
  Go.Sort.sorted_unique_holds ltSp_swo (fun x y a b => ltSp_tri a b) d d' h1 h2

/-- What a drop covers. -/
def covL (W H x y : Int) : List (Int × Int) := [(x, y - 1), (x - 1, y), (x, y), (x + 1, y), (x, y + 1)].filter fun a => decide (0 ≤ a.1) && decide (a.1 < W) && decide (0 ≤ a.2) && decide (a.2 < H)
theorem covL_strict (W H x y : Int) : (covL W H x y).Pairwise fun a b => ltSp a b = true := by
  refine List.Pairwise.filter _ ?_
  simp [List.pairwise_cons, ltSp_iff]
  (try omega)
theorem covL_set {W H x y : Int} (hW : W ≤ 8) (hH : H ≤ 8) (x0 : 0 ≤ x) (x1 : x < W) (y0 : 0 ≤ y) (y1 : y < H) (S : Sh) (hSW : S.wide = W) (hSH : S.high = H) (hwx : ∀ x y, waxB S x y = false) : setL ((x, y) :: nb S x y) = covL W H x y := by
  refine setL_eq (covL_strict W H x y) fun a => ?_
  have e1 : IntKind.i8.wrap (y - 1) = y - 1 := w8 (by omega)
  have e2 : IntKind.i8.wrap (x + 1) = x + 1 := w8 (by omega)
  have e3 : IntKind.i8.wrap (y + 1) = y + 1 := w8 (by omega)
  have e4 : IntKind.i8.wrap (x - 1) = x - 1 := w8 (by omega)
  obtain ⟨a1, a2⟩ := a
  simp only [covL, nb, besideL, e1, e2, e3, e4, nbB, hasB, hwx, hSW, hSH, List.mem_filter, List.mem_cons, List.not_mem_nil, or_false, Prod.mk.injEq, Bool.or_false, Bool.not_not, Bool.and_eq_true, decide_eq_true_eq]
  omega
end Go.Proofs.YtcjgpkhdlobbbaaGreat.V

/- Plain laws of sheets: what a unit given, a round run or dried, leaves. -/
namespace Go.Proofs.YtcjgpkhdlobbbaaGreat.V

/-- Water and dye are within their bounds. -/
structure Good (S : Sh) : Prop where
  small : Small S
  wet : ∀ y x : Int, 0 ≤ y → y < 8 → 0 ≤ x → x < 8 → 0 ≤ S.wet y x ∧ S.wet y x ≤ 200
  dye : ∀ y x i : Int, 0 ≤ y → y < 8 → 0 ≤ x → x < 8 → 0 ≤ i → i < 3 → 0 ≤ S.dye y x i ∧ S.dye y x i ≤ 1000

section
variable {S : Sh} {w fx fy tx ty : Int} (hw : 0 < w) (hfx : 0 ≤ fx) (hfx8 : fx < 8) (hfy : 0 ≤ fy) (hfy8 : fy < 8) (htx : 0 ≤ tx) (htx8 : tx < 8) (hty : 0 ≤ ty) (hty8 : ty < 8) (hne : ¬ (ty = fy ∧ tx = fx))

end

/-- Sides and wax are the same. -/
structure Alike' (S S' : Sh) : Prop where
  wide : S'.wide = S.wide
  high : S'.high = S.high
  wax : S'.wax = S.wax
theorem Alike'.refl (S : Sh) : Alike' S S := ⟨rfl, rfl, rfl⟩
theorem Alike'.trans {A B C : Sh} (h : Alike' A B) (k : Alike' B C) : Alike' A C := ⟨k.wide.trans h.wide, k.high.trans h.high, k.wax.trans h.wax⟩
theorem Alike'.hasB {S S' : Sh} (h : Alike' S S') (x y : Int) : V.hasB S' x y = V.hasB S x y := by simp [V.hasB, h.wide, h.high]
theorem Alike'.waxB {S S' : Sh} (h : Alike' S S') (x y : Int) : V.waxB S' x y = V.waxB S x y := by simp [V.waxB, h.wax]
theorem Alike'.nb {S S' : Sh} (h : Alike' S S') (x y : Int) : V.nb S' x y = V.nb S x y := by
  simp only [V.nb, V.nbB, h.hasB, h.waxB]

section
variable {S : Sh} {fx fy tx ty : Int} (hG : Good S) (hfx : 0 ≤ fx) (hfx8 : fx < 8) (hfy : 0 ≤ fy) (hfy8 : fy < 8) (htx : 0 ≤ tx) (htx8 : tx < 8) (hty : 0 ≤ ty) (hty8 : ty < 8) (h2 : 2 ≤ S.wet fy fx - S.wet ty tx)
include hG hfx hfx8 hfy hfy8 htx htx8 hty hty8 h2

end

theorem nb_len (S : Sh) (x y : Int) : (nb S x y).length ≤ 4 := List.length_filter_le _ _

end Go.Proofs.YtcjgpkhdlobbbaaGreat.V

/- Running and drying: the walk. -/
namespace Go.Proofs.YtcjgpkhdlobbbaaGreat.V

theorem cell_in {W H j : Nat} {S : Sh} (hs : Small S) (hW : S.wide = W) (hH : S.high = H) (hj : j < H * W) : 0 ≤ ((j % W : Nat) : Int) ∧ ((j % W : Nat) : Int) < 8 ∧ 0 ≤ ((j / W : Nat) : Int) ∧ ((j / W : Nat) : Int) < 8 := by
  unfold Small at hs
  have hW0 : 0 < W := by omega
  have hm := Nat.mod_lt j hW0
  have hd : j / W < H := (Nat.div_lt_iff_lt_mul hW0).2 hj
  exact ⟨Int.natCast_nonneg _, by omega, Int.natCast_nonneg _, by omega⟩
theorem pair_flat (x y : Int) {z : Nat} (hz : z < 2) : (cl [SV.int .i8 x, SV.int .i8 y] z).flat := cl_flat (l := [_, _]) (fun v hv => by simp at hv; rcases hv with rfl | rfl <;> trivial) hz

section
variable (cx : Cx) (h : List (Nat × Seg)) (n : Nat)

end
end Go.Proofs.YtcjgpkhdlobbbaaGreat.V

/- Plain laws of drying. -/
namespace Go.Proofs.YtcjgpkhdlobbbaaGreat.V

/-- Cells before number j. -/
def before (W j : Nat) (y x : Int) : Prop := ∃ k, k < j ∧ y = ((k / W : Nat) : Int) ∧ x = ((k % W : Nat) : Int)
end Go.Proofs.YtcjgpkhdlobbbaaGreat.V

/- Validity of a sheet, its water: the walk of the program's own. -/
namespace Go.Proofs.YtcjgpkhdlobbbaaGreat.V

/-- A place of a sheet is as it should be. -/
def CellOk (S : Sh) (x y : Int) : Prop :=
  (waxB S x y = true → hasB S x y = true) ∧ (0 ≤ S.wet y x ∧ S.wet y x ≤ 200) ∧ (∀ i : Int, 0 ≤ i → i < 3 → 0 ≤ S.dye y x i ∧ S.dye y x i ≤ 1000) ∧
    ((hasB S x y = true ∧ waxB S x y = false) ∨ (S.wet y x = 0 ∧ S.dye y x 0 = 0 ∧ S.dye y x 1 = 0 ∧ S.dye y x 2 = 0))
def Valid (S : Sh) : Prop := Small S ∧ ∀ y x : Int, 0 ≤ y → y < 8 → 0 ≤ x → x < 8 → CellOk S x y
theorem Valid.good {S : Sh} (h : Valid S) : Good S := ⟨h.1, fun y x a b c d => (h.2 y x a b c d).2.1, fun y x i a b c d e f => (h.2 y x a b c d).2.2.1 i e f⟩

section
variable (cx : Cx) (h : List (Nat × Seg)) (n : Nat)

theorem within_Q (a lo hi : Int) : CallQ Tryz.prog cx 43 [.int .i64 a, .int .i64 lo, .int .i64 hi] h n (.bool (decide (lo ≤ a ∧ a ≤ hi))) := by
  refine callQ_of_T (P := Tryz.prog) hti (nt := 15) (rs := [.tmp 6]) rfl rfl Tryz.call43 Tryz.func43 rfl _ (by simp only [go_sem, and_self]) (Nat.le_of_ble_eq_true rfl) _ (by first | exact trivial | (refine lt_flat rfl ?_; simp [SV.flat]; done) | simp only [go_sem]) fun hok => ?_
  simp only [go_sem, Nat.reduceBEq, Nat.reduceLT, HExt_cons, SV.bool.injEq, decide_eq_true_eq, decide_eq_false_iff_not]
  constructor <;> intro h1 <;> simp [h1]
end
end Go.Proofs.YtcjgpkhdlobbbaaGreat.V

/- The reference's small functions of sheets. -/
namespace Go.Proofs.YtcjgpkhdlobbbaaGreat.V

section
variable (cx : Cx) (h : List (Nat × Seg)) (n : Nat)

theorem in_Q (a lo hi : Int) : CallQ Tryz.prog cx 45 [.int .i64 a, .int .i64 lo, .int .i64 hi] h n (.bool (decide (lo ≤ a ∧ a ≤ hi))) := by
  refine callQ_of_T (P := Tryz.prog) hti (nt := 15) (rs := [.tmp 6]) rfl rfl Tryz.call45 Tryz.func45 rfl _ (by simp only [go_sem, and_self]) (Nat.le_of_ble_eq_true rfl) _ (by first | exact trivial | (refine lt_flat rfl ?_; simp [SV.flat]; done) | simp only [go_sem]) fun hok => ?_
  simp only [go_sem, Nat.reduceBEq, Nat.reduceLT, HExt_cons, SV.bool.injEq, decide_eq_true_eq, decide_eq_false_iff_not]
  constructor <;> intro h1 <;> simp [h1]
theorem next_Q (x y : Int) (k : Nat) (hk : k < 4) : CallQ Tryz.prog cx 79 [spot x y, .int .i64 k] h n (spot ((besideL x y).getD k (0, 0)).1 ((besideL x y).getD k (0, 0)).2) := by
  refine callQ_of_T (P := Tryz.prog) hti (nt := 29) (rs := [.cell 4 46]) rfl rfl Tryz.call79 Tryz.func79 rfl _ (by simp only [go_sem, and_self]) (Nat.le_of_ble_eq_true rfl) _ (by first | exact trivial | (refine lt_flat rfl ?_; simp [SV.flat]; done) | simp only [go_sem]) fun hok => ?_
  rcases (by omega : k = 0 ∨ k = 1 ∨ k = 2 ∨ k = 3) with rfl | rfl | rfl | rfl <;>
  · simp only [go_sem, Nat.reduceBEq, Nat.reduceLT, Nat.reduceLeDiff, Nat.reduceEqDiff, reduceIte, reduceCtorEq, Int.reduceEq, HExt_cons, besideL, Int.natCast_one, Int.natCast_zero]
    rfl

end
end Go.Proofs.YtcjgpkhdlobbbaaGreat.V

/- Plain laws of water: running keeps it, drying lessens it. -/
namespace Go.Proofs.YtcjgpkhdlobbbaaGreat.V

/-- A sum of the first numbers. -/
def sumN (f : Nat → Int) : Nat → Int
  | 0 => 0
  | n + 1 => sumN f n + f n
/-- The water of the first cells. -/
def wetAt (S : Sh) (W : Nat) (k : Nat) : Int := S.wet ((k / W : Nat) : Int) ((k % W : Nat) : Int)
def waterN (S : Sh) (W : Nat) (j : Nat) : Int := sumN (wetAt S W) j
def water (S : Sh) (W H : Nat) : Int := waterN S W (H * W)

theorem cell_lt {W H j : Nat} {S : Sh} (hs : Small S) (hW : S.wide = W) (hH : S.high = H) (hj : j < H * W) : 0 ≤ ((j % W : Nat) : Int) ∧ ((j % W : Nat) : Int) < 8 ∧ 0 ≤ ((j / W : Nat) : Int) ∧ ((j / W : Nat) : Int) < 8 := by
  unfold Small at hs
  have hW0 : 0 < W := by omega
  have hm := Nat.mod_lt j hW0
  have hd : j / W < H := (Nat.div_lt_iff_lt_mul hW0).2 hj
  exact ⟨Int.natCast_nonneg _, by omega, Int.natCast_nonneg _, by omega⟩
end Go.Proofs.YtcjgpkhdlobbbaaGreat.V

/- The reference's neighbours, giving, running, drying: the walk. -/
namespace Go.Proofs.YtcjgpkhdlobbbaaGreat.V

section
variable (cx : Cx) (h : List (Nat × Seg)) (n : Nat)

end
end Go.Proofs.YtcjgpkhdlobbbaaGreat.V

/- Cells that hold spots. -/
namespace Go.Proofs.YtcjgpkhdlobbbaaGreat.V
/-- Cells that hold spots. -/
def SpsAt (s : Seg) (L : List (Int × Int)) : Prop := L.length * 2 ≤ s.n ∧ ∀ k, k < L.length * 2 → s.c k = spotsC L k
theorem SpsAt.x {s : Seg} {L : List (Int × Int)} (h : SpsAt s L) {j : Nat} (hj : j < L.length) : s.c (j * 2) = .int .i8 (L.getD j (0, 0)).1 := by rw [h.2 _ (by omega), spotsC_x]
theorem SpsAt.y {s : Seg} {L : List (Int × Int)} (h : SpsAt s L) {j : Nat} (hj : j < L.length) : s.c (j * 2 + 1) = .int .i8 (L.getD j (0, 0)).2 := by rw [h.2 _ (by omega), spotsC_y]

end Go.Proofs.YtcjgpkhdlobbbaaGreat.V

/- The reference's giving of a unit: the walk. -/
namespace Go.Proofs.YtcjgpkhdlobbbaaGreat.V

section
variable (cx : Cx) (h : List (Nat × Seg)) (n : Nat)

end
end Go.Proofs.YtcjgpkhdlobbbaaGreat.V

/- The code of a sheet, its water: the walk. -/
namespace Go.Proofs.YtcjgpkhdlobbbaaGreat.V

section
variable (cx : Cx) (h : List (Nat × Seg)) (n : Nat)

end

end Go.Proofs.YtcjgpkhdlobbbaaGreat.V

/- The reference's round of running: the walk. -/
namespace Go.Proofs.YtcjgpkhdlobbbaaGreat.V

theorem ShF.at {F : Nat → SV} {S : Sh} (h : ShF F S) : ShAt ⟨266, F, true, none⟩ 0 S := ⟨by simp, by simpa using h⟩
theorem ShAt.F {F : Nat → SV} {S : Sh} (h : ShAt ⟨266, F, true, none⟩ 0 S) : ShF F S := by have := h.2; simp only [Nat.zero_add] at this; exact this
section
variable (cx : Cx) (h : List (Nat × Seg)) (n : Nat)

end
end Go.Proofs.YtcjgpkhdlobbbaaGreat.V

/- The reference's water of a sheet: the walk. -/
namespace Go.Proofs.YtcjgpkhdlobbbaaGreat.V

section
variable (cx : Cx) (h : List (Nat × Seg)) (n : Nat)
end

/-- Places that a sheet does not have hold no water. -/
def Out (S : Sh) : Prop := ∀ y x : Int, 0 ≤ y → y < 8 → 0 ≤ x → x < 8 → hasB S x y = false → S.wet y x = 0
theorem Valid.out {S : Sh} (hV : Valid S) : Out S := fun y x a b c d hf => (hV.2 y x a b c d).2.2.2.elim (fun h => by rw [hf] at h; cases h.1) (fun h => h.1)
end Go.Proofs.YtcjgpkhdlobbbaaGreat.V

/- Validity of a sheet, by the reference: the walk. -/
namespace Go.Proofs.YtcjgpkhdlobbbaaGreat.V

section
variable (cx : Cx) (h : List (Nat × Seg)) (n : Nat)

end
end Go.Proofs.YtcjgpkhdlobbbaaGreat.V

/- Wax, bit by bit. -/
namespace Go.Proofs.YtcjgpkhdlobbbaaGreat.V
theorem wrap_u8w {n : Nat} (h : n < 256) : IntKind.u8.wrap (n : Int) = (n : Int) := by simp [IntKind.wrap, IntKind.bits, IntKind.signed]; omega
theorem ofInt_natw (w n : Nat) : BitVec.ofInt w (n : Int) = BitVec.ofNat w n := by
  apply BitVec.eq_of_toNat_eq; simp
theorem wax_bit {a k : Nat} (ha : a < 256) (hk : k < 8) : decide (bitsI .and .u8 (shrI .u8 (a : Int) (k : Int)) 1 = 1) = a.testBit k := by
  have e1 : shrI .u8 (a : Int) (k : Int) = ((a / 2 ^ k : Nat) : Int) := by
    unfold shrI
    rw [show min ((k : Int).toNat) IntKind.u8.bits = k by simp [IntKind.bits]; omega]
    rw [Int.fdiv_eq_ediv_of_nonneg _ (by exact Int.le_of_lt (Int.pow_pos (by decide)))]
    simp
  rw [e1]
  have hm : a / 2 ^ k < 256 := Nat.lt_of_le_of_lt (Nat.div_le_self _ _) ha
  have e2 : bitsI .and .u8 ((a / 2 ^ k : Nat) : Int) 1 = ((a / 2 ^ k % 2 : Nat) : Int) := by
    unfold bitsI
    simp only
    rw [show (1 : Int) = ((1 : Nat) : Int) from rfl, ofInt_natw, ofInt_natw]
    have : (BitVec.ofNat IntKind.u8.bits (a / 2 ^ k) &&& BitVec.ofNat IntKind.u8.bits 1).toNat = a / 2 ^ k % 2 := by
      show (BitVec.ofNat 8 (a / 2 ^ k) &&& BitVec.ofNat 8 1).toNat = _
      rw [BitVec.toNat_and, BitVec.toNat_ofNat, BitVec.toNat_ofNat, Nat.mod_eq_of_lt hm]
      exact Nat.and_one_is_mod _
    rw [this, wrap_u8w (by omega)]
  rw [e2, Nat.testBit_eq_decide_div_mod_eq]
  congr 1
  rw [eq_iff_iff]
  omega
theorem wax_or {a k : Nat} (ha : a < 256) (hk : k < 8) : bitsI .or .u8 (a : Int) (shlI .u8 1 (k : Int)) = ((a ||| 2 ^ k : Nat) : Int) ∧ (a ||| 2 ^ k) < 256 := by
  have h2 : 2 ^ k < 256 := Nat.lt_of_lt_of_le (Nat.pow_lt_pow_right (by decide) hk) (by decide)
  have hor : (a ||| 2 ^ k) < 256 := Nat.or_lt_two_pow (n := 8) ha h2
  refine ⟨?_, hor⟩
  have e1 : shlI .u8 1 (k : Int) = ((2 ^ k : Nat) : Int) := by
    unfold shlI
    rw [show min ((k : Int).toNat) IntKind.u8.bits = k by simp [IntKind.bits]; omega, Int.one_mul]
    rw [show ((2 : Int) ^ k) = ((2 ^ k : Nat) : Int) by simp]
    exact wrap_u8w h2
  rw [e1]
  unfold bitsI
  simp only
  rw [ofInt_natw, ofInt_natw]
  have : (BitVec.ofNat IntKind.u8.bits a ||| BitVec.ofNat IntKind.u8.bits (2 ^ k)).toNat = a ||| 2 ^ k := by
    show (BitVec.ofNat 8 a ||| BitVec.ofNat 8 (2 ^ k)).toNat = _
    rw [BitVec.toNat_or, BitVec.toNat_ofNat, BitVec.toNat_ofNat, Nat.mod_eq_of_lt ha, Nat.mod_eq_of_lt h2]
  rw [this, wrap_u8w hor]
/-- A cell waxed: it is, the others are as they were. -/
theorem wax_set {v : Int} {x x' : Int} (hv : 0 ≤ v ∧ v < 256) (hx : 0 ≤ x ∧ x < 8) (hx' : 0 ≤ x' ∧ x' < 8) :
    decide (bitsI .and .u8 (shrI .u8 (bitsI .or .u8 v (shlI .u8 1 x)) x') 1 = 1) = (decide (x' = x) || decide (bitsI .and .u8 (shrI .u8 v x') 1 = 1)) := by
  obtain ⟨a, rfl⟩ := Int.eq_ofNat_of_zero_le hv.1
  obtain ⟨k, rfl⟩ := Int.eq_ofNat_of_zero_le hx.1
  obtain ⟨k', rfl⟩ := Int.eq_ofNat_of_zero_le hx'.1
  obtain ⟨e, hl⟩ := wax_or (a := a) (k := k) (by omega) (by omega)
  rw [e, wax_bit hl (by omega), wax_bit (by omega) (by omega), Nat.testBit_or, Nat.testBit_two_pow, Bool.or_comm]
  congr 1
  rw [decide_eq_decide]
  omega
end Go.Proofs.YtcjgpkhdlobbbaaGreat.V

/- The source of choices: next, pick, one. -/
namespace Go.Proofs.YtcjgpkhdlobbbaaGreat.V
/-- A slice of bytes. -/
def BySl (h : List (Nat × Seg)) (n i : Nat) (A : SV) : Prop :=
  A = .nils ∨ ∃ j o len cap s, A = .sl j o len cap ∧ j < n ∧ j ≠ i ∧ hget h j = some s ∧ o + len ≤ s.n ∧ len ≤ 1048576 ∧ ∀ k, k < len → ∃ v : Int, s.c (o + k) = .int .u8 v ∧ 0 ≤ v ∧ v < 256
def srcS (A : SV) (a d : Int) : Seg := ⟨3, cl [A, .int .i64 a, .int .u64 d], true, none⟩
theorem and255 {x : Int} : 0 ≤ bitsI .and .u64 (shrI .u64 x 40) 255 ∧ bitsI .and .u64 (shrI .u64 x 40) 255 < 256 := by
  generalize shrI .u64 x 40 = y
  have e : bitsI .and .u64 y 255 = (((BitVec.ofInt 64 y &&& BitVec.ofInt 64 255).toNat : Nat) : Int) := by
    show IntKind.u64.wrap (((BitVec.ofInt 64 y &&& BitVec.ofInt 64 255).toNat : Nat) : Int) = _
    have := (BitVec.ofInt 64 y &&& BitVec.ofInt 64 255).isLt
    simp [IntKind.wrap, IntKind.bits, IntKind.signed] at *
    omega
  rw [e, BitVec.toNat_and, show (BitVec.ofInt 64 255).toNat = 255 from rfl]
  have := @Nat.and_le_right (BitVec.ofInt 64 y).toNat 255
  omega
theorem upd_src (A u v a d : SV) : upd (upd (cl [A, a, d]) 1 u) 2 v = cl [A, u, v] := by
  funext k
  match k with
  | 0 => rfl
  | 1 => rfl
  | 2 => rfl
  | k + 3 => rfl
section
variable (cx : Cx) (h : List (Nat × Seg)) (n : Nat)
theorem next_E (i : Nat) (A : SV) (a d : Int) (hs : hget h i = some (srcS A a d)) (hi : i < n) (hA : BySl h n i A) (ha : 0 ≤ a ∧ a ≤ 1048576) (K : HK)
    (hK : ∀ v d' : Int, 0 ≤ v → v < 256 → K (.int .i64 v) (hset h i (srcS A (a + 1) d')) n) :
    CallE Tryz.prog cx 76 [.ptr i 0] h n K := by
  refine callE_of_T (P := Tryz.prog) hti (nt := 62) (rs := [.tmp 2]) rfl rfl Tryz.call76 Tryz.func76 rfl _ (by simp only [go_sem, and_self]) (Nat.le_of_ble_eq_true rfl) _ fun hok => ?_
  have hgi : ∀ t, hget (hset h i t) i = some t := fun t => by rw [hget_hset, if_pos rfl, hs]; rfl
  have w1 : IntKind.i64.wrap (a + 1) = a + 1 := w64 (by omega)
  rcases hA with rfl | ⟨j, o, len, cap, s, rfl, hj, hji, hg, hl, hl2, hv⟩
  · unfold srcS at hs
    simp only [go_sem, Nat.reduceLT, hs, hi]
    refine T_draw hti _ _ (by kernel_rfl) (by kernel_rfl) ?_
    have h0 : ¬ a < 0 := by omega
    simp only [go_sem, Nat.reduceBEq, Nat.reduceLT, Nat.reduceLeDiff, Nat.reduceEqDiff, reduceIte, reduceCtorEq, hs, hi, h0, hgi, w1, hset_hset, upd_src]
    generalize IntKind.u64.wrap (IntKind.u64.wrap (IntKind.u64.wrap (d * 6364136223846793005) + IntKind.u64.wrap 0) + 1442695040888963407) = d' at *
    refine T_draw hti _ _ (by kernel_rfl) (by kernel_rfl) ?_
    have h6 : ¬ a + 1 ≤ 0 := by omega
    simp only [go_sem, Nat.reduceBEq, Nat.reduceLT, Nat.reduceLeDiff, reduceCtorEq, Int.reduceLE, hs, hi, hgi, w1, h6, hset_hset, upd_src]
    obtain ⟨b1, b2⟩ := and255 (x := d')
    simp only [go_sem, w64 (n := bitsI .and .u64 (shrI .u64 d' 40) 255) (by omega)]
    exact hK _ _ b1 b2
  · unfold srcS at hs
    simp only [go_sem, Nat.reduceLT, hs, hi]
    refine T_draw hti _ _ (by kernel_rfl) (by kernel_rfl) ?_
    by_cases h0 : a < (len : Int)
    · simp only [go_sem, Nat.reduceBEq, Nat.reduceLT, Nat.reduceLeDiff, reduceCtorEq, hs, hi, h0]
      refine T_draw hti _ _ (by kernel_rfl) (by kernel_rfl) ?_
      obtain ⟨v, hv1, hv2, hv3⟩ := hv a.toNat (by omega)
      have wv : IntKind.i64.wrap v = v := w64 (by omega)
      simp only [go_sem, Nat.reduceBEq, Nat.reduceLT, Nat.reduceLeDiff, Nat.reduceEqDiff, reduceIte, reduceCtorEq, hs, hi, hg, hj, hv1, hgi, w1, wv, hset_hset, upd_src]
      refine ⟨⟨ha.1, h0⟩, by omega, ?_⟩
      generalize IntKind.u64.wrap (IntKind.u64.wrap (IntKind.u64.wrap (d * 6364136223846793005) + IntKind.u64.wrap v) + 1442695040888963407) = d' at *
      refine T_draw hti _ _ (by kernel_rfl) (by kernel_rfl) ?_
      have h6 : a + 1 ≤ (len : Int) := by omega
      simp only [go_sem, Nat.reduceBEq, Nat.reduceLT, Nat.reduceLeDiff, reduceCtorEq, hgi, h6]
      exact hK _ _ hv2 hv3
    · simp only [go_sem, Nat.reduceBEq, Nat.reduceLT, Nat.reduceLeDiff, Nat.reduceEqDiff, reduceIte, reduceCtorEq, hs, hi, h0, hgi, w1, hset_hset, upd_src]
      generalize IntKind.u64.wrap (IntKind.u64.wrap (IntKind.u64.wrap (d * 6364136223846793005) + IntKind.u64.wrap 0) + 1442695040888963407) = d' at *
      refine T_draw hti _ _ (by kernel_rfl) (by kernel_rfl) ?_
      have h6 : ¬ a + 1 ≤ (len : Int) := by omega
      simp only [go_sem, Nat.reduceBEq, Nat.reduceLT, Nat.reduceLeDiff, reduceCtorEq, Int.reduceLE, hs, hi, hgi, w1, h6]
      obtain ⟨b1, b2⟩ := and255 (x := d')
      simp only [go_sem, w64 (n := bitsI .and .u64 (shrI .u64 d' 40) 255) (by omega)]
      exact hK _ _ b1 b2
/-- A choice below a number: any, the source goes one or two on. -/
theorem pick_E (i : Nat) (A : SV) (a d m : Int) (hs : hget h i = some (srcS A a d)) (hi : i < n) (hA : BySl h n i A) (ha : 0 ≤ a ∧ a ≤ 1048576) (hm : 0 ≤ m ∧ m ≤ 200) (K : HK)
    (hK : ∀ v a' d' : Int, 0 ≤ v → (v < m ∨ v = 0) → a ≤ a' → a' ≤ a + 1 → K (.int .i64 v) (hset h i (srcS A a' d')) n) :
    CallE Tryz.prog cx 57 [.ptr i 0, .int .i64 m] h n K := by
  refine callE_of_T (P := Tryz.prog) hti (nt := 20) (rs := [.tmp 4]) rfl rfl Tryz.call57 Tryz.func57 rfl _ (by simp only [go_sem, and_self]) (Nat.le_of_ble_eq_true rfl) _ fun hok => ?_
  have hmx : m - 1 < m := by omega
  by_cases hm1 : m ≤ 1
  · simp only [go_sem, Nat.reduceBEq, Nat.reduceLT, hm1]
    have := hK 0 a d (Int.le_refl _) (.inr rfl) (Int.le_refl _) (by omega)
    rw [hset_self hs] at this
    exact this
  · simp only [go_sem, Nat.reduceBEq, Nat.reduceLT, hm1]
    refine callA_false (next_E _ _ _ i A a d hs hi hA ha _ fun v d' h0 h1 => ?_)
    have h200 : ¬ 200 < m := by omega
    simp only [go_sem, Nat.reduceBEq, Nat.reduceLT, h200]
    exact ⟨by omega, hK _ _ _ (Int.tmod_nonneg _ h0) (.inl (Int.tmod_lt_of_pos _ (by omega))) (by omega) (Int.le_refl _)⟩
/-- A new source. -/
theorem srcFrom_E (A : SV) (hA : ∃ j o len cap, A = .sl j o len cap ∧ j < n ∨ A = .nils) (K : HK) (hok : HOk n h)
    (hK : K (.ptr n 0) ((n, srcS A 0 0) :: h) (n + 1)) :
    CallE Tryz.prog cx 24 [A] h n K := by
  obtain ⟨j, o, len, cap, ⟨rfl, hj⟩ | rfl⟩ := hA
  · refine callE_of_T (P := Tryz.prog) hti (nt := 6) (rs := [.tmp 2]) rfl rfl Tryz.call24 Tryz.func24 rfl _ (by simp only [go_sem, and_self]) (Nat.le_of_ble_eq_true rfl) _ fun hok => ?_
    simp only [go_sem, Nat.reduceBEq, Nat.reduceLT, Nat.reduceLeDiff]
    exact hK
  · refine callE_of_T (P := Tryz.prog) hti (nt := 6) (rs := [.tmp 2]) rfl rfl Tryz.call24 Tryz.func24 rfl _ (by simp only [go_sem, and_self]) (Nat.le_of_ble_eq_true rfl) _ fun hok => ?_
    simp only [go_sem, Nat.reduceBEq, Nat.reduceLT, Nat.reduceLeDiff]
    exact hK
end
end Go.Proofs.YtcjgpkhdlobbbaaGreat.V

/- Sets of cells: as grids, and as ordered lists. -/
namespace Go.Proofs.YtcjgpkhdlobbbaaGreat.V
/-- A set of cells as a grid. -/
def mkC (L : List (Int × Int)) : Nat → SV := fun j => .bool (decide ((((j % 8 : Nat) : Int), ((j / 8 : Nat) : Int)) ∈ L))
theorem mkC_flat (L : List (Int × Int)) (k : Nat) : (mkC L k).flat := trivial
def mkS (L : List (Int × Int)) : Seg := ⟨64, mkC L, true, none⟩
def In8 (p : Int × Int) : Prop := (0 ≤ p.1 ∧ p.1 < 8) ∧ 0 ≤ p.2 ∧ p.2 < 8
def In8s (L : List (Int × Int)) : Prop := ∀ p ∈ L, In8 p
abbrev Strict (L : List (Int × Int)) : Prop := L.Pairwise fun a b => ltSp a b = true
theorem mkC_ix {y x : Int} (h1 : 0 ≤ y) (h3 : 0 ≤ x) (h4 : x < 8) : (((y.toNat * 8 + x.toNat) % 8 : Nat) : Int) = x ∧ (((y.toNat * 8 + x.toNat) / 8 : Nat) : Int) = y := by omega
/-- The cells of a grid up to a place, ordered. -/
def cellK (k : Nat) : Int × Int := (((k % 8 : Nat) : Int), ((k / 8 : Nat) : Int))
def upM (L : List (Int × Int)) (k : Nat) : List (Int × Int) := ((List.range k).filter fun k => decide (cellK k ∈ L)).map cellK
theorem upM_len (L : List (Int × Int)) (k : Nat) : (upM L k).length ≤ k := by
  unfold upM; rw [List.length_map]; exact Nat.le_trans (List.length_filter_le _ _) (by simp)
theorem upM_strict (L : List (Int × Int)) (k : Nat) : Strict (upM L k) := by
  unfold upM
  refine List.pairwise_map.2 ((List.Pairwise.sublist List.filter_sublist (List.pairwise_lt_range (n := k))).imp fun {a b} h => ?_)
  rw [ltSp_iff]; simp only [cellK]; omega
theorem upM_mem (L : List (Int × Int)) (p : Int × Int) : p ∈ upM L 64 ↔ p ∈ L ∧ In8 p := by
  unfold upM
  rw [List.mem_map]
  constructor
  · rintro ⟨k, hk, rfl⟩
    rw [List.mem_filter, List.mem_range] at hk
    refine ⟨of_decide_eq_true hk.2, ⟨?_, ?_⟩, ?_, ?_⟩ <;> simp only [cellK] <;> omega
  · rintro ⟨h, ⟨h1, h2⟩, h3, h4⟩
    have e : cellK (p.2.toNat * 8 + p.1.toNat) = p := Prod.ext (mkC_ix h3 h1 h2).1 (mkC_ix h3 h1 h2).2
    refine ⟨p.2.toNat * 8 + p.1.toNat, List.mem_filter.2 ⟨List.mem_range.2 (by omega), ?_⟩, e⟩
    rw [e]; exact decide_eq_true h
theorem upM_eq {L : List (Int × Int)} (hL : Strict L) (h8 : In8s L) : upM L 64 = L :=
  strict_ext (upM_strict L 64) hL fun p => ⟨fun h => ((upM_mem L p).1 h).1, fun h => (upM_mem L p).2 ⟨h, h8 p h⟩⟩
theorem In8s.setL {L : List (Int × Int)} (h : In8s L) : In8s (setL L) := fun p hp => h p ((setL_mem L p).1 hp)
theorem In8s.filter {L : List (Int × Int)} (h : In8s L) (P : Int × Int → Bool) : In8s (L.filter P) := fun p hp => h p (List.mem_filter.1 hp).1
theorem strict_len {L : List (Int × Int)} (hL : Strict L) (h8 : In8s L) : L.length ≤ 64 := by rw [← upM_eq hL h8]; exact upM_len _ _
end Go.Proofs.YtcjgpkhdlobbbaaGreat.V
