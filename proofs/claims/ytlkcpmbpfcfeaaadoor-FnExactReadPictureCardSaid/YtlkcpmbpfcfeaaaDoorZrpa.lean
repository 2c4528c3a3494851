/- Part 1 of the texts that this proof stands on: a symbolic walk over the program, what its functions and the reference's do, plain laws. -/
import Derived.Test.YtlkcpmbpfcfeaaaDoorV13
import Derived.Test.YtlkcpmbpfcfeaaaDoorTi
import Derived.Sort.AssemblyPlain
set_option linter.all false

/- Sheets as plain data, and as they lie in memory. -/
namespace Go.Proofs.YtlkcpmbpfcfeaaaDoor.V

theorem lt_flat {m k : Nat} {vs : List SV} (hk : vs.length = k) (h : ∀ v ∈ vs, v.flat) : (SV.agg k (cl vs)).lt m := hk ▸ cl_lt fun v hv => (h v hv).below m

/-- A sheet: sides, water, dye, wax. -/
structure Sh where
  wide : Int
  high : Int
  wet : Int → Int → Int
  dye : Int → Int → Int → Int
  wax : Int → Int

/-- All numbers fit. -/
structure ShR (S : Sh) : Prop where
  wide : -128 ≤ S.wide ∧ S.wide < 128
  high : -128 ≤ S.high ∧ S.high < 128
  wet : ∀ y x, -32768 ≤ S.wet y x ∧ S.wet y x < 32768
  dye : ∀ y x i, -32768 ≤ S.dye y x i ∧ S.dye y x i < 32768
  wax : ∀ y, 0 ≤ S.wax y ∧ S.wax y < 256

/-- Cells that hold a sheet. -/
structure ShF (F : Nat → SV) (S : Sh) : Prop where
  R : ShR S
  wide : F 0 = .int .i8 S.wide
  high : F 1 = .int .i8 S.high
  wet : ∀ y x : Int, 0 ≤ y → y < 8 → 0 ≤ x → x < 8 → F (2 + y.toNat * 8 + x.toNat) = .int .i16 (S.wet y x)
  dye : ∀ y x i : Int, 0 ≤ y → y < 8 → 0 ≤ x → x < 8 → 0 ≤ i → i < 3 → F (66 + y.toNat * 24 + x.toNat * 3 + i.toNat) = .int .i16 (S.dye y x i)
  wax : ∀ y : Int, 0 ≤ y → y < 8 → F (258 + y.toNat) = .int .u8 (S.wax y)
def ShAt (s : Seg) (o : Nat) (S : Sh) : Prop := o + 266 ≤ s.n ∧ ShF (fun j => s.c (o + j)) S

theorem ShAt.wide {s : Seg} {o : Nat} {S : Sh} (h : ShAt s o S) : s.c o = .int .i8 S.wide := h.2.wide
theorem ShAt.high {s : Seg} {o : Nat} {S : Sh} (h : ShAt s o S) : s.c (o + 1) = .int .i8 S.high := h.2.high
theorem ShAt.wet {s : Seg} {o : Nat} {S : Sh} (h : ShAt s o S) {y x : Int} (h1 : 0 ≤ y) (h2 : y < 8) (h3 : 0 ≤ x) (h4 : x < 8) : s.c (o + 2 + y.toNat * 8 + x.toNat) = .int .i16 (S.wet y x) := by
  have := h.2.wet y x h1 h2 h3 h4
  simpa only [Nat.add_assoc] using this
theorem ShAt.dye {s : Seg} {o : Nat} {S : Sh} (h : ShAt s o S) {y x i : Int} (h1 : 0 ≤ y) (h2 : y < 8) (h3 : 0 ≤ x) (h4 : x < 8) (h5 : 0 ≤ i) (h6 : i < 3) :
    s.c (o + 66 + y.toNat * 24 + x.toNat * 3 + i.toNat) = .int .i16 (S.dye y x i) := by
  have := h.2.dye y x i h1 h2 h3 h4 h5 h6
  simpa only [Nat.add_assoc] using this
theorem ShAt.wax {s : Seg} {o : Nat} {S : Sh} (h : ShAt s o S) {y : Int} (h1 : 0 ≤ y) (h2 : y < 8) : s.c (o + 258 + y.toNat) = .int .u8 (S.wax y) := by
  have := h.2.wax y h1 h2
  simpa only [Nat.add_assoc] using this

theorem ShAt.flat {s : Seg} {o : Nat} {S : Sh} (h : ShAt s o S) {z : Nat} (h1 : o ≤ z) (h2 : z < o + 266) : (s.c z).flat := by
  obtain ⟨d, rfl⟩ : ∃ d, z = o + d := ⟨z - o, by omega⟩
  obtain ⟨hl, R, a1, a2, a3, a4, a5⟩ := h
  rcases (by omega : d = 0 ∨ d = 1 ∨ (2 ≤ d ∧ d < 66) ∨ (66 ≤ d ∧ d < 258) ∨ 258 ≤ d) with h | h | h | h | h
  · subst h; rw [show s.c (o + 0) = _ from a1]; trivial
  · subst h; rw [show s.c (o + 1) = _ from a2]; trivial
  · have := a3 (((d - 2) / 8 : Nat) : Int) (((d - 2) % 8 : Nat) : Int) (by omega) (by omega) (by omega) (by omega)
    simp only [Int.toNat_natCast] at this
    rw [show o + d = o + (2 + (d - 2) / 8 * 8 + (d - 2) % 8) by omega, this]; trivial
  · have := a4 (((d - 66) / 24 : Nat) : Int) (((d - 66) % 24 / 3 : Nat) : Int) (((d - 66) % 3 : Nat) : Int) (by omega) (by omega) (by omega) (by omega) (by omega) (by omega)
    simp only [Int.toNat_natCast] at this
    rw [show o + d = o + (66 + (d - 66) / 24 * 24 + (d - 66) % 24 / 3 * 3 + (d - 66) % 3) by omega, this]; trivial
  · have := a5 ((d - 258 : Nat) : Int) (by omega) (by omega)
    simp only [Int.toNat_natCast] at this
    rw [show o + d = o + (258 + (d - 258)) by omega, this]; trivial
theorem ShAt.below {sn : Nat} {c sc : Nat → SV} {r : Bool} {w : Option (Nat × Nat)} {o m : Nat} {S : Sh} (h : ShAt ⟨sn, c, r, w⟩ o S) (ho : ∀ z, z < o ∨ o + 266 ≤ z → c z = sc z) (hl : ∀ z, z < sn → (sc z).lt m) : ∀ z, z < sn → (c z).lt m := by
  intro z hz
  rcases (by omega : (z < o ∨ o + 266 ≤ z) ∨ (o ≤ z ∧ z < o + 266)) with h1 | ⟨h1, h2⟩
  · rw [ho z h1]; exact hl z hz
  · exact (h.flat h1 h2).below m

theorem w64 {n : Int} (h : -9223372036854775808 ≤ n ∧ n < 9223372036854775808) : IntKind.i64.wrap n = n := by rw [IntKind.wrap_i64]; omega
theorem w8 {n : Int} (h : -128 ≤ n ∧ n < 128) : IntKind.i8.wrap n = n := by simp [IntKind.wrap, IntKind.bits, IntKind.signed]; omega
def zeroC (j : Nat) : SV := if j < 2 then .int .i8 0 else if j < 258 then .int .i16 0 else .int .u8 0
@[go_sem] theorem mkAgg_266 (F : Nat → SV) : mkAgg 266 F = .agg 266 F := rfl
theorem SV.flat.one {v : SV} (h : v.flat) : v.one := by cases v <;> first | trivial | exact h.elim
theorem ShF.flat {F : Nat → SV} {S : Sh} (h : ShF F S) {z : Nat} (hz : z < 266) : (F z).flat := by
  have := ShAt.flat (s := ⟨266, F, true, none⟩) (o := 0) (S := S) ⟨by simp, by simpa using h⟩ (Nat.zero_le z) (by simpa using hz)
  exact this
theorem ShF.ones {F : Nat → SV} {S : Sh} (h : ShF F S) : V.ones (.agg 266 F) = True := eq_true fun j hj => (h.flat hj).one

abbrev spot (x y : Int) : SV := .agg 2 (cl [.int .i8 x, .int .i8 y])

/-- Has a sheet a cell? -/
def hasB (S : Sh) (x y : Int) : Bool := ((decide (0 ≤ x) && decide (x < S.wide)) && decide (0 ≤ y)) && decide (y < S.high)
def waxB (S : Sh) (x y : Int) : Bool := decide (bitsI .and .u8 (shrI .u8 (S.wax y) x) 1 = 1)

section
variable (cx : Cx) (h : List (Nat × Seg)) (n : Nat)

/-- The cells of a sheet, row by row. -/
def cellC (W : Nat) : Nat → SV := fun k => if k % 2 = 0 then .int .i8 ((k / 2 % W : Nat) : Int) else .int .i8 ((k / 2 / W : Nat) : Int)
theorem cellC_flat (W k : Nat) : (cellC W k).flat := by unfold cellC; split <;> trivial

theorem cells_E (i o : Nat) (s : Seg) (S : Sh) (W H : Nat) (hs : hget h i = some s) (hi : i < n) (hS : ShAt s o S) (hW : S.wide = W) (hH : S.high = H) (hW8 : W ≤ 8) (hH8 : H ≤ 8) (K : HK)
    (hK : ∀ cap, H * W ≤ cap → cap ≤ maxLen → K (.sl n 0 (H * W) cap) ((n, ⟨H * W * 2, cellC W, true, some (52, cap * 2)⟩) :: h) (n + 1)) :
    CallE Tryd.prog cx 22 [.ptr i o] h n K := by
  have hne : (n == i) = false := by simp; omega
  have hlen := hS.1
  refine callE_of_T (P := Tryd.prog) hti (nt := 30) (rs := [.tmp 2]) rfl rfl Tryd.call22 Tryd.func22 rfl _ (by simp only [go_sem, and_self]) (Nat.le_of_ble_eq_true rfl) _ fun hok => ?_
  simp only [go_sem, Nat.reduceBEq, Nat.reduceLT, Nat.reduceMul, reduceCtorEq, hne, hs, hS.high]
  refine ⟨by omega, ?_⟩
  refine T_lp (ι := { p : Nat × Nat // p.1 ≤ H ∧ p.1 * W ≤ p.2 ∧ p.2 ≤ maxLen })
    (fun p => ([(0, .ptr i o), (3, .sl n 0 (p.1.1 * W) p.1.2), (10, .int .i8 H), (11, .int .i8 p.1.1)], (n, ⟨p.1.1 * W * 2, cellC W, true, some (52, p.1.2 * 2)⟩) :: h, n + 1)) (fun p => H - p.1.1) ⟨(0, 0), by simp⟩ ?_ ?_
  · refine Imp.id (by simp) ?_ ?_
    · simp only [go_sem, Nat.reduceBEq, hH]
      exact ⟨by omega, by simp, by omega⟩
    · refine impH.cons (Nat.lt_succ_self n) (hget_hit _ _ _) (SegLe.flat (by simp) id (.inr (by simp)) fun k hk => by simp at hk) (impH.base hok (by simp) (fun _ _ => rfl) ?_)
      simp only [go_sem, HExt_cons]
  · rintro ⟨⟨y, cap⟩, hy, hcap, hm⟩
    simp only at hy hcap hm
    simp only [go_sem, Nat.reduceBEq, Nat.reduceLT, reduceCtorEq, hne, hs, hS.wide, hW, decide_eq_true_eq, decide_eq_false_iff_not]
    refine ⟨fun h1 => ⟨by omega, ?_⟩, fun h1 => ?_⟩
    · refine T_lp (ι := { p : Nat × Nat // p.1 ≤ W ∧ y * W + p.1 ≤ p.2 ∧ p.2 ≤ maxLen })
        (fun p => ([(0, .ptr i o), (3, .sl n 0 (y * W + p.1.1) p.1.2), (10, .int .i8 H), (11, .int .i8 y), (4, .int .i8 y), (17, .int .i8 W), (18, .int .i8 p.1.1)], (n, ⟨(y * W + p.1.1) * 2, cellC W, true, some (52, p.1.2 * 2)⟩) :: h, n + 1)) (fun p => W - p.1.1) ⟨(0, cap), by simp; omega⟩ ?_ ?_
      · refine Imp.id (by simp) ?_ ?_
        · simp only [go_sem, Nat.reduceBEq]
          omega
        · refine impH.cons (Nat.lt_succ_self n) (hget_hit _ _ _) (SegLe.flat (by simp) id (.inr rfl) fun k hk => ⟨rfl, cellC_flat W k⟩) (impH.base hok (by simp) (fun _ _ => rfl) ?_)
          simp only [go_sem, HExt_cons]
      · rintro ⟨⟨x, cap⟩, hx, hcap, hm⟩
        simp only at hx hcap hm
        simp only [go_sem, Nat.reduceBEq, Nat.reduceLT, Nat.reduceLeDiff, Nat.reduceMul, Nat.reduceSub, Nat.reduceMod, reduceIte, hne, hs, ↓hok.del (Nat.le_refl n), decide_eq_true_eq, decide_eq_false_iff_not]
        have hyW : y * W ≤ 7 * 8 := Nat.mul_le_mul (by omega) hW8
        refine ⟨fun h2 => ⟨⟨by omega, by omega, by omega⟩, fun cap' h3 h4 => ⟨⟨(x + 1, cap'), by omega, h3, h4⟩, (by show W - (x + 1) < W - x; omega), ?_⟩⟩, fun h2 => ?_⟩
        · refine Imp.of1 n (n + 2) (by simp) (by omega) (by simp) ?_ ?_
          · simp only [go_sem, Nat.reduceBEq, hne, w8 (n := (x : Int) + 1) (by omega), Int.natCast_add, Int.natCast_one, Nat.add_assoc]
            omega
          · refine impH.cons1 (hget_hit _ _ _) (Nat.lt_succ_self n) (SegLe.flat (Nat.le_refl _) id (.inr rfl) fun k hk => ⟨?_, cellC_flat W k⟩) (impH.base1 hok (by simp) (Nat.le_refl n) ?_)
            · have hk : k < (y * W + (x + 1)) * 2 := hk
              show both ((y * W + x) * 2) (cellC W) _ k = _
              unfold both news
              split
              · rfl
              · rename_i hk2
                have h5 : (y * W + x) % W = x := by rw [Nat.mul_comm, Nat.mul_add_mod, Nat.mod_eq_of_lt (by omega)]
                have h6 : (y * W + x) / W = y := by rw [Nat.mul_comm, Nat.mul_add_div (by omega), Nat.div_eq_of_lt (by omega), Nat.add_zero]
                rcases (by omega : k = (y * W + x) * 2 ∨ k = (y * W + x) * 2 + 1) with rfl | rfl
                · simp [cellC, h5, cl]
                · have : ((y * W + x) * 2 + 1) / 2 = y * W + x := by omega
                  simp [cellC, this, h6, cl]
            · simp only [go_sem, HExt_cons]
        · refine ⟨⟨(y + 1, cap), by omega, by rw [Nat.succ_mul]; omega, hm⟩, (by show H - (y + 1) < H - y; omega), ?_⟩
          have hx2 : x = W := by omega
          subst hx2
          refine Imp.id (by simp) ?_ ?_
          · simp only [go_sem, Nat.reduceBEq, hne, w8 (n := (y : Int) + 1) (by omega), Int.natCast_add, Int.natCast_one, Nat.succ_mul]
            omega
          · exact impH.cons0 (hget_hit _ _ _) (Nat.lt_succ_self n) (SegLe.flat (by show (y + 1) * x * 2 ≤ _; rw [Nat.succ_mul]; exact Nat.le_refl _) id (.inr rfl) fun k hk => ⟨rfl, cellC_flat x k⟩) (impH.base0 hok (by simp) (by simp only [go_sem, HExt_cons]))
    · have hy2 : y = H := by omega
      subst hy2
      exact hK cap hcap hm
end
end Go.Proofs.YtlkcpmbpfcfeaaaDoor.V

/- Neighbours of a cell: what the program's code shows of them. -/
namespace Go.Proofs.YtlkcpmbpfcfeaaaDoor.V

/-- Cells of a list of spots. -/
def spotsC (L : List (Int × Int)) : Nat → SV := fun k => if k % 2 = 0 then .int .i8 (L.getD (k / 2) (0, 0)).1 else .int .i8 (L.getD (k / 2) (0, 0)).2
theorem spotsC_x (L : List (Int × Int)) (j : Nat) : spotsC L (j * 2) = .int .i8 (L.getD j (0, 0)).1 := by
  unfold spotsC; rw [if_pos (by omega), show j * 2 / 2 = j by omega]
theorem spotsC_y (L : List (Int × Int)) (j : Nat) : spotsC L (j * 2 + 1) = .int .i8 (L.getD j (0, 0)).2 := by
  unfold spotsC; rw [if_neg (by omega), show (j * 2 + 1) / 2 = j by omega]

/-- The spots on the four sides. -/
def besideL (x y : Int) : List (Int × Int) := [(x, IntKind.i8.wrap (y - 1)), (IntKind.i8.wrap (x + 1), y), (x, IntKind.i8.wrap (y + 1)), (IntKind.i8.wrap (x - 1), y)]

section
variable (cx : Cx) (h : List (Nat × Seg)) (n : Nat)

end
end Go.Proofs.YtlkcpmbpfcfeaaaDoor.V

/- Neighbours, giving, running, drying: what the program's code does to a sheet. -/
namespace Go.Proofs.YtlkcpmbpfcfeaaaDoor.V

/-- Sides of a sheet that has no more than 8 by 8 cells. -/
def Small (S : Sh) : Prop := 1 ≤ S.wide ∧ S.wide ≤ 8 ∧ 1 ≤ S.high ∧ S.high ≤ 8
/-- The neighbours of a cell. -/
def nbB (S : Sh) (x y : Int) : Bool := !hasB S x y || waxB S x y
def nb (S : Sh) (x y : Int) : List (Int × Int) := (besideL x y).filter fun a => !nbB S a.1 a.2
section
variable (cx : Cx) (h : List (Nat × Seg)) (n : Nat)

end

/-! ### Changes of a sheet -/
def Sh.setDye (S : Sh) (y x i v : Int) : Sh := { S with dye := fun y' x' i' => if y' = y ∧ x' = x ∧ i' = i then v else S.dye y' x' i' }
def Sh.setWet (S : Sh) (y x v : Int) : Sh := { S with wet := fun y' x' => if y' = y ∧ x' = x then v else S.wet y' x' }
theorem ShAt.setDye {sn : Nat} {c : Nat → SV} {r : Bool} {w : Option (Nat × Nat)} {o : Nat} {S : Sh} (h : ShAt ⟨sn, c, r, w⟩ o S) {y x v : Int} (k : Nat) (h1 : 0 ≤ y) (h2 : y < 8) (h3 : 0 ≤ x) (h4 : x < 8) (h6 : k < 3) (hv : -32768 ≤ v ∧ v < 32768) :
    ShAt ⟨sn, upd c (o + 66 + y.toNat * 24 + x.toNat * 3 + k) (.int .i16 v), r, w⟩ o (S.setDye y x k v) := by
  obtain ⟨hl, ⟨R1, R2, R3, R4, R5⟩, a1, a2, a3, a4, a5⟩ := h
  have ne : ∀ z, o + z ≠ o + 66 + y.toNat * 24 + x.toNat * 3 + k → upd c (o + 66 + y.toNat * 24 + x.toNat * 3 + k) (.int .i16 v) (o + z) = c (o + z) := fun z hz => by simp [upd, hz]
  refine ⟨hl, ⟨R1, R2, R3, fun y' x' i' => ?_, R5⟩, ?_, ?_, fun y' x' b1 b2 b3 b4 => ?_, fun y' x' i' b1 b2 b3 b4 b5 b6 => ?_, fun y' b1 b2 => ?_⟩
  · simp only [Sh.setDye]; split
    · exact hv
    · exact R4 _ _ _
  · exact (ne 0 (by omega)).trans a1
  · exact (ne 1 (by omega)).trans a2
  · exact (ne _ (by omega)).trans (a3 y' x' b1 b2 b3 b4)
  · simp only [Sh.setDye]
    split
    · rename_i he
      obtain ⟨rfl, rfl, rfl⟩ := he
      simp [upd, Nat.add_assoc]
    · rename_i he
      exact (ne _ (by omega)).trans (a4 y' x' i' b1 b2 b3 b4 b5 b6)
  · exact (ne _ (by omega)).trans (a5 y' b1 b2)
theorem ShAt.setWet {sn : Nat} {c : Nat → SV} {r : Bool} {w : Option (Nat × Nat)} {o : Nat} {S : Sh} (h : ShAt ⟨sn, c, r, w⟩ o S) {y x v : Int} (h1 : 0 ≤ y) (h2 : y < 8) (h3 : 0 ≤ x) (h4 : x < 8) (hv : -32768 ≤ v ∧ v < 32768) :
    ShAt ⟨sn, upd c (o + 2 + y.toNat * 8 + x.toNat) (.int .i16 v), r, w⟩ o (S.setWet y x v) := by
  obtain ⟨hl, ⟨R1, R2, R3, R4, R5⟩, a1, a2, a3, a4, a5⟩ := h
  have ne : ∀ z, o + z ≠ o + 2 + y.toNat * 8 + x.toNat → upd c (o + 2 + y.toNat * 8 + x.toNat) (.int .i16 v) (o + z) = c (o + z) := fun z hz => by simp [upd, hz]
  refine ⟨hl, ⟨R1, R2, fun y' x' => ?_, R4, R5⟩, ?_, ?_, fun y' x' b1 b2 b3 b4 => ?_, fun y' x' i' b1 b2 b3 b4 b5 b6 => ?_, fun y' b1 b2 => ?_⟩
  · simp only [Sh.setWet]; split
    · exact hv
    · exact R3 _ _
  · exact (ne 0 (by omega)).trans a1
  · exact (ne 1 (by omega)).trans a2
  · simp only [Sh.setWet]
    split
    · rename_i he
      obtain ⟨rfl, rfl⟩ := he
      simp [upd, Nat.add_assoc]
    · rename_i he
      exact (ne _ (by omega)).trans (a3 y' x' b1 b2 b3 b4)
  · exact (ne _ (by omega)).trans (a4 y' x' i' b1 b2 b3 b4 b5 b6)
  · exact (ne _ (by omega)).trans (a5 y' b1 b2)

section
variable (cx : Cx) (h : List (Nat × Seg)) (n : Nat)

end
end Go.Proofs.YtlkcpmbpfcfeaaaDoor.V

/- The law's copies of arrays: the walk. -/
namespace Go.Proofs.YtlkcpmbpfcfeaaaDoor.V

@[go_sem] theorem mkAgg_8 (F : Nat → SV) : mkAgg 8 F = .agg 8 F := rfl
@[go_sem] theorem mkAgg_24 (F : Nat → SV) : mkAgg 24 F = .agg 24 F := rfl
@[go_sem] theorem mkAgg_64 (F : Nat → SV) : mkAgg 64 F = .agg 64 F := rfl
@[go_sem] theorem mkAgg_192 (F : Nat → SV) : mkAgg 192 F = .agg 192 F := rfl
/-- Cells all plain. -/
def Flat (k : Nat) (F : Nat → SV) : Prop := ∀ j, j < k → (F j).flat
theorem Flat.ones {k : Nat} {F : Nat → SV} (h : Flat k F) : V.ones (.agg k F) = True := eq_true fun j hj => (h j hj).one

section
variable (cx : Cx) (h : List (Nat × Seg)) (n : Nat)

end
end Go.Proofs.YtlkcpmbpfcfeaaaDoor.V

/- The law's copies of nested arrays: the walk. -/
namespace Go.Proofs.YtlkcpmbpfcfeaaaDoor.V
section
variable (cx : Cx) (h : List (Nat × Seg)) (n : Nat)

end
end Go.Proofs.YtlkcpmbpfcfeaaaDoor.V

/- Plain laws of sheets: what a unit given, a round run or dried, leaves. -/
namespace Go.Proofs.YtlkcpmbpfcfeaaaDoor.V

/-- Water and dye are within their bounds. -/
structure Good (S : Sh) : Prop where
  small : Small S
  wet : ∀ y x : Int, 0 ≤ y → y < 8 → 0 ≤ x → x < 8 → 0 ≤ S.wet y x ∧ S.wet y x ≤ 200
  dye : ∀ y x i : Int, 0 ≤ y → y < 8 → 0 ≤ x → x < 8 → 0 ≤ i → i < 3 → 0 ≤ S.dye y x i ∧ S.dye y x i ≤ 1000

section
variable {S : Sh} {w fx fy tx ty : Int} (hw : 0 < w) (hfx : 0 ≤ fx) (hfx8 : fx < 8) (hfy : 0 ≤ fy) (hfy8 : fy < 8) (htx : 0 ≤ tx) (htx8 : tx < 8) (hty : 0 ≤ ty) (hty8 : ty < 8) (hne : ¬ (ty = fy ∧ tx = fx))

end

/-- Sides and wax are the same. -/
structure Alike' (S S' : Sh) : Prop where
  wide : S'.wide = S.wide
  high : S'.high = S.high
  wax : S'.wax = S.wax
theorem Alike'.refl (S : Sh) : Alike' S S := ⟨rfl, rfl, rfl⟩
theorem Alike'.trans {A B C : Sh} (h : Alike' A B) (k : Alike' B C) : Alike' A C := ⟨k.wide.trans h.wide, k.high.trans h.high, k.wax.trans h.wax⟩
theorem Alike'.hasB {S S' : Sh} (h : Alike' S S') (x y : Int) : V.hasB S' x y = V.hasB S x y := by simp [V.hasB, h.wide, h.high]
theorem Alike'.waxB {S S' : Sh} (h : Alike' S S') (x y : Int) : V.waxB S' x y = V.waxB S x y := by simp [V.waxB, h.wax]
theorem Alike'.nb {S S' : Sh} (h : Alike' S S') (x y : Int) : V.nb S' x y = V.nb S x y := by
  simp only [V.nb, V.nbB, h.hasB, h.waxB]

section
variable {S : Sh} {fx fy tx ty : Int} (hG : Good S) (hfx : 0 ≤ fx) (hfx8 : fx < 8) (hfy : 0 ≤ fy) (hfy8 : fy < 8) (htx : 0 ≤ tx) (htx8 : tx < 8) (hty : 0 ≤ ty) (hty8 : ty < 8) (h2 : 2 ≤ S.wet fy fx - S.wet ty tx)
include hG hfx hfx8 hfy hfy8 htx htx8 hty hty8 h2

end

end Go.Proofs.YtlkcpmbpfcfeaaaDoor.V

/- Running and drying: the walk. -/
namespace Go.Proofs.YtlkcpmbpfcfeaaaDoor.V

theorem cellC_x (W j : Nat) : cellC W (j * 2) = .int .i8 ((j % W : Nat) : Int) := by unfold cellC; rw [if_pos (by omega), show j * 2 / 2 = j by omega]
theorem cellC_y (W j : Nat) : cellC W (j * 2 + 1) = .int .i8 ((j / W : Nat) : Int) := by unfold cellC; rw [if_neg (by omega), show (j * 2 + 1) / 2 = j by omega]
section
variable (cx : Cx) (h : List (Nat × Seg)) (n : Nat)

end
end Go.Proofs.YtlkcpmbpfcfeaaaDoor.V

/- Plain laws of drying. -/
namespace Go.Proofs.YtlkcpmbpfcfeaaaDoor.V

/-- Cells before number j. -/
def before (W j : Nat) (y x : Int) : Prop := ∃ k, k < j ∧ y = ((k / W : Nat) : Int) ∧ x = ((k % W : Nat) : Int)
end Go.Proofs.YtlkcpmbpfcfeaaaDoor.V

/- Validity of a sheet, its water: the walk of the program's own. -/
namespace Go.Proofs.YtlkcpmbpfcfeaaaDoor.V

section
variable (cx : Cx) (h : List (Nat × Seg)) (n : Nat)

theorem within_Q (a lo hi : Int) : CallQ Tryd.prog cx 20 [.int .i64 a, .int .i64 lo, .int .i64 hi] h n (.bool (decide (lo ≤ a ∧ a ≤ hi))) := by
  refine callQ_of_T (P := Tryd.prog) hti (nt := 15) (rs := [.tmp 6]) rfl rfl Tryd.call20 Tryd.func20 rfl _ (by simp only [go_sem, and_self]) (Nat.le_of_ble_eq_true rfl) _ (by first | exact trivial | (refine lt_flat rfl ?_; simp [SV.flat]; done) | simp only [go_sem]) fun hok => ?_
  simp only [go_sem, Nat.reduceBEq, Nat.reduceLT, HExt_cons, SV.bool.injEq, decide_eq_true_eq, decide_eq_false_iff_not]
  constructor <;> intro h1 <;> simp [h1]
end
end Go.Proofs.YtlkcpmbpfcfeaaaDoor.V

/- The reference's small functions of sheets. -/
namespace Go.Proofs.YtlkcpmbpfcfeaaaDoor.V

section
variable (cx : Cx) (h : List (Nat × Seg)) (n : Nat)

end
end Go.Proofs.YtlkcpmbpfcfeaaaDoor.V

/- Plain laws: lists of spots, sorted, each one once. -/
namespace Go.Proofs.YtlkcpmbpfcfeaaaDoor.V

end Go.Proofs.YtlkcpmbpfcfeaaaDoor.V

/- Plain laws of water: running keeps it, drying lessens it. -/
namespace Go.Proofs.YtlkcpmbpfcfeaaaDoor.V

end Go.Proofs.YtlkcpmbpfcfeaaaDoor.V

/- The reference's neighbours, giving, running, drying: the walk. -/
namespace Go.Proofs.YtlkcpmbpfcfeaaaDoor.V

section
variable (cx : Cx) (h : List (Nat × Seg)) (n : Nat)

end
end Go.Proofs.YtlkcpmbpfcfeaaaDoor.V

/- Cells that hold spots. -/
namespace Go.Proofs.YtlkcpmbpfcfeaaaDoor.V
/-- Cells that hold spots. -/
def SpsAt (s : Seg) (L : List (Int × Int)) : Prop := L.length * 2 ≤ s.n ∧ ∀ k, k < L.length * 2 → s.c k = spotsC L k
theorem SpsAt.x {s : Seg} {L : List (Int × Int)} (h : SpsAt s L) {j : Nat} (hj : j < L.length) : s.c (j * 2) = .int .i8 (L.getD j (0, 0)).1 := by rw [h.2 _ (by omega), spotsC_x]
theorem SpsAt.y {s : Seg} {L : List (Int × Int)} (h : SpsAt s L) {j : Nat} (hj : j < L.length) : s.c (j * 2 + 1) = .int .i8 (L.getD j (0, 0)).2 := by rw [h.2 _ (by omega), spotsC_y]

end Go.Proofs.YtlkcpmbpfcfeaaaDoor.V
