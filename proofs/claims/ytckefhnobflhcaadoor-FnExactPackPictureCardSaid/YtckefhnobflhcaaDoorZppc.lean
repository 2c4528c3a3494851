/- Part 3 of the texts that this proof stands on: a symbolic walk over the program, what its functions and the reference's do, plain laws. -/
import Derived.Test.YtckefhnobflhcaaDoorZppa
import Derived.Test.YtckefhnobflhcaaDoorV17
import Derived.Test.YtckefhnobflhcaaDoorZppb
set_option linter.all false

/- Comparing spots; the library's small functions. -/
namespace Go.Proofs.YtckefhnobflhcaaDoor.V
section
variable (cx : Cx) (h : List (Nat × Seg)) (n : Nat)
end
end Go.Proofs.YtckefhnobflhcaaDoor.V

/- The library's insertion sort over spots. -/
namespace Go.Proofs.YtckefhnobflhcaaDoor.V
open Go.Sort (swp insInner insOuter insertionSort)

section
variable (cx : Cx) (h : List (Nat × Seg)) (n : Nat)
end
end Go.Proofs.YtckefhnobflhcaaDoor.V

/- Sets of few cells: the program's own walk. -/
namespace Go.Proofs.YtckefhnobflhcaaDoor.V
section
variable (cx : Cx) (h : List (Nat × Seg)) (n : Nat)
end
end Go.Proofs.YtckefhnobflhcaaDoor.V

/- Pictures: validity, covered cells: the program's own walk. -/
namespace Go.Proofs.YtckefhnobflhcaaDoor.V
theorem pcC_ofNat (P : Pc) (y x : Nat) (hy : y < 8) (hx : x < 8) : pcC P (2 + y * 8 + x) = .int .u8 (P.ink y x) := by
  have := pcC_ink P (y : Int) (x : Int) (by omega) (by omega) (by omega) (by omega)
  simpa using this
section
variable (cx : Cx) (h : List (Nat × Seg)) (n : Nat)
theorem sheet_E (i : Nat) (P : Pc) (hs : hget h i = some (pcS P)) (hi : i < n) (K : HK) (hK : K (.ptr n 0) ((n, shS (psh P)) :: h) (n + 1)) :
    CallE Tryd.prog cx 68 [.ptr i 0] h n K := by
  refine callE_of_T (P := Tryd.prog) hti (nt := 13) (rs := [.tmp 2]) rfl rfl Tryd.call68 Tryd.func68 rfl _ (by simp only [go_sem, and_self]) (Nat.le_of_ble_eq_true rfl) _ fun hok => ?_
  simp only [go_sem, Nat.reduceLT]
  refine T_drawG hti 11 [] (.b 0 0 (.b 0 1 (.b 0 2 (.b 0 3 (.b 0 4 (.b 0 5 (.b 0 6 (.b 0 7 (.b 0 8 (.b 2 9 (.b 0 10 (.f) .o) .o) .o) .o) .o) .o) .o) .o) .o) .o) .o) _ _ (by kernel_rfl) (by kernel_rfl) ?_
  simp only [go_sem, Nat.reduceLT, Nat.reduceLeDiff, reduceCtorEq, hs, hi]
  exact hK
theorem validPc_Q (P : Pc) (hR : PcR P) : CallQ Tryd.prog cx 53 [.agg 66 (pcC P)] h n (.bool (pcokB P)) := by
  have wW := w64 (n := P.wide) (by have := hR.wide; omega)
  have wH := w64 (n := P.high) (by have := hR.high; omega)
  have bad : ∀ y x : Int, 0 ≤ y → y < 8 → 0 ≤ x → x < 8 → ¬ (P.ink y x ≤ 3 ∧ (0 < P.ink y x → x < P.wide ∧ y < P.high)) → pcokB P = false := fun y x a b c d hn => pcokB_f fun hk => hn (hk.2 y x a b c d)
  refine callQ_of_T (P := Tryd.prog) hti (nt := 52) (rs := [.tmp 2]) rfl rfl Tryd.call53 Tryd.func53 rfl _ (by simp only [go_sem, and_self]) (Nat.le_of_ble_eq_true rfl) _ (by first | exact trivial | (refine lt_flat rfl ?_; simp [SV.flat]; done) | simp only [go_sem]) fun hok => ?_
  simp only [go_sem, Nat.reduceLT, Nat.reduceLeDiff, reduceCtorEq, wW, wH]
  refine (within_Q _ _ _ P.wide 1 8).A ?_
  by_cases hw : 1 ≤ P.wide ∧ P.wide ≤ 8
  rotate_left
  · simp only [go_sem, Nat.reduceLT, hw]
    rw [pcokB_f fun hv => hw ⟨hv.1.1, hv.1.2.1⟩]
  simp only [go_sem, Nat.reduceLT, Nat.reduceLeDiff, reduceCtorEq, wW, wH, hw]
  refine (within_Q _ _ _ P.high 1 8).A ?_
  by_cases hh : 1 ≤ P.high ∧ P.high ≤ 8
  rotate_left
  · simp only [go_sem, Nat.reduceLT, hh]
    rw [pcokB_f fun hv => hh ⟨hv.1.2.2.1, hv.1.2.2.2⟩]
  simp only [go_sem, Nat.reduceLT, Nat.reduceAdd, reduceCtorEq, hh]
  have ok1 : ∀ (t20 : Nat → SV), (SV.agg 64 fun j => pcC P (2 + j)).lt (n + 1) = True := fun _ => eq_true (lt_aggF fun j _ => pcC_flat P _)
  have lt20 := ok1 fun _ => .bad
  refine T_lp (ι := { y : Nat // y ≤ 8 ∧ ∀ y' x' : Int, 0 ≤ y' → y' < y → 0 ≤ x' → x' < 8 → P.ink y' x' ≤ 3 ∧ (0 < P.ink y' x' → x' < P.wide ∧ y' < P.high) })
    (fun y => ([(1, .ptr n 0), (20, .agg 64 fun j => pcC P (2 + j)), (21, .int .i64 y.1)], (n, ⟨66, pcC P, true, none⟩) :: h, n + 1)) (fun y => 8 - y.1) ⟨0, by omega, fun _ _ _ _ => by omega⟩ ?_ ?_
  · refine Imp.id (by simp) ?_ ?_
    · simp only [go_sem, Nat.reduceLT, lt20]
      omega
    · refine impH.cons0 (hget_hit _ _ _) (by simp) (SegLe.flat (Nat.le_refl _) id (.inr rfl) fun z hz => ⟨rfl, pcC_flat _ _⟩) (impH.base0 hok (by simp) (HExt.rfl.cons (Nat.le_refl n)))
  · rintro ⟨y, hy, hall⟩
    simp only [go_sem, Nat.reduceLT, Nat.reduceLeDiff, Nat.reduceEqDiff, reduceIte, decide_eq_true_eq, decide_eq_false_iff_not]
    refine ⟨fun h1 => ?_, fun h1 => ?_⟩
    rotate_left
    · have hy8 : y = 8 := by omega
      subst hy8
      rw [pcokB_t ⟨⟨hw.1, hw.2, hh.1, hh.2⟩, fun y x a b c d => hall y x a b c d⟩]
    have ry : (0 : Int) ≤ y ∧ (y : Int) < 8 := ⟨by omega, h1⟩
    have by1 : y * 8 + 8 ≤ 64 := by omega
    have lt25 : (SV.agg 8 fun j => pcC P (2 + (y * 8 + j))).lt (n + 1) = True := eq_true (lt_aggF fun j _ => pcC_flat P _)
    have on25 : ones (.agg 8 fun j => pcC P (2 + (y * 8 + j))) = True := eq_true fun j _ => (pcC_flat P _).one
    have by2 : y * 8 ≤ 56 := by omega
    simp only [go_sem, ry, by1, by2, on25]
    refine T_lp (ι := { x : Nat // x ≤ 8 ∧ ∀ x' : Int, 0 ≤ x' → x' < x → P.ink y x' ≤ 3 ∧ (0 < P.ink y x' → x' < P.wide ∧ (y : Int) < P.high) })
      (fun x => ([(1, .ptr n 0), (3, .int .i64 y), (20, .agg 64 fun j => pcC P (2 + j)), (21, .int .i64 y), (25, .agg 8 fun j => pcC P (2 + (y * 8 + j))), (26, .int .i64 x.1)], (n, ⟨66, pcC P, true, none⟩) :: h, n + 1)) (fun x => 8 - x.1) ⟨0, by omega, fun _ _ _ => by omega⟩ ?_ ?_
    · refine Imp.id (by simp) ?_ ?_
      · simp only [go_sem, Nat.reduceLT, lt20, lt25]
        omega
      · refine impH.cons0 (by simp only [go_sem]) (by simp) (SegLe.flat (Nat.le_refl _) id (.inr rfl) fun z hz => ⟨rfl, pcC_flat _ _⟩) (impH.base0 hok (by simp) (by simp only [go_sem, HExt_cons]))
    · rintro ⟨x, hx, hax⟩
      simp only [go_sem, Nat.reduceLT, decide_eq_true_eq, decide_eq_false_iff_not]
      refine ⟨fun h2 => ?_, fun h2 => ?_⟩
      rotate_left
      · have hx8 : x = 8 := by omega
        subst hx8
        refine ⟨⟨y + 1, by omega, fun y' x' a b c d => ?_⟩, by show 8 - (y + 1) < 8 - y; omega, ?_⟩
        · rcases (by omega : y' < y ∨ y' = y) with e | rfl
          · exact hall y' x' a e c d
          · exact hax x' c d
        · refine Imp.id (by simp) ?_ ?_
          · simp only [go_sem, Nat.reduceLT, lt20, w64 (n := (y : Int) + 1) (by omega), Int.natCast_add, Int.natCast_one]
            omega
          · refine impH.cons0 (by simp only [go_sem]) (by simp) (SegLe.flat (Nat.le_refl _) id (.inr rfl) fun z hz => ⟨rfl, pcC_flat _ _⟩) (impH.base0 hok (by simp) (by simp only [go_sem, HExt_cons]))
      have rx : (0 : Int) ≤ x ∧ (x : Int) < 8 := ⟨by omega, h2⟩
      have hv : pcC P (2 + (y * 8 + x)) = .int .u8 (P.ink y x) := by
        rw [← Nat.add_assoc]; exact pcC_ofNat P y x (by omega) (by omega)
      have next : (P.ink y x ≤ 3 ∧ (0 < P.ink y x → (x : Int) < P.wide ∧ (y : Int) < P.high)) → ∀ x' : Int, 0 ≤ x' → x' < ((x + 1 : Nat) : Int) → P.ink y x' ≤ 3 ∧ (0 < P.ink y x' → x' < P.wide ∧ (y : Int) < P.high) := fun hc x' a b => by
        rcases (by omega : x' < x ∨ x' = x) with e | rfl
        · exact hax x' a e
        · exact hc
      have w1 := w8 (n := (x : Int)) (by omega)
      have w2 := w8 (n := (y : Int)) (by omega)
      have bd := bad y x (by omega) (by omega) (by omega) (by omega)
      have bx : (x < 8) = True := eq_true (by omega)
      by_cases i3 : 3 < P.ink y x
      · simp only [go_sem, Nat.reduceLT, rx, bx, hv, i3]
        rw [bd (by omega)]
      by_cases i0 : 0 < P.ink y x
      · by_cases iw : P.wide ≤ x
        · simp only [go_sem, Nat.reduceLT, Nat.reduceLeDiff, reduceCtorEq, rx, bx, hv, i3, i0, w1, iw]
          rw [bd (by omega)]
        by_cases ih : P.high ≤ y
        · simp only [go_sem, Nat.reduceLT, Nat.reduceLeDiff, reduceCtorEq, rx, bx, hv, i3, i0, w1, w2, iw, ih]
          rw [bd (by omega)]
        simp only [go_sem, Nat.reduceLT, Nat.reduceLeDiff, reduceCtorEq, rx, bx, hv, i3, i0, w1, w2, iw, ih]
        refine ⟨⟨x + 1, by omega, next (by omega)⟩, by show 8 - (x + 1) < 8 - x; omega, ?_⟩
        refine Imp.id (by simp) ?_ ?_
        · simp only [go_sem, Nat.reduceLT, lt20, lt25, w64 (n := (x : Int) + 1) (by omega), Int.natCast_add, Int.natCast_one]
          omega
        · refine impH.cons0 (by simp only [go_sem]) (by simp) (SegLe.flat (Nat.le_refl _) id (.inr rfl) fun z hz => ⟨rfl, pcC_flat _ _⟩) (impH.base0 hok (by simp) (by simp only [go_sem, HExt_cons]))
      · simp only [go_sem, Nat.reduceLT, rx, bx, hv, i3, i0]
        refine ⟨⟨x + 1, by omega, next (by omega)⟩, by show 8 - (x + 1) < 8 - x; omega, ?_⟩
        refine Imp.id (by simp) ?_ ?_
        · simp only [go_sem, Nat.reduceLT, lt20, lt25, w64 (n := (x : Int) + 1) (by omega), Int.natCast_add, Int.natCast_one]
          omega
        · refine impH.cons0 (by simp only [go_sem]) (by simp) (SegLe.flat (Nat.le_refl _) id (.inr rfl) fun z hz => ⟨rfl, pcC_flat _ _⟩) (impH.base0 hok (by simp) (by simp only [go_sem, HExt_cons]))
noncomputable def codePc (P : Pc) (b : Bool) : Int := if pcokB P then (if b then 0 else 2) else 1
theorem codePc_Q (i : Nat) (P : Pc) (hs : hget h i = some (pcS P)) (hi : i < n) (hR : PcR P) (b : Bool) : CallQ Tryd.prog cx 27 [.ptr i 0, .bool b] h n (.int .i64 (codePc P b)) := by
  refine callQ_of_T (P := Tryd.prog) hti (nt := 14) (rs := [.tmp 4]) rfl rfl Tryd.call27 Tryd.func27 rfl _ (by simp only [go_sem, and_self]) (Nat.le_of_ble_eq_true rfl) _ (by first | exact trivial | (refine lt_flat rfl ?_; simp [SV.flat]; done) | simp only [go_sem]) fun hok => ?_
  simp only [go_sem, Nat.reduceLT, hs, hi]
  refine (validPc_Q _ _ _ P hR).A ?_
  unfold codePc
  by_cases hk : pcokB P = true
  · cases b <;> simp only [go_sem, Nat.reduceLT, reduceIte, hk]
  · simp only [go_sem, Nat.reduceLT, reduceIte, hk]
end
end Go.Proofs.YtckefhnobflhcaaDoor.V

/- Pictures: validity, covered cells: the reference's walk. -/
namespace Go.Proofs.YtckefhnobflhcaaDoor.V
section
variable (cx : Cx) (h : List (Nat × Seg)) (n : Nat)
theorem is7_Q (i : Nat) (P : Pc) (x y : Int) (hs : hget h i = some (pcS P)) (hi : i < n) (hR : PcR P) (hx : -128 ≤ x ∧ x < 128) (hy : -128 ≤ y ∧ y < 128) :
    CallQ Tryd.prog cx 49 [.ptr i 0, spot x y] h n (.bool (hasB (psh P) x y)) := by
  have wW := hR.wide; have wH := hR.high
  have e : hasB (psh P) x y = (decide (0 ≤ x ∧ x ≤ P.wide - 1) && decide (0 ≤ y ∧ y ≤ P.high - 1)) := by
    rw [psh_has, Bool.eq_iff_iff]
    simp only [Bool.and_eq_true, decide_eq_true_eq]
    omega
  rw [e]
  refine callQ_of_T (P := Tryd.prog) hti (nt := 27) (rs := [.tmp 4]) rfl rfl Tryd.call49 Tryd.func49 rfl _ (by simp only [go_sem, and_self]) (Nat.le_of_ble_eq_true rfl) _ (by first | exact trivial | (refine lt_flat rfl ?_; simp [SV.flat]; done) | simp only [go_sem]) fun hok => ?_
  simp only [go_sem, Nat.reduceLT]
  refine T_draw hti _ _ (by kernel_rfl) (by kernel_rfl) ?_
  simp only [go_sem, Nat.reduceLT, Nat.reduceLeDiff, reduceCtorEq, hs, hi, w64 (n := x) (by omega), w64 (n := P.wide) (by omega), w64 (n := P.wide - 1) (by omega)]
  refine (in_Q _ _ _ _ _ _).A ?_
  by_cases h1 : 0 ≤ x ∧ x ≤ P.wide - 1
  · simp only [go_sem, Nat.reduceLT, Nat.reduceLeDiff, reduceCtorEq, h1, hs, hi, w64 (n := y) (by omega), w64 (n := P.high) (by omega), w64 (n := P.high - 1) (by omega)]
    refine (in_Q _ _ _ _ _ _).A ?_
    simp only [go_sem, Nat.reduceLT]
  · simp only [go_sem, Nat.reduceLT, h1]
theorem ok7_Q (i : Nat) (P : Pc) (hs : hget h i = some (pcS P)) (hi : i < n) (hR : PcR P) : CallQ Tryd.prog cx 24 [.ptr i 0] h n (.bool (pcokB P)) := by
  have wW := w64 (n := P.wide) (by have := hR.wide; omega)
  have wH := w64 (n := P.high) (by have := hR.high; omega)
  have bad : ∀ y x : Int, 0 ≤ y → y < 8 → 0 ≤ x → x < 8 → ¬ (P.ink y x ≤ 3 ∧ (0 < P.ink y x → x < P.wide ∧ y < P.high)) → pcokB P = false := fun y x a b c d hn => pcokB_f fun hk => hn (hk.2 y x a b c d)
  refine callQ_of_T (P := Tryd.prog) hti (nt := 57) (rs := [.tmp 2]) rfl rfl Tryd.call24 Tryd.func24 rfl _ (by simp only [go_sem, and_self]) (Nat.le_of_ble_eq_true rfl) _ (by first | exact trivial | (refine lt_flat rfl ?_; simp [SV.flat]; done) | simp only [go_sem]) fun hok => ?_
  simp only [go_sem, Nat.reduceLT, Nat.reduceLeDiff, reduceCtorEq, hs, hi, wW, wH]
  refine (in_Q _ _ _ P.wide 1 8).A ?_
  by_cases hw : 1 ≤ P.wide ∧ P.wide ≤ 8
  rotate_left
  · simp only [go_sem, Nat.reduceLT, hw]
    rw [pcokB_f fun hv => hw ⟨hv.1.1, hv.1.2.1⟩]
  simp only [go_sem, Nat.reduceLT, Nat.reduceLeDiff, reduceCtorEq, hs, hi, wW, wH, hw]
  refine (in_Q _ _ _ P.high 1 8).A ?_
  by_cases hh : 1 ≤ P.high ∧ P.high ≤ 8
  rotate_left
  · simp only [go_sem, Nat.reduceLT, hh]
    rw [pcokB_f fun hv => hh ⟨hv.1.2.2.1, hv.1.2.2.2⟩]
  simp only [go_sem, Nat.reduceLT, hh]
  refine T_lp (ι := { y : Nat // y ≤ 8 ∧ ∀ y' x' : Int, 0 ≤ y' → y' < y → 0 ≤ x' → x' < 8 → P.ink y' x' ≤ 3 ∧ (0 < P.ink y' x' → x' < P.wide ∧ y' < P.high) })
    (fun y => ([(0, .ptr i 0), (3, .int .i8 y.1)], h, n)) (fun y => 8 - y.1) ⟨0, by omega, fun _ _ _ _ => by omega⟩ ?_ ?_
  · refine Imp.id (by simp) ?_ (impH.base0 hok (by simp) HExt.rfl)
    simp only [go_sem, Nat.reduceLT]
    exact hi
  · rintro ⟨y, hy, hall⟩
    simp only [go_sem, Nat.reduceLT, decide_eq_true_eq, decide_eq_false_iff_not]
    refine ⟨fun h1 => ?_, fun h1 => ?_⟩
    rotate_left
    · have hy8 : y = 8 := by omega
      subst hy8
      rw [pcokB_t ⟨⟨hw.1, hw.2, hh.1, hh.2⟩, fun y x a b c d => hall y x a b c d⟩]
    refine T_lp (ι := { x : Nat // x ≤ 8 ∧ ∀ x' : Int, 0 ≤ x' → x' < x → P.ink y x' ≤ 3 ∧ (0 < P.ink y x' → x' < P.wide ∧ (y : Int) < P.high) })
      (fun x => ([(0, .ptr i 0), (3, .int .i8 y), (4, .int .i8 x.1)], h, n)) (fun x => 8 - x.1) ⟨0, by omega, fun _ _ _ => by omega⟩ ?_ ?_
    · refine Imp.id (by simp) ?_ (impH.base0 hok (by simp) HExt.rfl)
      simp only [go_sem, Nat.reduceLT]
      exact hi
    · rintro ⟨x, hx, hax⟩
      simp only [go_sem, Nat.reduceLT, reduceCtorEq, decide_eq_true_eq, decide_eq_false_iff_not]
      refine ⟨fun h2 => ?_, fun h2 => ?_⟩
      rotate_left
      · have hx8 : x = 8 := by omega
        subst hx8
        refine ⟨⟨y + 1, by omega, fun y' x' a b c d => ?_⟩, by show 8 - (y + 1) < 8 - y; omega, ?_⟩
        · rcases (by omega : y' < y ∨ y' = y) with e | rfl
          · exact hall y' x' a e c d
          · exact hax x' c d
        · refine Imp.id (by simp) ?_ (impH.base0 hok (by simp) HExt.rfl)
          simp only [go_sem, Nat.reduceLT, w8 (n := (y : Int) + 1) (by omega), Int.natCast_add, Int.natCast_one]
          exact hi
      have next : (P.ink y x ≤ 3 ∧ (0 < P.ink y x → (x : Int) < P.wide ∧ (y : Int) < P.high)) → ∀ x' : Int, 0 ≤ x' → x' < ((x + 1 : Nat) : Int) → P.ink y x' ≤ 3 ∧ (0 < P.ink y x' → x' < P.wide ∧ (y : Int) < P.high) := fun hc x' a b => by
        rcases (by omega : x' < x ∨ x' = x) with e | rfl
        · exact hax x' a e
        · exact hc
      have ry : (0 : Int) ≤ y ∧ (y : Int) < 8 := ⟨by omega, h1⟩
      have rx : (0 : Int) ≤ x ∧ (x : Int) < 8 := ⟨by omega, h2⟩
      have bd := bad y x (by omega) (by omega) (by omega) (by omega)
      have hv := pcC_ofNat P y x (by omega) (by omega)
      have c1 : 2 + y * 8 + x ≤ 65 := by omega
      have c2 : 2 + y * 8 + x + 1 ≤ 66 := by omega
      by_cases i3 : 3 < P.ink y x
      · simp only [go_sem, Nat.reduceLT, hs, hi, rx, ry, hv, c1, c2, i3]
        rw [bd (by omega)]
      by_cases i0 : 0 < P.ink y x
      · simp only [go_sem, Nat.reduceLT, Nat.reduceLeDiff, reduceCtorEq, hs, hi, rx, ry, hv, c1, c2, i3, i0]
        refine (is7_Q _ _ _ i P x y (by simp only [go_sem, hs, hi]) (by omega) hR (by omega) (by omega)).A ?_
        by_cases hb : hasB (psh P) x y = true
        · have hb' := hb
          simp only [psh_has, Bool.and_eq_true, decide_eq_true_eq] at hb'
          simp only [go_sem, Nat.reduceLT, hb]
          refine ⟨⟨x + 1, by omega, next (by omega)⟩, by show 8 - (x + 1) < 8 - x; omega, ?_⟩
          refine Imp.id (by simp) ?_ (impH.base0 hok (by simp) HExt.rfl)
          simp only [go_sem, Nat.reduceLT, w8 (n := (x : Int) + 1) (by omega), Int.natCast_add, Int.natCast_one]
          exact hi
        · have hb' := hb
          simp only [psh_has, Bool.and_eq_true, decide_eq_true_eq] at hb'
          simp only [go_sem, Nat.reduceLT, hb]
          rw [bd (by omega)]
      · simp only [go_sem, Nat.reduceLT, reduceCtorEq, hs, hi, rx, ry, hv, c1, c2, i3, i0]
        refine ⟨⟨x + 1, by omega, next (by omega)⟩, by show 8 - (x + 1) < 8 - x; omega, ?_⟩
        refine Imp.id (by simp) ?_ (impH.base0 hok (by simp) HExt.rfl)
        simp only [go_sem, Nat.reduceLT, w8 (n := (x : Int) + 1) (by omega), Int.natCast_add, Int.natCast_one]
        exact hi
end
end Go.Proofs.YtckefhnobflhcaaDoor.V

/- The law's spots, and lists of spots that are alike. -/
namespace Go.Proofs.YtckefhnobflhcaaDoor.V
section
variable (cx : Cx) (h : List (Nat × Seg)) (n : Nat)
end
end Go.Proofs.YtckefhnobflhcaaDoor.V

/- The law's pictures and drops: copied, compared. -/
namespace Go.Proofs.YtckefhnobflhcaaDoor.V
section
variable (cx : Cx) (h : List (Nat × Seg)) (n : Nat)
theorem toByteA8A8_E (F : Nat → SV) (hF : ∀ j, j < 64 → ∃ v, F j = .int .u8 v) (K : HK) (hK : ∀ F', (∀ j, j < 64 → F' j = F j) → K (.agg 64 F') h n) : CallE Tryd.prog cx 26 [.agg 64 F] h n K := by
  have hfl : Flat 64 F := fun j hj => by obtain ⟨v, hv⟩ := hF j hj; rw [hv]; trivial
  refine CallE.imp0 (K := fun r h' n' => n ≤ n' ∧ HExt n h h' ∧ ∃ F', (∀ j, j < 64 → F' j = F j) ∧ r = .agg 64 F') ?_ ?_
  rotate_left
  · rintro hok r h' n' ⟨h0, hx, F', hF', rfl⟩
    exact ⟨.agg 64 F', h, n, Nat.le_refl _, by simp only [ren_nil], lt_aggF fun j hj => by rw [hF' j hj]; exact hfl j hj, impH.base0 hok (Nat.le_refl n) hx, hK F' hF'⟩
  refine callE_of_T (P := Tryd.prog) hti (nt := 16) (rs := [.cell 2 36]) rfl rfl Tryd.call26 Tryd.func26 rfl _ (by simp only [go_sem, and_self]) (Nat.le_of_ble_eq_true rfl) _ fun hok => ?_
  simp only [go_sem, Nat.reduceLT, Nat.reduceEqDiff, reduceIte]
  refine T_lp (ι := { q : Nat × (Nat → SV) // q.1 ≤ 8 ∧ (∀ j, j < q.1 * 8 → q.2 j = F j) ∧ Flat 64 q.2 })
    (fun q => ([(1, .ptr n 0), (2, .ptr (n + 1) 0), (3, .ptr (n + 2) 0), (4, .int .i64 q.1.1)], (n + 2, ⟨64, q.1.2, true, none⟩) :: (n + 1, ⟨64, (ti 36).z, true, none⟩) :: (n, ⟨64, F, true, none⟩) :: h, n + 3)) (fun q => 8 - q.1.1) ⟨(0, (ti 36).z), by omega, fun _ hj => by omega, fun _ _ => trivial⟩ ?_ ?_
  · refine Imp.id (by simp) ?_ ?_
    · simp only [go_sem, Nat.reduceLT]
      omega
    · exact impH.cons0 (hget_hit _ _ _) (by simp) (SegLe.flat (Nat.le_refl _) id (.inr rfl) fun z hz => ⟨rfl, trivial⟩) (impH.cons0 ((hget_miss _ _ _ _ (by simp)).trans (hget_hit _ _ _)) (by simp) (SegLe.flat (Nat.le_refl _) id (.inr rfl) fun z hz => ⟨rfl, trivial⟩)
        (impH.cons0 (by simp only [go_sem]) (by simp) (SegLe.flat (Nat.le_refl _) id (.inr rfl) fun z hz => ⟨rfl, hfl z hz⟩) (impH.base0 hok (by simp) (((HExt.rfl.cons (Nat.le_refl n)).cons (by simp)).cons (by simp)))))
  · rintro ⟨⟨k, c⟩, hk, hc, hcf⟩
    simp only at hk hc hcf
    simp only [go_sem, Nat.reduceLT, Nat.reduceLeDiff, reduceIte, decide_eq_true_eq, decide_eq_false_iff_not]
    refine ⟨fun h1 => ⟨⟨by omega, h1⟩, by omega, ?_⟩, fun h1 => ?_⟩
    · have hkr : (0 : Int) ≤ k ∧ (k : Int) < 8 := ⟨by omega, h1⟩
      refine callA_false (toByteA8_E _ _ _ (fun j => F (k * 8 + j)) (fun j hj => hF (k * 8 + j) (by omega)) _ fun F' hF' => ?_)
      have hfl' : Flat 8 F' := fun j hj => by rw [hF' j hj]; exact hfl _ (by omega)
      simp only [go_sem, Nat.reduceLT, Nat.reduceLeDiff, Nat.reduceEqDiff, reduceIte, hkr, hfl'.ones]
      have hput : ∀ j, j < 64 → (if k * 8 ≤ j ∧ j < k * 8 + 8 then F' (j - k * 8) else c j).flat := fun j hj => by
        split
        · rename_i h; exact hfl' _ (by omega)
        · exact hcf j hj
      refine ⟨by omega, ⟨(k + 1, fun j => if k * 8 ≤ j ∧ j < k * 8 + 8 then F' (j - k * 8) else c j), by omega, fun j hj => ?_, hput⟩, by show 8 - (k + 1) < 8 - k; omega, ?_⟩
      · have hj : j < (k + 1) * 8 := hj
        show (if k * 8 ≤ j ∧ j < k * 8 + 8 then F' (j - k * 8) else c j) = F j
        split
        · rename_i h; rw [hF' _ (by omega), show k * 8 + (j - k * 8) = j by omega]
        · exact hc j (by omega)
      · refine Imp.id (by simp) ?_ ?_
        · simp only [go_sem, Nat.reduceLT, w64 (n := (k : Int) + 1) (by omega), Int.natCast_add, Int.natCast_one]
          omega
        · exact impH.cons0 (hget_hit _ _ _) (by simp) (SegLe.flat (Nat.le_refl _) id (.inr rfl) fun z hz => ⟨rfl, hput z hz⟩) (impH.cons0 ((hget_miss _ _ _ _ (by simp)).trans (hget_hit _ _ _)) (by simp) (SegLe.flat (Nat.le_refl _) id (.inr rfl) fun z hz => ⟨rfl, trivial⟩)
            (impH.cons0 (by simp only [go_sem]) (by simp) (SegLe.flat (Nat.le_refl _) id (.inr rfl) fun z hz => ⟨rfl, hfl z hz⟩) (impH.base0 hok (by simp) (((HExt.rfl.cons (Nat.le_refl n)).cons (by simp)).cons (by simp)))))
    · have hk8 : k = 8 := by omega
      subst hk8
      have hone : ones (.agg 64 fun j => c j) = True := hcf.ones
      simp only [go_sem, hone]
      exact ⟨c, hc, rfl⟩
theorem pcC_u8 (P : Pc) (j : Nat) : ∃ v, pcC P (2 + j) = .int .u8 v := by
  unfold pcC; rw [if_neg (by omega)]; exact ⟨_, rfl⟩
theorem toPicture_Q (P : Pc) : CallQ Tryd.prog cx 10 [.agg 66 (pcC P)] h n (.agg 66 (pcC P)) := by
  refine CallE.toQ (pcC_lt P n) fun K hK => ?_
  refine CallE.imp0 (K := fun r h' n' => n ≤ n' ∧ HExt n h h' ∧ ∃ F', (∀ j, j < 66 → F' j = pcC P j) ∧ r = .agg 66 F') ?_ ?_
  rotate_left
  · rintro hok r h' n' ⟨h0, hx, F', hF', rfl⟩
    exact ⟨.agg 66 F', h, n, Nat.le_refl _, by simp only [ren_nil], lt_aggF fun j hj => by rw [hF' j hj]; exact pcC_flat P j, impH.base0 hok (Nat.le_refl n) hx, hK _ fun ρ => den_aggF hF' ρ⟩
  refine callE_of_T (P := Tryd.prog) hti (nt := 15) (rs := [.cell 2 41]) rfl rfl Tryd.call10 Tryd.func10 rfl _ (by simp only [go_sem, and_self]) (Nat.le_of_ble_eq_true rfl) _ fun hok => ?_
  simp only [go_sem, Nat.reduceLT, Nat.reduceLeDiff, Nat.reduceAdd, Nat.reduceEqDiff, reduceIte, reduceCtorEq]
  refine callA_false (toByteA8A8_E _ _ _ (fun j => pcC P (2 + j)) (fun j hj => pcC_u8 P j) _ fun F1 hF1 => ?_)
  have f1 : Flat 64 F1 := fun j hj => by rw [hF1 j hj]; exact pcC_flat P _
  simp only [go_sem, Nat.reduceLT, Nat.reduceAdd, Nat.reduceEqDiff, reduceIte, reduceCtorEq, f1.ones]
  have hF : ∀ j, j < 66 → (fun j => if 2 ≤ j ∧ j < 66 then F1 (j - 2) else pcC { wide := P.wide, high := P.high, ink := pc0.ink } j) j = pcC P j := fun j hj => by
    show (if 2 ≤ j ∧ j < 66 then F1 (j - 2) else pcC { wide := P.wide, high := P.high, ink := pc0.ink } j) = _
    by_cases h2 : 2 ≤ j
    · rw [if_pos ⟨h2, hj⟩, hF1 _ (by omega), show 2 + (j - 2) = j by omega]
    · rw [if_neg (by omega)]
      rcases (by omega : j = 0 ∨ j = 1) with rfl | rfl <;> rfl
  exact ⟨fun j hj => by show ((fun j => if 2 ≤ j ∧ j < 66 then F1 (j - 2) else pcC { wide := P.wide, high := P.high, ink := pc0.ink } j) j).one; rw [hF j hj]; exact (pcC_flat P j).one, _, hF, rfl⟩
end
end Go.Proofs.YtckefhnobflhcaaDoor.V

/- A drop made upon a picture: both walks. -/
namespace Go.Proofs.YtckefhnobflhcaaDoor.V
theorem PcR.setInk {P : Pc} (h : PcR P) {y x v : Int} (hv : 0 ≤ v ∧ v < 256) : PcR (P.setInk y x v) :=
  ⟨h.wide, h.high, fun y' x' => by
    show 0 ≤ (if y' = y ∧ x' = x then v else P.ink y' x') ∧ (if y' = y ∧ x' = x then v else P.ink y' x') < 256
    split
    · exact hv
    · exact h.ink y' x'⟩
theorem PcOk.setInk {P : Pc} (h : PcOk P) {y x v : Int} (hv : v ≤ 3) (hx : x < P.wide) (hy : y < P.high) : PcOk (P.setInk y x v) :=
  ⟨h.1, fun y' x' a b c d => by
    show (if y' = y ∧ x' = x then v else P.ink y' x') ≤ 3 ∧ (0 < (if y' = y ∧ x' = x then v else P.ink y' x') → x' < P.wide ∧ y' < P.high)
    split
    · rename_i e
      rw [e.1, e.2]
      exact ⟨hv, fun _ => ⟨hx, hy⟩⟩
    · exact h.2 y' x' a b c d⟩
section
variable (cx : Cx) (h : List (Nat × Seg)) (n : Nat)
end
end Go.Proofs.YtckefhnobflhcaaDoor.V

/- Lists of drops; drops made one behind the other: both walks. -/
namespace Go.Proofs.YtckefhnobflhcaaDoor.V
abbrev Dr := Int × Int × Int
def dropsC (D : List Dr) : Nat → SV := fun k =>
  if k % 3 = 0 then .int .i8 (D.getD (k / 3) (0, 0, 0)).1 else if k % 3 = 1 then .int .i8 (D.getD (k / 3) (0, 0, 0)).2.1 else .int .u8 (D.getD (k / 3) (0, 0, 0)).2.2
theorem dropsC_0 (D : List Dr) (j : Nat) : dropsC D (j * 3) = .int .i8 (D.getD j (0, 0, 0)).1 := by unfold dropsC; rw [if_pos (by omega), show j * 3 / 3 = j by omega]
theorem dropsC_1 (D : List Dr) (j : Nat) : dropsC D (j * 3 + 1) = .int .i8 (D.getD j (0, 0, 0)).2.1 := by unfold dropsC; rw [if_neg (by omega), if_pos (by omega), show (j * 3 + 1) / 3 = j by omega]
theorem dropsC_2 (D : List Dr) (j : Nat) : dropsC D (j * 3 + 2) = .int .u8 (D.getD j (0, 0, 0)).2.2 := by unfold dropsC; rw [if_neg (by omega), if_neg (by omega), show (j * 3 + 2) / 3 = j by omega]
/-- A list's cells are drops. -/
def DrAt (s : Seg) (D : List Dr) : Prop := D.length * 3 ≤ s.n ∧ ∀ k, k < D.length * 3 → s.c k = dropsC D k
theorem DrAt.c0 {s : Seg} {D : List Dr} (h : DrAt s D) {j : Nat} (hj : j < D.length) : s.c (j * 3) = .int .i8 (D.getD j (0, 0, 0)).1 := (h.2 _ (by omega)).trans (dropsC_0 D j)
theorem DrAt.c1 {s : Seg} {D : List Dr} (h : DrAt s D) {j : Nat} (hj : j < D.length) : s.c (j * 3 + 1) = .int .i8 (D.getD j (0, 0, 0)).2.1 := (h.2 _ (by omega)).trans (dropsC_1 D j)
theorem DrAt.c2 {s : Seg} {D : List Dr} (h : DrAt s D) {j : Nat} (hj : j < D.length) : s.c (j * 3 + 2) = .int .u8 (D.getD j (0, 0, 0)).2.2 := (h.2 _ (by omega)).trans (dropsC_2 D j)
section
variable (cx : Cx) (h : List (Nat × Seg)) (n : Nat)
end
end Go.Proofs.YtckefhnobflhcaaDoor.V

/- Drops made one behind the other; DropOn, DropAll, CheckDrops: both walks. -/
namespace Go.Proofs.YtckefhnobflhcaaDoor.V
/-- Two pictures compared. -/
def pcEq (P Q : Pc) : Bool := eqT ti 9 41 (pcC P) (pcC Q) 0
theorem pcEqVc (P Q : Pc) : eqVc ti 41 66 66 (pcC P) (pcC Q) := by
  have hu : ∀ j, 2 ≤ j → fitC (.int .u8) (pcC P j) (pcC Q j) := fun j _ => by
    unfold pcC; rw [if_neg (by omega), if_neg (by omega)]; rfl
  refine ⟨rfl, rfl, rfl, rfl, ?_⟩
  simp only [fitT_succ, go_sem, fitK_st, fitL_cons, fitL_nil, fitK_int, fitK_arr, Nat.zero_add, and_true, Nat.mul_one, pcC_0, pcC_1, fitC_int]
  (repeat' apply And.intro) <;> first | omega | exact hu _ (by omega) | rfl | trivial
@[go_sem high] theorem eqV_pic (P Q : Pc) : eqV ti 41 .eql 66 (pcC P) 66 (pcC Q) = ⟨True, .bool (pcEq P Q)⟩ := by
  unfold eqV; rw [eq_true (pcEqVc P Q)]; rfl
section
variable (cx : Cx) (h : List (Nat × Seg)) (n : Nat)
end
end Go.Proofs.YtckefhnobflhcaaDoor.V

/- DropOn, CheckDrops: both walks. -/
namespace Go.Proofs.YtckefhnobflhcaaDoor.V
section
variable (cx : Cx) (h : List (Nat × Seg)) (n : Nat)
end
end Go.Proofs.YtckefhnobflhcaaDoor.V

/- Drops that can be the last: open cells; both walks. -/
namespace Go.Proofs.YtckefhnobflhcaaDoor.V
abbrev Gr := Int → Int → Bool
def gridC (O : Gr) : Nat → SV := fun j => .bool (O ((j / 8 : Nat) : Int) ((j % 8 : Nat) : Int))
theorem gridC_at (O : Gr) {y x : Int} (h1 : 0 ≤ y) (h2 : y < 8) (h3 : 0 ≤ x) (h4 : x < 8) : gridC O (y.toNat * 8 + x.toNat) = .bool (O y x) := by
  unfold gridC
  rw [show (y.toNat * 8 + x.toNat) / 8 = y.toNat by omega, show (y.toNat * 8 + x.toNat) % 8 = x.toNat by omega, nat_of _ h1, nat_of _ h3]
def GrAt (s : Seg) (O : Gr) : Prop := s.n = 64 ∧ ∀ j, j < 64 → s.c j = gridC O j
theorem GrAt.at {s : Seg} {O : Gr} (h : GrAt s O) {y x : Int} (h1 : 0 ≤ y) (h2 : y < 8) (h3 : 0 ≤ x) (h4 : x < 8) : s.c (y.toNat * 8 + x.toNat) = .bool (O y x) :=
  (h.2 _ (by omega)).trans (gridC_at O h1 h2 h3 h4)
def PelAt (s : Seg) (v : SV) (O : Gr) : Prop := 65 ≤ s.n ∧ s.c 0 = v ∧ ∀ j, j < 64 → s.c (1 + j) = gridC O j
theorem PelAt.at {s : Seg} {v : SV} {O : Gr} (h : PelAt s v O) {y x : Int} (h1 : 0 ≤ y) (h2 : y < 8) (h3 : 0 ≤ x) (h4 : x < 8) : s.c (1 + y.toNat * 8 + x.toNat) = .bool (O y x) := by
  rw [Nat.add_assoc]; exact (h.2.2 _ (by omega)).trans (gridC_at O h1 h2 h3 h4)
section
variable (cx : Cx) (h : List (Nat × Seg)) (n : Nat)
end
end Go.Proofs.YtckefhnobflhcaaDoor.V

/- Drops that can be the last: the program's walk; CanBeLast of both codes. -/
namespace Go.Proofs.YtckefhnobflhcaaDoor.V
section
variable (cx : Cx) (h : List (Nat × Seg)) (n : Nat)
end
end Go.Proofs.YtckefhnobflhcaaDoor.V

/- CanBeLast of both codes; its law: the walk. -/
namespace Go.Proofs.YtckefhnobflhcaaDoor.V
def off : Gr := fun _ _ => false
@[go_sem] theorem mkAgg_65 (F : Nat → SV) : mkAgg 65 F = .agg 65 F := rfl
section
variable (cx : Cx) (h : List (Nat × Seg)) (n : Nat)
end
end Go.Proofs.YtckefhnobflhcaaDoor.V

/- The law's lists of spots: copied, compared, marked. -/
namespace Go.Proofs.YtckefhnobflhcaaDoor.V

/-- An argument that is a list of spots. -/
def SpsArg (h : List (Nat × Seg)) (n : Nat) (A : SV) (L : List (Int × Int)) : Prop :=
  (A = .nils ∧ L = []) ∨ ∃ i cap s, A = .sl i 0 L.length cap ∧ i < n ∧ hget h i = some s ∧ SpsAt s L
theorem SpsArg.ext {h h' : List (Nat × Seg)} {n n' : Nat} {A : SV} {L : List (Int × Int)} (hA : SpsArg h n A L) (hn : n ≤ n') (hx : HExt n h h') : SpsArg h' n' A L := by
  rcases hA with h1 | ⟨i, cap, s, h1, hi, hs, hL⟩
  · exact .inl h1
  · exact .inr ⟨i, cap, s, h1, by omega, hx i hi s hs, hL⟩
theorem SpsArg.ok {h : List (Nat × Seg)} {n : Nat} {A : SV} {L : List (Int × Int)} (hA : SpsArg h n A L) : A.ok = True := by
  rcases hA with ⟨rfl, rfl⟩ | ⟨i, cap, s, rfl, hi, hs, hL⟩ <;> rfl
theorem SpsArg.lt {h : List (Nat × Seg)} {n : Nat} {A : SV} {L : List (Int × Int)} (hA : SpsArg h n A L) : A.lt n := by
  rcases hA with ⟨rfl, rfl⟩ | ⟨i, cap, s, rfl, hi, hs, hL⟩
  · trivial
  · exact hi
theorem SpsArg.ren {h : List (Nat × Seg)} {n : Nat} {A : SV} {L : List (Int × Int)} (hA : SpsArg h n A L) {σ : Nat → Nat} (hσ : ∀ i, i < n → σ i = i) : V.ren σ A = A := by
  rcases hA with ⟨rfl, rfl⟩ | ⟨i, cap, s, rfl, hi, hs, hL⟩
  · rfl
  · simp only [ren_sl, hσ i hi]
/-- A list of spots, as it was made. -/
def spsS (L : List (Int × Int)) : Seg := ⟨L.length * 2, spotsC L, true, some (71, L.length * 2)⟩
@[go_sem] theorem spsS_eq (L : List (Int × Int)) : spsS L = ⟨L.length * 2, spotsC L, true, some (71, L.length * 2)⟩ := rfl
section
variable (cx : Cx) (h : List (Nat × Seg)) (n : Nat)
end
end Go.Proofs.YtckefhnobflhcaaDoor.V

/- The law's lists of drops: measured, copied, compared. -/
namespace Go.Proofs.YtckefhnobflhcaaDoor.V

/-- An argument that is a list of drops. -/
def DrArg (h : List (Nat × Seg)) (n : Nat) (A : SV) (L : List Dr) : Prop :=
  (A = .nils ∧ L = []) ∨ ∃ i cap s, A = .sl i 0 L.length cap ∧ i < n ∧ hget h i = some s ∧ DrAt s L
theorem DrArg.ext {h h' : List (Nat × Seg)} {n n' : Nat} {A : SV} {L : List Dr} (hA : DrArg h n A L) (hn : n ≤ n') (hx : HExt n h h') : DrArg h' n' A L := by
  rcases hA with h1 | ⟨i, cap, s, h1, hi, hs, hL⟩
  · exact .inl h1
  · exact .inr ⟨i, cap, s, h1, by omega, hx i hi s hs, hL⟩
theorem DrArg.ok {h : List (Nat × Seg)} {n : Nat} {A : SV} {L : List Dr} (hA : DrArg h n A L) : A.ok = True := by
  rcases hA with ⟨rfl, rfl⟩ | ⟨i, cap, s, rfl, hi, hs, hL⟩ <;> rfl
theorem DrArg.lt {h : List (Nat × Seg)} {n : Nat} {A : SV} {L : List Dr} (hA : DrArg h n A L) : A.lt n := by
  rcases hA with ⟨rfl, rfl⟩ | ⟨i, cap, s, rfl, hi, hs, hL⟩
  · trivial
  · exact hi
theorem DrArg.ren {h : List (Nat × Seg)} {n : Nat} {A : SV} {L : List Dr} (hA : DrArg h n A L) {σ : Nat → Nat} (hσ : ∀ i, i < n → σ i = i) : V.ren σ A = A := by
  rcases hA with ⟨rfl, rfl⟩ | ⟨i, cap, s, rfl, hi, hs, hL⟩
  · rfl
  · simp only [ren_sl, hσ i hi]
section
variable (cx : Cx) (h : List (Nat × Seg)) (n : Nat)
end
end Go.Proofs.YtckefhnobflhcaaDoor.V

/- Lists of drops: filtered in place; the cells of a picture. -/
namespace Go.Proofs.YtckefhnobflhcaaDoor.V
section
variable (cx : Cx) (h : List (Nat × Seg)) (n : Nat)
end
end Go.Proofs.YtckefhnobflhcaaDoor.V

/- The drops of a picture; those that can be the last: both walks. -/
namespace Go.Proofs.YtckefhnobflhcaaDoor.V
section
variable (cx : Cx) (h : List (Nat × Seg)) (n : Nat)
theorem spots7_E (i : Nat) (P : Pc) (W H : Nat) (hs : hget h i = some (pcS P)) (hi : i < n) (hW : P.wide = W) (hH : P.high = H) (hW8 : W ≤ 8) (hH8 : H ≤ 8) (K : HK)
    (hK : ∀ cap, H * W ≤ cap → cap ≤ maxLen → K (.sl n 0 (H * W) cap) ((n, ⟨H * W * 2, cellC W, true, some (71, cap * 2)⟩) :: h) (n + 1)) :
    CallE Tryd.prog cx 51 [.ptr i 0] h n K := by
  have hne : (n == i) = false := by simp; omega
  refine callE_of_T (P := Tryd.prog) hti (nt := 30) (rs := [.tmp 2]) rfl rfl Tryd.call51 Tryd.func51 rfl _ (by simp only [go_sem, and_self]) (Nat.le_of_ble_eq_true rfl) _ fun hok => ?_
  simp only [go_sem, Nat.reduceLT, Nat.reduceMul, hne, hs, hi]
  refine T_lp (ι := { p : Nat × Nat // p.1 ≤ H ∧ p.1 * W ≤ p.2 ∧ p.2 ≤ maxLen })
    (fun p => ([(0, .ptr i 0), (3, .sl n 0 (p.1.1 * W) p.1.2), (4, .int .i8 p.1.1)], (n, ⟨p.1.1 * W * 2, cellC W, true, some (71, p.1.2 * 2)⟩) :: h, n + 1)) (fun p => H - p.1.1) ⟨(0, 0), by simp⟩ ?_ ?_
  · refine Imp.id (by simp) ?_ ?_
    · simp only [go_sem, Nat.reduceLT, hH]
      exact ⟨by omega, by simp, by omega⟩
    · refine impH.cons (Nat.lt_succ_self n) (hget_hit _ _ _) (SegLe.flat (by simp) id (.inr (by simp)) fun k hk => by simp at hk) (impH.base hok (by simp) (fun _ _ => rfl) ?_)
      simp only [go_sem, HExt_cons]
  · rintro ⟨⟨y, cap⟩, hy, hcap, hm⟩
    simp only at hy hcap hm
    simp only [go_sem, Nat.reduceLT, Nat.reduceLeDiff, reduceCtorEq, hne, hs, hH, hi, decide_eq_true_eq, decide_eq_false_iff_not]
    refine ⟨fun h1 => ?_, fun h1 => ?_⟩
    · refine T_lp (ι := { p : Nat × Nat // p.1 ≤ W ∧ y * W + p.1 ≤ p.2 ∧ p.2 ≤ maxLen })
        (fun p => ([(0, .ptr i 0), (3, .sl n 0 (y * W + p.1.1) p.1.2), (4, .int .i8 y), (5, .int .i8 p.1.1)], (n, ⟨(y * W + p.1.1) * 2, cellC W, true, some (71, p.1.2 * 2)⟩) :: h, n + 1)) (fun p => W - p.1.1) ⟨(0, cap), by simp; omega⟩ ?_ ?_
      · refine Imp.id (by simp) ?_ ?_
        · simp only [go_sem, Nat.reduceLT]
          omega
        · refine impH.cons (Nat.lt_succ_self n) (hget_hit _ _ _) (SegLe.flat (by simp) id (.inr rfl) fun k hk => ⟨rfl, cellC_flat W k⟩) (impH.base hok (by simp) (fun _ _ => rfl) ?_)
          simp only [go_sem, HExt_cons]
      · rintro ⟨⟨x, cap⟩, hx, hcap, hm⟩
        simp only at hx hcap hm
        simp only [go_sem, Nat.reduceLT, Nat.reduceLeDiff, Nat.reduceMul, Nat.reduceSub, Nat.reduceMod, reduceIte, reduceCtorEq, hne, hs, hi, hW, ↓hok.del (Nat.le_refl n), decide_eq_true_eq, decide_eq_false_iff_not]
        have hyW : y * W ≤ 7 * 8 := Nat.mul_le_mul (by omega) hW8
        refine ⟨fun h2 => ⟨⟨by omega, by omega, by omega⟩, fun cap' h3 h4 => ⟨⟨(x + 1, cap'), by omega, h3, h4⟩, (by show W - (x + 1) < W - x; omega), ?_⟩⟩, fun h2 => ?_⟩
        · refine Imp.of1 n (n + 2) (by simp) (by omega) (by simp) ?_ ?_
          · simp only [go_sem, Nat.reduceLT, hne, w8 (n := (x : Int) + 1) (by omega), Int.natCast_add, Int.natCast_one, Nat.add_assoc]
            omega
          · refine impH.cons1 (hget_hit _ _ _) (Nat.lt_succ_self n) (SegLe.flat (Nat.le_refl _) id (.inr rfl) fun k hk => ⟨?_, cellC_flat W k⟩) (impH.base1 hok (by simp) (Nat.le_refl n) ?_)
            · have hk : k < (y * W + (x + 1)) * 2 := hk
              show both ((y * W + x) * 2) (cellC W) _ k = _
              unfold both news
              split
              · rfl
              · rename_i hk2
                have h5 : (y * W + x) % W = x := by rw [Nat.mul_comm, Nat.mul_add_mod, Nat.mod_eq_of_lt (by omega)]
                have h6 : (y * W + x) / W = y := by rw [Nat.mul_comm, Nat.mul_add_div (by omega), Nat.div_eq_of_lt (by omega), Nat.add_zero]
                rcases (by omega : k = (y * W + x) * 2 ∨ k = (y * W + x) * 2 + 1) with rfl | rfl
                · simp [cellC, h5, cl]
                · have : ((y * W + x) * 2 + 1) / 2 = y * W + x := by omega
                  simp [cellC, this, h6, cl]
            · simp only [go_sem, HExt_cons]
        · refine ⟨⟨(y + 1, cap), by omega, by rw [Nat.succ_mul]; omega, hm⟩, (by show H - (y + 1) < H - y; omega), ?_⟩
          have hx2 : x = W := by omega
          subst hx2
          refine Imp.id (by simp) ?_ ?_
          · simp only [go_sem, Nat.reduceLT, hne, w8 (n := (y : Int) + 1) (by omega), Int.natCast_add, Int.natCast_one, Nat.succ_mul]
            omega
          · exact impH.cons0 (hget_hit _ _ _) (Nat.lt_succ_self n) (SegLe.flat (by show (y + 1) * x * 2 ≤ _; rw [Nat.succ_mul]; exact Nat.le_refl _) id (.inr rfl) fun k hk => ⟨rfl, cellC_flat x k⟩) (impH.base0 hok (by simp) (by simp only [go_sem, HExt_cons]))
    · have hy2 : y = H := by omega
      subst hy2
      exact hK cap hcap hm
end
end Go.Proofs.YtckefhnobflhcaaDoor.V

/- The drops that can be the last, listed: both walks. -/
namespace Go.Proofs.YtckefhnobflhcaaDoor.V
theorem cellC_0 (W q : Nat) : cellC W (q * 2) = .int .i8 ((q % W : Nat) : Int) := by unfold cellC; rw [if_pos (by omega), show q * 2 / 2 = q by omega]
theorem cellC_1 (W q : Nat) : cellC W (q * 2 + 1) = .int .i8 ((q / W : Nat) : Int) := by unfold cellC; rw [if_neg (by omega), show (q * 2 + 1) / 2 = q by omega]
section
variable (cx : Cx) (h : List (Nat × Seg)) (n : Nat)
end
end Go.Proofs.YtckefhnobflhcaaDoor.V
