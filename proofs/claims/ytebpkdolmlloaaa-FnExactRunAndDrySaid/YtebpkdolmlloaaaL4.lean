/- The law's copy of a sheet: the walk. -/
import Derived.Test.YtebpkdolmlloaaaL3
set_option linter.all false
namespace Go.Proofs.Ytebpkdolmlloaaa.V
theorem ShF.congr {F F' : Nat → SV} {S : Sh} (h : ShF F S) (he : ∀ j, j < 266 → F' j = F j) : ShF F' S :=
  ⟨h.R, (he 0 (by omega)).trans h.wide, (he 1 (by omega)).trans h.high, fun y x a b c d => (he _ (by omega)).trans (h.wet y x a b c d), fun y x i a b c d e f => (he _ (by omega)).trans (h.dye y x i a b c d e f), fun y a b => (he _ (by omega)).trans (h.wax y a b)⟩
theorem ShF.wetC {F : Nat → SV} {S : Sh} (h : ShF F S) (j : Nat) (hj : j < 64) : ∃ v, F (2 + j) = .int .i16 v := by
  have := h.wet ((j / 8 : Nat) : Int) ((j % 8 : Nat) : Int) (by omega) (by omega) (by omega) (by omega)
  simp only [Int.toNat_natCast] at this
  exact ⟨_, by rw [show 2 + j = 2 + j / 8 * 8 + j % 8 by omega]; exact this⟩
theorem ShF.dyeC {F : Nat → SV} {S : Sh} (h : ShF F S) (j : Nat) (hj : j < 192) : ∃ v, F (66 + j) = .int .i16 v := by
  have := h.dye ((j / 24 : Nat) : Int) ((j % 24 / 3 : Nat) : Int) ((j % 3 : Nat) : Int) (by omega) (by omega) (by omega) (by omega) (by omega) (by omega)
  simp only [Int.toNat_natCast] at this
  exact ⟨_, by rw [show 66 + j = 66 + j / 24 * 24 + j % 24 / 3 * 3 + j % 3 by omega]; exact this⟩
theorem ShF.waxC {F : Nat → SV} {S : Sh} (h : ShF F S) (j : Nat) (hj : j < 8) : ∃ v, F (258 + j) = .int .u8 v := by
  have := h.wax (j : Int) (by omega) (by omega)
  simp only [Int.toNat_natCast] at this
  exact ⟨_, this⟩
theorem ShF.wetS {F : Nat → SV} {S : Sh} (h : ShF F S) (j : Nat) (hj : j < 64) : F (2 + j) = .int .i16 (S.wet ((j / 8 : Nat) : Int) ((j % 8 : Nat) : Int)) := by
  have := h.wet ((j / 8 : Nat) : Int) ((j % 8 : Nat) : Int) (by omega) (by omega) (by omega) (by omega)
  simp only [Int.toNat_natCast] at this
  rw [show 2 + j = 2 + j / 8 * 8 + j % 8 by omega]; exact this
theorem ShF.dyeS {F : Nat → SV} {S : Sh} (h : ShF F S) (j : Nat) (hj : j < 192) : F (66 + j) = .int .i16 (S.dye ((j / 24 : Nat) : Int) ((j % 24 / 3 : Nat) : Int) ((j % 3 : Nat) : Int)) := by
  have := h.dye ((j / 24 : Nat) : Int) ((j % 24 / 3 : Nat) : Int) ((j % 3 : Nat) : Int) (by omega) (by omega) (by omega) (by omega) (by omega) (by omega)
  simp only [Int.toNat_natCast] at this
  rw [show 66 + j = 66 + j / 24 * 24 + j % 24 / 3 * 3 + j % 3 by omega]; exact this
theorem ShF.waxS {F : Nat → SV} {S : Sh} (h : ShF F S) (j : Nat) (hj : j < 8) : F (258 + j) = .int .u8 (S.wax (j : Int)) := by
  have := h.wax (j : Int) (by omega) (by omega)
  simp only [Int.toNat_natCast] at this
  exact this
section
variable (cx : Cx) (h : List (Nat × Seg)) (n : Nat)
theorem toSheet_E (F : Nat → SV) (S : Sh) (hF : ShF F S) (K : HK) (hK : ∀ F', ShF F' S → K (.agg 266 F') h n) : CallE Try.prog cx 8 [.agg 266 F] h n K := by
  refine CallE.imp0 (K := fun r h' n' => n ≤ n' ∧ HExt n h h' ∧ ∃ F', ShF F' S ∧ r = .agg 266 F') ?_ ?_
  rotate_left
  · rintro hok r h' n' ⟨h0, hx, F', hF', rfl⟩
    exact ⟨.agg 266 F', h, n, Nat.le_refl _, by simp only [ren_nil], lt_aggF fun j hj => hF'.flat hj, impH.base0 hok (Nat.le_refl n) hx, hK F' hF'⟩
  refine callE_of_T (P := Try.prog) hti (nt := 23) (rs := [.cell 2 32]) rfl rfl Try.call8 Try.func8 rfl _ (by simp only [go_sem, and_self]) (Nat.le_of_ble_eq_true rfl) _ fun hok => ?_
  simp only [go_sem, Nat.reduceBEq, Nat.reduceLT, Nat.reduceLeDiff, Nat.reduceAdd, Nat.reduceMul, Nat.reduceSub, Nat.reduceMod, Nat.reduceDiv, Nat.reduceEqDiff, Int.reduceToNat, Int.toNat_natCast, Bool.not_true, Bool.not_false, false_implies, true_implies, decide_true, decide_false, true_and, and_true, and_false, false_and, and_self, reduceIte, reduceCtorEq, Bool.false_eq_true, List.getElem?_cons_zero, List.getElem?_cons_succ, List.length_cons, List.length_nil, List.take_succ_cons, List.take_zero, List.drop_succ_cons, List.drop_zero, ne_eq, not_false_eq_true, Nat.add_zero, Nat.zero_add, Nat.mul_one, Int.cast_ofNat_Int, Int.reduceLE, Int.reduceLT, Int.reduceEq, Int.reduceNeg, Nat.le_refl, Nat.le_add_right, Nat.zero_le, forall_const, hF.wide, hF.high]
  refine callA_false (toInt16A8A8_E _ _ _ (fun j => F (2 + j)) (fun j hj => hF.wetC j hj) _ fun F1 hF1 => ?_)
  have f1 : Flat 64 F1 := fun j hj => by rw [hF1 j hj]; obtain ⟨v, hv⟩ := hF.wetC j hj; rw [hv]; trivial
  simp only [go_sem, Nat.reduceBEq, Nat.reduceLT, Nat.reduceLeDiff, Nat.reduceAdd, Nat.reduceMul, Nat.reduceSub, Nat.reduceMod, Nat.reduceDiv, Nat.reduceEqDiff, Int.reduceToNat, Int.toNat_natCast, Bool.not_true, Bool.not_false, false_implies, true_implies, decide_true, decide_false, true_and, and_true, and_false, false_and, and_self, reduceIte, reduceCtorEq, Bool.false_eq_true, List.getElem?_cons_zero, List.getElem?_cons_succ, List.length_cons, List.length_nil, List.take_succ_cons, List.take_zero, List.drop_succ_cons, List.drop_zero, ne_eq, not_false_eq_true, Nat.add_zero, Nat.zero_add, Nat.mul_one, Int.cast_ofNat_Int, Int.reduceLE, Int.reduceLT, Int.reduceEq, Int.reduceNeg, Nat.le_refl, Nat.le_add_right, Nat.zero_le, forall_const, f1.ones]
  refine callA_false (toInt16A3A8A8_E _ _ _ (fun j => F (66 + j)) (fun j hj => hF.dyeC j hj) _ fun F2 hF2 => ?_)
  have f2 : Flat 192 F2 := fun j hj => by rw [hF2 j hj]; obtain ⟨v, hv⟩ := hF.dyeC j hj; rw [hv]; trivial
  simp only [go_sem, Nat.reduceBEq, Nat.reduceLT, Nat.reduceLeDiff, Nat.reduceAdd, Nat.reduceMul, Nat.reduceSub, Nat.reduceMod, Nat.reduceDiv, Nat.reduceEqDiff, Int.reduceToNat, Int.toNat_natCast, Bool.not_true, Bool.not_false, false_implies, true_implies, decide_true, decide_false, true_and, and_true, and_false, false_and, and_self, reduceIte, reduceCtorEq, Bool.false_eq_true, List.getElem?_cons_zero, List.getElem?_cons_succ, List.length_cons, List.length_nil, List.take_succ_cons, List.take_zero, List.drop_succ_cons, List.drop_zero, ne_eq, not_false_eq_true, Nat.add_zero, Nat.zero_add, Nat.mul_one, Int.cast_ofNat_Int, Int.reduceLE, Int.reduceLT, Int.reduceEq, Int.reduceNeg, Nat.le_refl, Nat.le_add_right, Nat.zero_le, forall_const, f2.ones]
  refine callA_false (toByteA8_E _ _ _ (fun j => F (258 + j)) (fun j hj => hF.waxC j hj) _ fun F3 hF3 => ?_)
  have f3 : Flat 8 F3 := fun j hj => by rw [hF3 j hj]; obtain ⟨v, hv⟩ := hF.waxC j hj; rw [hv]; trivial
  simp only [go_sem, Nat.reduceBEq, Nat.reduceLT, Nat.reduceLeDiff, Nat.reduceAdd, Nat.reduceMul, Nat.reduceSub, Nat.reduceMod, Nat.reduceDiv, Nat.reduceEqDiff, Int.reduceToNat, Int.toNat_natCast, Bool.not_true, Bool.not_false, false_implies, true_implies, decide_true, decide_false, true_and, and_true, and_false, false_and, and_self, reduceIte, reduceCtorEq, Bool.false_eq_true, List.getElem?_cons_zero, List.getElem?_cons_succ, List.length_cons, List.length_nil, List.take_succ_cons, List.take_zero, List.drop_succ_cons, List.drop_zero, ne_eq, not_false_eq_true, Nat.add_zero, Nat.zero_add, Nat.mul_one, Int.cast_ofNat_Int, Int.reduceLE, Int.reduceLT, Int.reduceEq, Int.reduceNeg, Nat.le_refl, Nat.le_add_right, Nat.zero_le, forall_const, f3.ones]
  have hR : ShF (fun j => if 258 ≤ j ∧ j < 266 then F3 (j - 258) else if 66 ≤ j ∧ j < 258 then F2 (j - 66) else if 2 ≤ j ∧ j < 66 then F1 (j - 2) else upd (upd zz14 0 (.int .i8 S.wide)) 1 (.int .i8 S.high) j) S := by
    refine hF.congr fun j hj => ?_
    by_cases c1 : 258 ≤ j
    · rw [if_pos ⟨c1, hj⟩, hF3 _ (by omega), show 258 + (j - 258) = j by omega]
    rw [if_neg (by omega)]
    by_cases c2 : 66 ≤ j
    · rw [if_pos ⟨c2, by omega⟩, hF2 _ (by omega), show 66 + (j - 66) = j by omega]
    rw [if_neg (by omega)]
    by_cases c3 : 2 ≤ j
    · rw [if_pos ⟨c3, by omega⟩, hF1 _ (by omega), show 2 + (j - 2) = j by omega]
    rw [if_neg (by omega)]
    rcases (by omega : j = 0 ∨ j = 1) with rfl | rfl
    · rw [hF.wide]; rfl
    · rw [hF.high]; rfl
  exact ⟨of_eq_true hR.ones, _, hR, rfl⟩
end
end Go.Proofs.Ytebpkdolmlloaaa.V
