/- The law of running and drying in turns: the walk. -/
import Derived.Test.YtebpkdolmlloaaaL6
set_option linter.all false
namespace Go.Proofs.Ytebpkdolmlloaaa.V

def sh0 : Sh := ⟨0, 0, fun _ _ => 0, fun _ _ _ => 0, fun _ => 0⟩
theorem ShF.zero {F : Nat → SV} (h : ∀ j, F j = zeroC j) : ShF F sh0 where
  R := ⟨by simp [sh0], by simp [sh0], fun y x => by simp [sh0], fun y x i => by simp [sh0], fun y => by simp [sh0]⟩
  wide := h 0
  high := h 1
  wet := fun y x a b c d => by rw [h]; unfold zeroC; rw [if_neg (by omega), if_pos (by omega)]; rfl
  dye := fun y x i a b c d e f => by rw [h]; unfold zeroC; rw [if_neg (by omega), if_pos (by omega)]; rfl
  wax := fun y a b => by rw [h]; unfold zeroC; rw [if_neg (by omega), if_neg (by omega)]; rfl
/-- What RunAndDry hands back, told by its parts. -/
def RadIs (S : Sh) (F : Nat → SV) (k c : Int) : Prop :=
  (¬ Valid S ∧ (∀ j, F j = zeroC j) ∧ k = 0 ∧ c = 1) ∨
  (Valid S ∧ ∃ (W H : Nat) (k0 : Nat), S.wide = W ∧ S.high = H ∧ (∀ k', k' < k0 → 0 < water (radN S W H k') W H) ∧ water (radN S W H k0) W H = 0 ∧ ShF F (radN S W H k0) ∧ k = k0 ∧ c = 0)
theorem RadEnd.parts {S : Sh} {n : Nat} {r : SV} (h : RadEnd S n r) : ∃ F k c, RadIs S F k c ∧ r = .tup 3 (cl [.agg 266 F, .int .i64 k, .int .i64 c]) := by
  rcases h with ⟨hv, F, hF, rfl⟩ | ⟨hv, W, H, k, F, hW, hH, h1, h2, hF, rfl⟩
  · exact ⟨F, 0, 1, .inl ⟨hv, hF, rfl, rfl⟩, rfl⟩
  · exact ⟨F, k, 0, .inr ⟨hv, W, H, k, hW, hH, h1, h2, hF, rfl, rfl⟩, rfl⟩
theorem RadIs.two {S : Sh} {F F' : Nat → SV} {k k' c c' : Int} (h : RadIs S F k c) (h' : RadIs S F' k' c') : ∃ S', ShF F S' ∧ ShF F' S' ∧ k' = k ∧ c' = c := by
  rcases h with ⟨hv, hF, rfl, rfl⟩ | ⟨hv, W, H, k, hW, hH, h1, h2, hF, rfl, rfl⟩ <;> rcases h' with ⟨hv', hF', rfl, rfl⟩ | ⟨hv', W', H', k', hW', hH', h1', h2', hF', rfl, rfl⟩
  · exact ⟨sh0, .zero hF, .zero hF', rfl, rfl⟩
  · exact absurd hv' hv
  · exact absurd hv hv'
  · have eW : W = W' := by have := hW.symm.trans hW'; omega
    have eH : H = H' := by have := hH.symm.trans hH'; omega
    subst eW eH
    have ek : k = k' := by
      rcases Nat.lt_trichotomy k k' with h | h | h
      · have := h1' k h; omega
      · exact h
      · have := h1 k' h; omega
    subst ek
    exact ⟨_, hF, hF', rfl, rfl⟩
theorem RadIs.ones {S : Sh} {F : Nat → SV} {k c : Int} (h : RadIs S F k c) : V.ones (.agg 266 F) = True := by
  obtain ⟨S', h1, -⟩ := h.two h
  exact h1.ones

section
variable (cx : Cx) (h : List (Nat × Seg)) (n : Nat)
theorem lawRad_Q (F : Nat → SV) (S : Sh) (hF : ShF F S) : CallQ Try.prog cx 3 [.agg 266 F] h n (.bool true) := by
  refine callQ_of_T (P := Try.prog) hti (nt := 37) (rs := [.tmp 2]) rfl rfl Try.call3 Try.func3 rfl _ (by simp only [go_sem, and_self]) (Nat.le_of_ble_eq_true rfl) _ (by first | exact trivial | (refine lt_flat rfl ?_; simp [SV.flat])) fun hok => ?_
  simp only [go_sem, Nat.reduceBEq, Nat.reduceLT, Nat.reduceLeDiff, Nat.reduceAdd, Nat.reduceMul, Nat.reduceSub, Nat.reduceMod, Nat.reduceDiv, Nat.reduceEqDiff, Int.reduceToNat, Int.toNat_natCast, Bool.not_true, Bool.not_false, false_implies, true_implies, decide_true, decide_false, true_and, and_true, and_false, false_and, and_self, reduceIte, reduceCtorEq, Bool.false_eq_true, List.getElem?_cons_zero, List.getElem?_cons_succ, List.length_cons, List.length_nil, List.take_succ_cons, List.take_zero, List.drop_succ_cons, List.drop_zero, ne_eq, not_false_eq_true, Nat.add_zero, Nat.zero_add, Nat.mul_one, Int.cast_ofNat_Int, Int.reduceLE, Int.reduceLT, Int.reduceEq, Int.reduceNeg, Nat.le_refl, Nat.le_add_right, Nat.zero_le, forall_const, hF.ones]
  refine callA_false (toSheet_E _ _ _ (fun j => F j) S hF _ fun F1 hF1 => ?_)
  simp only [go_sem, Nat.reduceBEq, Nat.reduceLT, Nat.reduceLeDiff, Nat.reduceAdd, Nat.reduceMul, Nat.reduceSub, Nat.reduceMod, Nat.reduceDiv, Nat.reduceEqDiff, Int.reduceToNat, Int.toNat_natCast, Bool.not_true, Bool.not_false, false_implies, true_implies, decide_true, decide_false, true_and, and_true, and_false, false_and, and_self, reduceIte, reduceCtorEq, Bool.false_eq_true, List.getElem?_cons_zero, List.getElem?_cons_succ, List.length_cons, List.length_nil, List.take_succ_cons, List.take_zero, List.drop_succ_cons, List.drop_zero, ne_eq, not_false_eq_true, Nat.add_zero, Nat.zero_add, Nat.mul_one, Int.cast_ofNat_Int, Int.reduceLE, Int.reduceLT, Int.reduceEq, Int.reduceNeg, Nat.le_refl, Nat.le_add_right, Nat.zero_le, forall_const, hF1.ones]
  refine callA_false (rad2_E _ _ _ F1 S hF1 _ fun r1 hr1 => ?_)
  obtain ⟨G1, k1, c1, hi1, rfl⟩ := hr1.parts
  simp only [go_sem, Nat.reduceBEq, Nat.reduceLT, Nat.reduceLeDiff, Nat.reduceAdd, Nat.reduceMul, Nat.reduceSub, Nat.reduceMod, Nat.reduceDiv, Nat.reduceEqDiff, Int.reduceToNat, Int.toNat_natCast, Bool.not_true, Bool.not_false, false_implies, true_implies, decide_true, decide_false, true_and, and_true, and_false, false_and, and_self, reduceIte, reduceCtorEq, Bool.false_eq_true, List.getElem?_cons_zero, List.getElem?_cons_succ, List.length_cons, List.length_nil, List.take_succ_cons, List.take_zero, List.drop_succ_cons, List.drop_zero, ne_eq, not_false_eq_true, Nat.add_zero, Nat.zero_add, Nat.mul_one, Int.cast_ofNat_Int, Int.reduceLE, Int.reduceLT, Int.reduceEq, Int.reduceNeg, Nat.le_refl, Nat.le_add_right, Nat.zero_le, forall_const, hi1.ones]
  refine callA_false (toSheet_E _ _ _ (fun j => F j) S hF _ fun F2 hF2 => ?_)
  simp only [go_sem, Nat.reduceBEq, Nat.reduceLT, Nat.reduceLeDiff, Nat.reduceAdd, Nat.reduceMul, Nat.reduceSub, Nat.reduceMod, Nat.reduceDiv, Nat.reduceEqDiff, Int.reduceToNat, Int.toNat_natCast, Bool.not_true, Bool.not_false, false_implies, true_implies, decide_true, decide_false, true_and, and_true, and_false, false_and, and_self, reduceIte, reduceCtorEq, Bool.false_eq_true, List.getElem?_cons_zero, List.getElem?_cons_succ, List.length_cons, List.length_nil, List.take_succ_cons, List.take_zero, List.drop_succ_cons, List.drop_zero, ne_eq, not_false_eq_true, Nat.add_zero, Nat.zero_add, Nat.mul_one, Int.cast_ofNat_Int, Int.reduceLE, Int.reduceLT, Int.reduceEq, Int.reduceNeg, Nat.le_refl, Nat.le_add_right, Nat.zero_le, forall_const, hF2.ones]
  refine callA_false (rad_E _ _ _ F2 S hF2 _ fun r2 hr2 => ?_)
  obtain ⟨G2, k2, c2, hi2, rfl⟩ := hr2.parts
  simp only [go_sem, Nat.reduceBEq, Nat.reduceLT, Nat.reduceLeDiff, Nat.reduceAdd, Nat.reduceMul, Nat.reduceSub, Nat.reduceMod, Nat.reduceDiv, Nat.reduceEqDiff, Int.reduceToNat, Int.toNat_natCast, Bool.not_true, Bool.not_false, false_implies, true_implies, decide_true, decide_false, true_and, and_true, and_false, false_and, and_self, reduceIte, reduceCtorEq, Bool.false_eq_true, List.getElem?_cons_zero, List.getElem?_cons_succ, List.length_cons, List.length_nil, List.take_succ_cons, List.take_zero, List.drop_succ_cons, List.drop_zero, ne_eq, not_false_eq_true, Nat.add_zero, Nat.zero_add, Nat.mul_one, Int.cast_ofNat_Int, Int.reduceLE, Int.reduceLT, Int.reduceEq, Int.reduceNeg, Nat.le_refl, Nat.le_add_right, Nat.zero_le, forall_const, hi2.ones]
  obtain ⟨S', hG1, hG2, rfl, rfl⟩ := hi1.two hi2
  refine (eqSheet_Q _ _ _ (fun j => G2 j) (fun j => G1 j) S' hG2 hG1).A ?_
  simp only [go_sem, Nat.reduceBEq, Nat.reduceLT, Nat.reduceLeDiff, Nat.reduceAdd, Nat.reduceMul, Nat.reduceSub, Nat.reduceMod, Nat.reduceDiv, Nat.reduceEqDiff, Int.reduceToNat, Int.toNat_natCast, Bool.not_true, Bool.not_false, false_implies, true_implies, decide_true, decide_false, true_and, and_true, and_false, false_and, and_self, reduceIte, reduceCtorEq, Bool.false_eq_true, List.getElem?_cons_zero, List.getElem?_cons_succ, List.length_cons, List.length_nil, List.take_succ_cons, List.take_zero, List.drop_succ_cons, List.drop_zero, ne_eq, not_false_eq_true, Nat.add_zero, Nat.zero_add, Nat.mul_one, Int.cast_ofNat_Int, Int.reduceLE, Int.reduceLT, Int.reduceEq, Int.reduceNeg, Nat.le_refl, Nat.le_add_right, Nat.zero_le, forall_const, Bool.not_true]
end
end Go.Proofs.Ytebpkdolmlloaaa.V
