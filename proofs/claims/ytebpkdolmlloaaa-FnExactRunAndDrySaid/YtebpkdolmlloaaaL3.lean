/- The law's copies of arrays of three numbers: the walk. -/
import Derived.Test.YtebpkdolmlloaaaL2
set_option linter.all false
namespace Go.Proofs.Ytebpkdolmlloaaa.V
section
variable (cx : Cx) (h : List (Nat × Seg)) (n : Nat)

theorem toInt16A3A8_E (F : Nat → SV) (hF : ∀ j, j < 24 → ∃ v, F j = .int .i16 v) (K : HK) (hK : ∀ F', (∀ j, j < 24 → F' j = F j) → K (.agg 24 F') h n) : CallE Try.prog cx 78 [.agg 24 F] h n K := by
  have hfl : Flat 24 F := fun j hj => by obtain ⟨v, hv⟩ := hF j hj; rw [hv]; trivial
  refine CallE.imp0 (K := fun r h' n' => n ≤ n' ∧ HExt n h h' ∧ ∃ F', (∀ j, j < 24 → F' j = F j) ∧ r = .agg 24 F') ?_ ?_
  rotate_left
  · rintro hok r h' n' ⟨h0, hx, F', hF', rfl⟩
    exact ⟨.agg 24 F', h, n, Nat.le_refl _, by simp only [ren_nil], lt_aggF fun j hj => by rw [hF' j hj]; exact hfl j hj, impH.base0 hok (Nat.le_refl n) hx, hK F' hF'⟩
  refine callE_of_T (P := Try.prog) hti (nt := 16) (rs := [.cell 2 27]) rfl rfl Try.call78 Try.func78 rfl _ (by simp only [go_sem, and_self]) (Nat.le_of_ble_eq_true rfl) _ fun hok => ?_
  simp only [go_sem, Nat.reduceBEq, Nat.reduceLT, Nat.reduceLeDiff, Nat.reduceAdd, Nat.reduceMul, Nat.reduceSub, Nat.reduceMod, Nat.reduceDiv, Nat.reduceEqDiff, Int.reduceToNat, Int.toNat_natCast, Bool.not_true, Bool.not_false, false_implies, true_implies, decide_true, decide_false, true_and, and_true, and_false, false_and, and_self, reduceIte, reduceCtorEq, Bool.false_eq_true, List.getElem?_cons_zero, List.getElem?_cons_succ, List.length_cons, List.length_nil, List.take_succ_cons, List.take_zero, List.drop_succ_cons, List.drop_zero, ne_eq, not_false_eq_true, Nat.add_zero, Nat.zero_add, Nat.mul_one, Int.cast_ofNat_Int, Int.reduceLE, Int.reduceLT, Int.reduceEq, Int.reduceNeg, Nat.le_refl, Nat.le_add_right, Nat.zero_le, forall_const]
  refine T_lp (ι := { q : Nat × (Nat → SV) // q.1 ≤ 8 ∧ (∀ j, j < q.1 * 3 → q.2 j = F j) ∧ Flat 24 q.2 })
    (fun q => ([(1, .ptr n 0), (2, .ptr (n + 1) 0), (3, .ptr (n + 2) 0), (4, .int .i64 q.1.1)], (n + 2, ⟨24, q.1.2, true, none⟩) :: (n + 1, ⟨24, (ti 27).z, true, none⟩) :: (n, ⟨24, F, true, none⟩) :: h, n + 3)) (fun q => 8 - q.1.1) ⟨(0, (ti 27).z), by omega, fun _ hj => by omega, fun _ _ => trivial⟩ ?_ ?_
  · refine Imp.id (by simp) ?_ ?_
    · simp only [go_sem, Nat.reduceBEq, Nat.reduceLT, Nat.reduceLeDiff, Nat.reduceAdd, Nat.reduceMul, Nat.reduceSub, Nat.reduceMod, Nat.reduceDiv, Nat.reduceEqDiff, Int.reduceToNat, Int.toNat_natCast, Bool.not_true, Bool.not_false, false_implies, true_implies, decide_true, decide_false, true_and, and_true, and_false, false_and, and_self, reduceIte, reduceCtorEq, Bool.false_eq_true, List.getElem?_cons_zero, List.getElem?_cons_succ, List.length_cons, List.length_nil, List.take_succ_cons, List.take_zero, List.drop_succ_cons, List.drop_zero, ne_eq, not_false_eq_true, Nat.add_zero, Nat.zero_add, Nat.mul_one, Int.cast_ofNat_Int, Int.reduceLE, Int.reduceLT, Int.reduceEq, Int.reduceNeg, Nat.le_refl, Nat.le_add_right, Nat.zero_le, forall_const]
      omega
    · exact impH.cons0 (hget_hit _ _ _) (by simp) (SegLe.flat (Nat.le_refl _) id (.inr rfl) fun z hz => ⟨rfl, trivial⟩) (impH.cons0 ((hget_miss _ _ _ _ (by simp)).trans (hget_hit _ _ _)) (by simp) (SegLe.flat (Nat.le_refl _) id (.inr rfl) fun z hz => ⟨rfl, trivial⟩)
        (impH.cons0 (by simp only [go_sem, Nat.reduceBEq, Nat.reduceLT, Nat.reduceLeDiff, Nat.reduceAdd, Nat.reduceMul, Nat.reduceSub, Nat.reduceMod, Nat.reduceDiv, Nat.reduceEqDiff, Int.reduceToNat, Int.toNat_natCast, Bool.not_true, Bool.not_false, false_implies, true_implies, decide_true, decide_false, true_and, and_true, and_false, false_and, and_self, reduceIte, reduceCtorEq, Bool.false_eq_true, List.getElem?_cons_zero, List.getElem?_cons_succ, List.length_cons, List.length_nil, List.take_succ_cons, List.take_zero, List.drop_succ_cons, List.drop_zero, ne_eq, not_false_eq_true, Nat.add_zero, Nat.zero_add, Nat.mul_one, Int.cast_ofNat_Int, Int.reduceLE, Int.reduceLT, Int.reduceEq, Int.reduceNeg, Nat.le_refl, Nat.le_add_right, Nat.zero_le, forall_const]) (by simp) (SegLe.flat (Nat.le_refl _) id (.inr rfl) fun z hz => ⟨rfl, hfl z hz⟩) (impH.base0 hok (by simp) (((HExt.rfl.cons (Nat.le_refl n)).cons (by simp)).cons (by simp)))))
  · rintro ⟨⟨k, c⟩, hk, hc, hcf⟩
    simp only at hk hc hcf
    simp only [go_sem, Nat.reduceBEq, Nat.reduceLT, Nat.reduceLeDiff, Nat.reduceAdd, Nat.reduceMul, Nat.reduceSub, Nat.reduceMod, Nat.reduceDiv, Nat.reduceEqDiff, Int.reduceToNat, Int.toNat_natCast, Bool.not_true, Bool.not_false, false_implies, true_implies, decide_true, decide_false, true_and, and_true, and_false, false_and, and_self, reduceIte, reduceCtorEq, Bool.false_eq_true, List.getElem?_cons_zero, List.getElem?_cons_succ, List.length_cons, List.length_nil, List.take_succ_cons, List.take_zero, List.drop_succ_cons, List.drop_zero, ne_eq, not_false_eq_true, Nat.add_zero, Nat.zero_add, Nat.mul_one, Int.cast_ofNat_Int, Int.reduceLE, Int.reduceLT, Int.reduceEq, Int.reduceNeg, Nat.le_refl, Nat.le_add_right, Nat.zero_le, forall_const, decide_eq_true_eq, decide_eq_false_iff_not]
    refine ⟨fun h1 => ⟨⟨by omega, h1⟩, by omega, ?_⟩, fun h1 => ?_⟩
    · have hkr : (0 : Int) ≤ k ∧ (k : Int) < 8 := ⟨by omega, h1⟩
      obtain ⟨a0, e0⟩ := hF (k * 3) (by omega)
      obtain ⟨a1, e1⟩ := hF (k * 3 + 1) (by omega)
      obtain ⟨a2, e2⟩ := hF (k * 3 + 2) (by omega)
      rw [e0, e1, e2]
      refine (toInt16A3_Q _ _ _ a0 a1 a2).A ?_
      simp only [go_sem, Nat.reduceBEq, Nat.reduceLT, Nat.reduceLeDiff, Nat.reduceAdd, Nat.reduceMul, Nat.reduceSub, Nat.reduceMod, Nat.reduceDiv, Nat.reduceEqDiff, Int.reduceToNat, Int.toNat_natCast, Bool.not_true, Bool.not_false, false_implies, true_implies, decide_true, decide_false, true_and, and_true, and_false, false_and, and_self, reduceIte, reduceCtorEq, Bool.false_eq_true, List.getElem?_cons_zero, List.getElem?_cons_succ, List.length_cons, List.length_nil, List.take_succ_cons, List.take_zero, List.drop_succ_cons, List.drop_zero, ne_eq, not_false_eq_true, Nat.add_zero, Nat.zero_add, Nat.mul_one, Int.cast_ofNat_Int, Int.reduceLE, Int.reduceLT, Int.reduceEq, Int.reduceNeg, Nat.le_refl, Nat.le_add_right, Nat.zero_le, forall_const, hkr]
      have hfl' : Flat 3 (cl [SV.int .i16 a0, SV.int .i16 a1, SV.int .i16 a2]) := fun j hj => cl_flat (l := [_, _, _]) (by simp [SV.flat]) hj
      have hF' : ∀ j, j < 3 → cl [SV.int .i16 a0, SV.int .i16 a1, SV.int .i16 a2] j = F (k * 3 + j) := by
        intro j hj
        rcases (by omega : j = 0 ∨ j = 1 ∨ j = 2) with rfl | rfl | rfl
        · exact e0.symm
        · exact e1.symm
        · exact e2.symm
      generalize cl [SV.int .i16 a0, SV.int .i16 a1, SV.int .i16 a2] = F' at *
      have hput : ∀ j, j < 24 → (if k * 3 ≤ j ∧ j < k * 3 + 3 then F' (j - k * 3) else c j).flat := fun j hj => by
        split
        · rename_i h; exact hfl' _ (by omega)
        · exact hcf j hj
      refine ⟨by omega, ⟨(k + 1, fun j => if k * 3 ≤ j ∧ j < k * 3 + 3 then F' (j - k * 3) else c j), by omega, fun j hj => ?_, hput⟩, by show 8 - (k + 1) < 8 - k; omega, ?_⟩
      · have hj : j < (k + 1) * 3 := hj
        show (if k * 3 ≤ j ∧ j < k * 3 + 3 then F' (j - k * 3) else c j) = F j
        split
        · rename_i h; rw [hF' _ (by omega), show k * 3 + (j - k * 3) = j by omega]
        · exact hc j (by omega)
      · refine Imp.id (by simp) ?_ ?_
        · simp only [go_sem, Nat.reduceBEq, Nat.reduceLT, Nat.reduceLeDiff, Nat.reduceAdd, Nat.reduceMul, Nat.reduceSub, Nat.reduceMod, Nat.reduceDiv, Nat.reduceEqDiff, Int.reduceToNat, Int.toNat_natCast, Bool.not_true, Bool.not_false, false_implies, true_implies, decide_true, decide_false, true_and, and_true, and_false, false_and, and_self, reduceIte, reduceCtorEq, Bool.false_eq_true, List.getElem?_cons_zero, List.getElem?_cons_succ, List.length_cons, List.length_nil, List.take_succ_cons, List.take_zero, List.drop_succ_cons, List.drop_zero, ne_eq, not_false_eq_true, Nat.add_zero, Nat.zero_add, Nat.mul_one, Int.cast_ofNat_Int, Int.reduceLE, Int.reduceLT, Int.reduceEq, Int.reduceNeg, Nat.le_refl, Nat.le_add_right, Nat.zero_le, forall_const, w64 (n := (k : Int) + 1) (by omega), Int.natCast_add, Int.natCast_one]
          omega
        · exact impH.cons0 (hget_hit _ _ _) (by simp) (SegLe.flat (Nat.le_refl _) id (.inr rfl) fun z hz => ⟨rfl, hput z hz⟩) (impH.cons0 ((hget_miss _ _ _ _ (by simp)).trans (hget_hit _ _ _)) (by simp) (SegLe.flat (Nat.le_refl _) id (.inr rfl) fun z hz => ⟨rfl, trivial⟩)
            (impH.cons0 (by simp only [go_sem, Nat.reduceBEq, Nat.reduceLT, Nat.reduceLeDiff, Nat.reduceAdd, Nat.reduceMul, Nat.reduceSub, Nat.reduceMod, Nat.reduceDiv, Nat.reduceEqDiff, Int.reduceToNat, Int.toNat_natCast, Bool.not_true, Bool.not_false, false_implies, true_implies, decide_true, decide_false, true_and, and_true, and_false, false_and, and_self, reduceIte, reduceCtorEq, Bool.false_eq_true, List.getElem?_cons_zero, List.getElem?_cons_succ, List.length_cons, List.length_nil, List.take_succ_cons, List.take_zero, List.drop_succ_cons, List.drop_zero, ne_eq, not_false_eq_true, Nat.add_zero, Nat.zero_add, Nat.mul_one, Int.cast_ofNat_Int, Int.reduceLE, Int.reduceLT, Int.reduceEq, Int.reduceNeg, Nat.le_refl, Nat.le_add_right, Nat.zero_le, forall_const]) (by simp) (SegLe.flat (Nat.le_refl _) id (.inr rfl) fun z hz => ⟨rfl, hfl z hz⟩) (impH.base0 hok (by simp) (((HExt.rfl.cons (Nat.le_refl n)).cons (by simp)).cons (by simp)))))
    · have hk8 : k = 8 := by omega
      subst hk8
      have hone : ones (.agg 24 fun j => c j) = True := hcf.ones
      simp only [go_sem, Nat.reduceBEq, Nat.reduceLT, Nat.reduceLeDiff, Nat.reduceAdd, Nat.reduceMul, Nat.reduceSub, Nat.reduceMod, Nat.reduceDiv, Nat.reduceEqDiff, Int.reduceToNat, Int.toNat_natCast, Bool.not_true, Bool.not_false, false_implies, true_implies, decide_true, decide_false, true_and, and_true, and_false, false_and, and_self, reduceIte, reduceCtorEq, Bool.false_eq_true, List.getElem?_cons_zero, List.getElem?_cons_succ, List.length_cons, List.length_nil, List.take_succ_cons, List.take_zero, List.drop_succ_cons, List.drop_zero, ne_eq, not_false_eq_true, Nat.add_zero, Nat.zero_add, Nat.mul_one, Int.cast_ofNat_Int, Int.reduceLE, Int.reduceLT, Int.reduceEq, Int.reduceNeg, Nat.le_refl, Nat.le_add_right, Nat.zero_le, forall_const, hone]
      exact ⟨c, hc, rfl⟩

theorem toInt16A3A8A8_E (F : Nat → SV) (hF : ∀ j, j < 192 → ∃ v, F j = .int .i16 v) (K : HK) (hK : ∀ F', (∀ j, j < 192 → F' j = F j) → K (.agg 192 F') h n) : CallE Try.prog cx 34 [.agg 192 F] h n K := by
  have hfl : Flat 192 F := fun j hj => by obtain ⟨v, hv⟩ := hF j hj; rw [hv]; trivial
  refine CallE.imp0 (K := fun r h' n' => n ≤ n' ∧ HExt n h h' ∧ ∃ F', (∀ j, j < 192 → F' j = F j) ∧ r = .agg 192 F') ?_ ?_
  rotate_left
  · rintro hok r h' n' ⟨h0, hx, F', hF', rfl⟩
    exact ⟨.agg 192 F', h, n, Nat.le_refl _, by simp only [ren_nil], lt_aggF fun j hj => by rw [hF' j hj]; exact hfl j hj, impH.base0 hok (Nat.le_refl n) hx, hK F' hF'⟩
  refine callE_of_T (P := Try.prog) hti (nt := 16) (rs := [.cell 2 28]) rfl rfl Try.call34 Try.func34 rfl _ (by simp only [go_sem, and_self]) (Nat.le_of_ble_eq_true rfl) _ fun hok => ?_
  simp only [go_sem, Nat.reduceBEq, Nat.reduceLT, Nat.reduceLeDiff, Nat.reduceAdd, Nat.reduceMul, Nat.reduceSub, Nat.reduceMod, Nat.reduceDiv, Nat.reduceEqDiff, Int.reduceToNat, Int.toNat_natCast, Bool.not_true, Bool.not_false, false_implies, true_implies, decide_true, decide_false, true_and, and_true, and_false, false_and, and_self, reduceIte, reduceCtorEq, Bool.false_eq_true, List.getElem?_cons_zero, List.getElem?_cons_succ, List.length_cons, List.length_nil, List.take_succ_cons, List.take_zero, List.drop_succ_cons, List.drop_zero, ne_eq, not_false_eq_true, Nat.add_zero, Nat.zero_add, Nat.mul_one, Int.cast_ofNat_Int, Int.reduceLE, Int.reduceLT, Int.reduceEq, Int.reduceNeg, Nat.le_refl, Nat.le_add_right, Nat.zero_le, forall_const]
  refine T_lp (ι := { q : Nat × (Nat → SV) // q.1 ≤ 8 ∧ (∀ j, j < q.1 * 24 → q.2 j = F j) ∧ Flat 192 q.2 })
    (fun q => ([(1, .ptr n 0), (2, .ptr (n + 1) 0), (3, .ptr (n + 2) 0), (4, .int .i64 q.1.1)], (n + 2, ⟨192, q.1.2, true, none⟩) :: (n + 1, ⟨192, (ti 28).z, true, none⟩) :: (n, ⟨192, F, true, none⟩) :: h, n + 3)) (fun q => 8 - q.1.1) ⟨(0, (ti 28).z), by omega, fun _ hj => by omega, fun _ _ => trivial⟩ ?_ ?_
  · refine Imp.id (by simp) ?_ ?_
    · simp only [go_sem, Nat.reduceBEq, Nat.reduceLT, Nat.reduceLeDiff, Nat.reduceAdd, Nat.reduceMul, Nat.reduceSub, Nat.reduceMod, Nat.reduceDiv, Nat.reduceEqDiff, Int.reduceToNat, Int.toNat_natCast, Bool.not_true, Bool.not_false, false_implies, true_implies, decide_true, decide_false, true_and, and_true, and_false, false_and, and_self, reduceIte, reduceCtorEq, Bool.false_eq_true, List.getElem?_cons_zero, List.getElem?_cons_succ, List.length_cons, List.length_nil, List.take_succ_cons, List.take_zero, List.drop_succ_cons, List.drop_zero, ne_eq, not_false_eq_true, Nat.add_zero, Nat.zero_add, Nat.mul_one, Int.cast_ofNat_Int, Int.reduceLE, Int.reduceLT, Int.reduceEq, Int.reduceNeg, Nat.le_refl, Nat.le_add_right, Nat.zero_le, forall_const]
      omega
    · exact impH.cons0 (hget_hit _ _ _) (by simp) (SegLe.flat (Nat.le_refl _) id (.inr rfl) fun z hz => ⟨rfl, trivial⟩) (impH.cons0 ((hget_miss _ _ _ _ (by simp)).trans (hget_hit _ _ _)) (by simp) (SegLe.flat (Nat.le_refl _) id (.inr rfl) fun z hz => ⟨rfl, trivial⟩)
        (impH.cons0 (by simp only [go_sem, Nat.reduceBEq, Nat.reduceLT, Nat.reduceLeDiff, Nat.reduceAdd, Nat.reduceMul, Nat.reduceSub, Nat.reduceMod, Nat.reduceDiv, Nat.reduceEqDiff, Int.reduceToNat, Int.toNat_natCast, Bool.not_true, Bool.not_false, false_implies, true_implies, decide_true, decide_false, true_and, and_true, and_false, false_and, and_self, reduceIte, reduceCtorEq, Bool.false_eq_true, List.getElem?_cons_zero, List.getElem?_cons_succ, List.length_cons, List.length_nil, List.take_succ_cons, List.take_zero, List.drop_succ_cons, List.drop_zero, ne_eq, not_false_eq_true, Nat.add_zero, Nat.zero_add, Nat.mul_one, Int.cast_ofNat_Int, Int.reduceLE, Int.reduceLT, Int.reduceEq, Int.reduceNeg, Nat.le_refl, Nat.le_add_right, Nat.zero_le, forall_const]) (by simp) (SegLe.flat (Nat.le_refl _) id (.inr rfl) fun z hz => ⟨rfl, hfl z hz⟩) (impH.base0 hok (by simp) (((HExt.rfl.cons (Nat.le_refl n)).cons (by simp)).cons (by simp)))))
  · rintro ⟨⟨k, c⟩, hk, hc, hcf⟩
    simp only at hk hc hcf
    simp only [go_sem, Nat.reduceBEq, Nat.reduceLT, Nat.reduceLeDiff, Nat.reduceAdd, Nat.reduceMul, Nat.reduceSub, Nat.reduceMod, Nat.reduceDiv, Nat.reduceEqDiff, Int.reduceToNat, Int.toNat_natCast, Bool.not_true, Bool.not_false, false_implies, true_implies, decide_true, decide_false, true_and, and_true, and_false, false_and, and_self, reduceIte, reduceCtorEq, Bool.false_eq_true, List.getElem?_cons_zero, List.getElem?_cons_succ, List.length_cons, List.length_nil, List.take_succ_cons, List.take_zero, List.drop_succ_cons, List.drop_zero, ne_eq, not_false_eq_true, Nat.add_zero, Nat.zero_add, Nat.mul_one, Int.cast_ofNat_Int, Int.reduceLE, Int.reduceLT, Int.reduceEq, Int.reduceNeg, Nat.le_refl, Nat.le_add_right, Nat.zero_le, forall_const, decide_eq_true_eq, decide_eq_false_iff_not]
    refine ⟨fun h1 => ⟨⟨by omega, h1⟩, by omega, ?_⟩, fun h1 => ?_⟩
    · have hkr : (0 : Int) ≤ k ∧ (k : Int) < 8 := ⟨by omega, h1⟩
      refine callA_false (toInt16A3A8_E _ _ _ (fun j => F (k * 24 + j)) (fun j hj => hF (k * 24 + j) (by omega)) _ fun F' hF' => ?_)
      have hfl' : Flat 24 F' := fun j hj => by rw [hF' j hj]; exact hfl _ (by omega)
      simp only [go_sem, Nat.reduceBEq, Nat.reduceLT, Nat.reduceLeDiff, Nat.reduceAdd, Nat.reduceMul, Nat.reduceSub, Nat.reduceMod, Nat.reduceDiv, Nat.reduceEqDiff, Int.reduceToNat, Int.toNat_natCast, Bool.not_true, Bool.not_false, false_implies, true_implies, decide_true, decide_false, true_and, and_true, and_false, false_and, and_self, reduceIte, reduceCtorEq, Bool.false_eq_true, List.getElem?_cons_zero, List.getElem?_cons_succ, List.length_cons, List.length_nil, List.take_succ_cons, List.take_zero, List.drop_succ_cons, List.drop_zero, ne_eq, not_false_eq_true, Nat.add_zero, Nat.zero_add, Nat.mul_one, Int.cast_ofNat_Int, Int.reduceLE, Int.reduceLT, Int.reduceEq, Int.reduceNeg, Nat.le_refl, Nat.le_add_right, Nat.zero_le, forall_const, hkr, hfl'.ones]
      have hput : ∀ j, j < 192 → (if k * 24 ≤ j ∧ j < k * 24 + 24 then F' (j - k * 24) else c j).flat := fun j hj => by
        split
        · rename_i h; exact hfl' _ (by omega)
        · exact hcf j hj
      refine ⟨by omega, ⟨(k + 1, fun j => if k * 24 ≤ j ∧ j < k * 24 + 24 then F' (j - k * 24) else c j), by omega, fun j hj => ?_, hput⟩, by show 8 - (k + 1) < 8 - k; omega, ?_⟩
      · have hj : j < (k + 1) * 24 := hj
        show (if k * 24 ≤ j ∧ j < k * 24 + 24 then F' (j - k * 24) else c j) = F j
        split
        · rename_i h; rw [hF' _ (by omega), show k * 24 + (j - k * 24) = j by omega]
        · exact hc j (by omega)
      · refine Imp.id (by simp) ?_ ?_
        · simp only [go_sem, Nat.reduceBEq, Nat.reduceLT, Nat.reduceLeDiff, Nat.reduceAdd, Nat.reduceMul, Nat.reduceSub, Nat.reduceMod, Nat.reduceDiv, Nat.reduceEqDiff, Int.reduceToNat, Int.toNat_natCast, Bool.not_true, Bool.not_false, false_implies, true_implies, decide_true, decide_false, true_and, and_true, and_false, false_and, and_self, reduceIte, reduceCtorEq, Bool.false_eq_true, List.getElem?_cons_zero, List.getElem?_cons_succ, List.length_cons, List.length_nil, List.take_succ_cons, List.take_zero, List.drop_succ_cons, List.drop_zero, ne_eq, not_false_eq_true, Nat.add_zero, Nat.zero_add, Nat.mul_one, Int.cast_ofNat_Int, Int.reduceLE, Int.reduceLT, Int.reduceEq, Int.reduceNeg, Nat.le_refl, Nat.le_add_right, Nat.zero_le, forall_const, w64 (n := (k : Int) + 1) (by omega), Int.natCast_add, Int.natCast_one]
          omega
        · exact impH.cons0 (hget_hit _ _ _) (by simp) (SegLe.flat (Nat.le_refl _) id (.inr rfl) fun z hz => ⟨rfl, hput z hz⟩) (impH.cons0 ((hget_miss _ _ _ _ (by simp)).trans (hget_hit _ _ _)) (by simp) (SegLe.flat (Nat.le_refl _) id (.inr rfl) fun z hz => ⟨rfl, trivial⟩)
            (impH.cons0 (by simp only [go_sem, Nat.reduceBEq, Nat.reduceLT, Nat.reduceLeDiff, Nat.reduceAdd, Nat.reduceMul, Nat.reduceSub, Nat.reduceMod, Nat.reduceDiv, Nat.reduceEqDiff, Int.reduceToNat, Int.toNat_natCast, Bool.not_true, Bool.not_false, false_implies, true_implies, decide_true, decide_false, true_and, and_true, and_false, false_and, and_self, reduceIte, reduceCtorEq, Bool.false_eq_true, List.getElem?_cons_zero, List.getElem?_cons_succ, List.length_cons, List.length_nil, List.take_succ_cons, List.take_zero, List.drop_succ_cons, List.drop_zero, ne_eq, not_false_eq_true, Nat.add_zero, Nat.zero_add, Nat.mul_one, Int.cast_ofNat_Int, Int.reduceLE, Int.reduceLT, Int.reduceEq, Int.reduceNeg, Nat.le_refl, Nat.le_add_right, Nat.zero_le, forall_const]) (by simp) (SegLe.flat (Nat.le_refl _) id (.inr rfl) fun z hz => ⟨rfl, hfl z hz⟩) (impH.base0 hok (by simp) (((HExt.rfl.cons (Nat.le_refl n)).cons (by simp)).cons (by simp)))))
    · have hk8 : k = 8 := by omega
      subst hk8
      have hone : ones (.agg 192 fun j => c j) = True := hcf.ones
      simp only [go_sem, Nat.reduceBEq, Nat.reduceLT, Nat.reduceLeDiff, Nat.reduceAdd, Nat.reduceMul, Nat.reduceSub, Nat.reduceMod, Nat.reduceDiv, Nat.reduceEqDiff, Int.reduceToNat, Int.toNat_natCast, Bool.not_true, Bool.not_false, false_implies, true_implies, decide_true, decide_false, true_and, and_true, and_false, false_and, and_self, reduceIte, reduceCtorEq, Bool.false_eq_true, List.getElem?_cons_zero, List.getElem?_cons_succ, List.length_cons, List.length_nil, List.take_succ_cons, List.take_zero, List.drop_succ_cons, List.drop_zero, ne_eq, not_false_eq_true, Nat.add_zero, Nat.zero_add, Nat.mul_one, Int.cast_ofNat_Int, Int.reduceLE, Int.reduceLT, Int.reduceEq, Int.reduceNeg, Nat.le_refl, Nat.le_add_right, Nat.zero_le, forall_const, hone]
      exact ⟨c, hc, rfl⟩

end
end Go.Proofs.Ytebpkdolmlloaaa.V
