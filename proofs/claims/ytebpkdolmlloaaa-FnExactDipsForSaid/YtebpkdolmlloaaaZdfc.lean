/- Part 3 of the texts that this proof stands on: a symbolic walk over the program, what its functions and the reference's do, plain laws. -/
import Derived.Test.YtebpkdolmlloaaaZdfa
import Derived.Test.YtebpkdolmlloaaaV16
import Derived.Test.YtebpkdolmlloaaaZdfb
import Derived.Test.YtebpkdolmlloaaaV14
set_option linter.all false

/- The law's copy of three numbers: the walk. -/
namespace Go.Proofs.Ytebpkdolmlloaaa.V
section
variable (cx : Cx) (h : List (Nat × Seg)) (n : Nat)
theorem toInt16A3_Q (a b d : Int) : CallQ Try.prog cx 48 [.agg 3 (cl [.int .i16 a, .int .i16 b, .int .i16 d])] h n (.agg 3 (cl [.int .i16 a, .int .i16 b, .int .i16 d])) := by
  refine callQ_of_T (P := Try.prog) hti (nt := 15) (rs := [.cell 2 26]) rfl rfl Try.call48 Try.func48 rfl _ (by simp only [go_sem, and_self]) (Nat.le_of_ble_eq_true rfl) _ (by first | exact trivial | (refine lt_flat rfl ?_; simp [SV.flat]; done) | simp only [go_sem]) fun hok => ?_
  simp only [go_sem, Nat.reduceBEq, Nat.reduceLT, Nat.reduceLeDiff, Nat.reduceAdd, Nat.reduceMul, Nat.reduceSub, Nat.reduceMod, Nat.reduceDiv, Nat.reduceEqDiff, Int.reduceToNat, reduceIte, reduceCtorEq, Int.reduceLE, Int.reduceLT, Int.reduceEq, Int.reduceNeg, Int.reduceAdd, Int.reduceSub, Int.reduceMul]
  refine T_unroll 3 ?_
  simp only [go_sem, Nat.reduceBEq, Nat.reduceLT, Nat.reduceLeDiff, Nat.reduceAdd, Nat.reduceMul, Nat.reduceSub, Nat.reduceMod, Nat.reduceDiv, Nat.reduceEqDiff, Int.reduceToNat, reduceIte, reduceCtorEq, Int.reduceLE, Int.reduceLT, Int.reduceEq, Int.reduceNeg, Int.reduceAdd, Int.reduceSub, Int.reduceMul]
  refine U_step ?_
  simp only [go_sem, Nat.reduceBEq, Nat.reduceLT, Nat.reduceLeDiff, Nat.reduceAdd, Nat.reduceMul, Nat.reduceSub, Nat.reduceMod, Nat.reduceDiv, Nat.reduceEqDiff, Int.reduceToNat, reduceIte, reduceCtorEq, Int.reduceLE, Int.reduceLT, Int.reduceEq, Int.reduceNeg, Int.reduceAdd, Int.reduceSub, Int.reduceMul]
  refine U_step ?_
  simp only [go_sem, Nat.reduceBEq, Nat.reduceLT, Nat.reduceLeDiff, Nat.reduceAdd, Nat.reduceMul, Nat.reduceSub, Nat.reduceMod, Nat.reduceDiv, Nat.reduceEqDiff, Int.reduceToNat, reduceIte, reduceCtorEq, Int.reduceLE, Int.reduceLT, Int.reduceEq, Int.reduceNeg, Int.reduceAdd, Int.reduceSub, Int.reduceMul]
  refine U_step ?_
  simp only [go_sem, Nat.reduceBEq, Nat.reduceLT, Nat.reduceLeDiff, Nat.reduceAdd, Nat.reduceMul, Nat.reduceSub, Nat.reduceMod, Nat.reduceDiv, Nat.reduceEqDiff, Int.reduceToNat, reduceIte, reduceCtorEq, Int.reduceLE, Int.reduceLT, Int.reduceEq, Int.reduceNeg, Int.reduceAdd, Int.reduceSub, Int.reduceMul]
end
end Go.Proofs.Ytebpkdolmlloaaa.V

/- The law's copies of arrays of three numbers: the walk. -/
namespace Go.Proofs.Ytebpkdolmlloaaa.V
section
variable (cx : Cx) (h : List (Nat × Seg)) (n : Nat)

theorem toInt16A3A8_E (F : Nat → SV) (hF : ∀ j, j < 24 → ∃ v, F j = .int .i16 v) (K : HK) (hK : ∀ F', (∀ j, j < 24 → F' j = F j) → K (.agg 24 F') h n) : CallE Try.prog cx 78 [.agg 24 F] h n K := by
  have hfl : Flat 24 F := fun j hj => by obtain ⟨v, hv⟩ := hF j hj; rw [hv]; trivial
  refine CallE.imp0 (K := fun r h' n' => n ≤ n' ∧ HExt n h h' ∧ ∃ F', (∀ j, j < 24 → F' j = F j) ∧ r = .agg 24 F') ?_ ?_
  rotate_left
  · rintro hok r h' n' ⟨h0, hx, F', hF', rfl⟩
    exact ⟨.agg 24 F', h, n, Nat.le_refl _, by simp only [ren_nil], lt_aggF fun j hj => by rw [hF' j hj]; exact hfl j hj, impH.base0 hok (Nat.le_refl n) hx, hK F' hF'⟩
  refine callE_of_T (P := Try.prog) hti (nt := 16) (rs := [.cell 2 27]) rfl rfl Try.call78 Try.func78 rfl _ (by simp only [go_sem, and_self]) (Nat.le_of_ble_eq_true rfl) _ fun hok => ?_
  simp only [go_sem, Nat.reduceBEq, Nat.reduceLT, Nat.reduceLeDiff, Nat.reduceAdd, Nat.reduceMul, Nat.reduceSub, Nat.reduceMod, Nat.reduceDiv, Nat.reduceEqDiff, Int.reduceToNat, reduceIte, reduceCtorEq, Int.reduceLE, Int.reduceLT, Int.reduceEq, Int.reduceNeg, Int.reduceAdd, Int.reduceSub, Int.reduceMul]
  refine T_lp (ι := { q : Nat × (Nat → SV) // q.1 ≤ 8 ∧ (∀ j, j < q.1 * 3 → q.2 j = F j) ∧ Flat 24 q.2 })
    (fun q => ([(1, .ptr n 0), (2, .ptr (n + 1) 0), (3, .ptr (n + 2) 0), (4, .int .i64 q.1.1)], (n + 2, ⟨24, q.1.2, true, none⟩) :: (n + 1, ⟨24, (ti 27).z, true, none⟩) :: (n, ⟨24, F, true, none⟩) :: h, n + 3)) (fun q => 8 - q.1.1) ⟨(0, (ti 27).z), by omega, fun _ hj => by omega, fun _ _ => trivial⟩ ?_ ?_
  · refine Imp.id (by simp) ?_ ?_
    · simp only [go_sem, Nat.reduceBEq, Nat.reduceLT, Nat.reduceLeDiff, Nat.reduceAdd, Nat.reduceMul, Nat.reduceSub, Nat.reduceMod, Nat.reduceDiv, Nat.reduceEqDiff, Int.reduceToNat, reduceIte, reduceCtorEq, Int.reduceLE, Int.reduceLT, Int.reduceEq, Int.reduceNeg, Int.reduceAdd, Int.reduceSub, Int.reduceMul]
      omega
    · exact impH.cons0 (hget_hit _ _ _) (by simp) (SegLe.flat (Nat.le_refl _) id (.inr rfl) fun z hz => ⟨rfl, trivial⟩) (impH.cons0 ((hget_miss _ _ _ _ (by simp)).trans (hget_hit _ _ _)) (by simp) (SegLe.flat (Nat.le_refl _) id (.inr rfl) fun z hz => ⟨rfl, trivial⟩)
        (impH.cons0 (by simp only [go_sem, Nat.reduceBEq, Nat.reduceLT, Nat.reduceLeDiff, Nat.reduceAdd, Nat.reduceMul, Nat.reduceSub, Nat.reduceMod, Nat.reduceDiv, Nat.reduceEqDiff, Int.reduceToNat, reduceIte, reduceCtorEq, Int.reduceLE, Int.reduceLT, Int.reduceEq, Int.reduceNeg, Int.reduceAdd, Int.reduceSub, Int.reduceMul]) (by simp) (SegLe.flat (Nat.le_refl _) id (.inr rfl) fun z hz => ⟨rfl, hfl z hz⟩) (impH.base0 hok (by simp) (((HExt.rfl.cons (Nat.le_refl n)).cons (by simp)).cons (by simp)))))
  · rintro ⟨⟨k, c⟩, hk, hc, hcf⟩
    simp only at hk hc hcf
    simp only [go_sem, Nat.reduceBEq, Nat.reduceLT, Nat.reduceLeDiff, Nat.reduceAdd, Nat.reduceMul, Nat.reduceSub, Nat.reduceMod, Nat.reduceDiv, Nat.reduceEqDiff, Int.reduceToNat, reduceIte, reduceCtorEq, Int.reduceLE, Int.reduceLT, Int.reduceEq, Int.reduceNeg, Int.reduceAdd, Int.reduceSub, Int.reduceMul, decide_eq_true_eq, decide_eq_false_iff_not]
    refine ⟨fun h1 => ⟨⟨by omega, h1⟩, by omega, ?_⟩, fun h1 => ?_⟩
    · have hkr : (0 : Int) ≤ k ∧ (k : Int) < 8 := ⟨by omega, h1⟩
      obtain ⟨a0, e0⟩ := hF (k * 3) (by omega)
      obtain ⟨a1, e1⟩ := hF (k * 3 + 1) (by omega)
      obtain ⟨a2, e2⟩ := hF (k * 3 + 2) (by omega)
      rw [e0, e1, e2]
      refine (toInt16A3_Q _ _ _ a0 a1 a2).A ?_
      simp only [go_sem, Nat.reduceBEq, Nat.reduceLT, Nat.reduceLeDiff, Nat.reduceAdd, Nat.reduceMul, Nat.reduceSub, Nat.reduceMod, Nat.reduceDiv, Nat.reduceEqDiff, Int.reduceToNat, reduceIte, reduceCtorEq, Int.reduceLE, Int.reduceLT, Int.reduceEq, Int.reduceNeg, Int.reduceAdd, Int.reduceSub, Int.reduceMul, hkr]
      have hfl' : Flat 3 (cl [SV.int .i16 a0, SV.int .i16 a1, SV.int .i16 a2]) := fun j hj => cl_flat (l := [_, _, _]) (by simp [SV.flat]) hj
      have hF' : ∀ j, j < 3 → cl [SV.int .i16 a0, SV.int .i16 a1, SV.int .i16 a2] j = F (k * 3 + j) := by
        intro j hj
        rcases (by omega : j = 0 ∨ j = 1 ∨ j = 2) with rfl | rfl | rfl
        · exact e0.symm
        · exact e1.symm
        · exact e2.symm
      generalize cl [SV.int .i16 a0, SV.int .i16 a1, SV.int .i16 a2] = F' at *
      have hput : ∀ j, j < 24 → (if k * 3 ≤ j ∧ j < k * 3 + 3 then F' (j - k * 3) else c j).flat := fun j hj => by
        split
        · rename_i h; exact hfl' _ (by omega)
        · exact hcf j hj
      refine ⟨by omega, ⟨(k + 1, fun j => if k * 3 ≤ j ∧ j < k * 3 + 3 then F' (j - k * 3) else c j), by omega, fun j hj => ?_, hput⟩, by show 8 - (k + 1) < 8 - k; omega, ?_⟩
      · have hj : j < (k + 1) * 3 := hj
        show (if k * 3 ≤ j ∧ j < k * 3 + 3 then F' (j - k * 3) else c j) = F j
        split
        · rename_i h; rw [hF' _ (by omega), show k * 3 + (j - k * 3) = j by omega]
        · exact hc j (by omega)
      · refine Imp.id (by simp) ?_ ?_
        · simp only [go_sem, Nat.reduceBEq, Nat.reduceLT, Nat.reduceLeDiff, Nat.reduceAdd, Nat.reduceMul, Nat.reduceSub, Nat.reduceMod, Nat.reduceDiv, Nat.reduceEqDiff, Int.reduceToNat, reduceIte, reduceCtorEq, Int.reduceLE, Int.reduceLT, Int.reduceEq, Int.reduceNeg, Int.reduceAdd, Int.reduceSub, Int.reduceMul, w64 (n := (k : Int) + 1) (by omega), Int.natCast_add, Int.natCast_one]
          omega
        · exact impH.cons0 (hget_hit _ _ _) (by simp) (SegLe.flat (Nat.le_refl _) id (.inr rfl) fun z hz => ⟨rfl, hput z hz⟩) (impH.cons0 ((hget_miss _ _ _ _ (by simp)).trans (hget_hit _ _ _)) (by simp) (SegLe.flat (Nat.le_refl _) id (.inr rfl) fun z hz => ⟨rfl, trivial⟩)
            (impH.cons0 (by simp only [go_sem, Nat.reduceBEq, Nat.reduceLT, Nat.reduceLeDiff, Nat.reduceAdd, Nat.reduceMul, Nat.reduceSub, Nat.reduceMod, Nat.reduceDiv, Nat.reduceEqDiff, Int.reduceToNat, reduceIte, reduceCtorEq, Int.reduceLE, Int.reduceLT, Int.reduceEq, Int.reduceNeg, Int.reduceAdd, Int.reduceSub, Int.reduceMul]) (by simp) (SegLe.flat (Nat.le_refl _) id (.inr rfl) fun z hz => ⟨rfl, hfl z hz⟩) (impH.base0 hok (by simp) (((HExt.rfl.cons (Nat.le_refl n)).cons (by simp)).cons (by simp)))))
    · have hk8 : k = 8 := by omega
      subst hk8
      have hone : ones (.agg 24 fun j => c j) = True := hcf.ones
      simp only [go_sem, Nat.reduceBEq, Nat.reduceLT, Nat.reduceLeDiff, Nat.reduceAdd, Nat.reduceMul, Nat.reduceSub, Nat.reduceMod, Nat.reduceDiv, Nat.reduceEqDiff, Int.reduceToNat, reduceIte, reduceCtorEq, Int.reduceLE, Int.reduceLT, Int.reduceEq, Int.reduceNeg, Int.reduceAdd, Int.reduceSub, Int.reduceMul, hone]
      exact ⟨c, hc, rfl⟩

theorem toInt16A3A8A8_E (F : Nat → SV) (hF : ∀ j, j < 192 → ∃ v, F j = .int .i16 v) (K : HK) (hK : ∀ F', (∀ j, j < 192 → F' j = F j) → K (.agg 192 F') h n) : CallE Try.prog cx 34 [.agg 192 F] h n K := by
  have hfl : Flat 192 F := fun j hj => by obtain ⟨v, hv⟩ := hF j hj; rw [hv]; trivial
  refine CallE.imp0 (K := fun r h' n' => n ≤ n' ∧ HExt n h h' ∧ ∃ F', (∀ j, j < 192 → F' j = F j) ∧ r = .agg 192 F') ?_ ?_
  rotate_left
  · rintro hok r h' n' ⟨h0, hx, F', hF', rfl⟩
    exact ⟨.agg 192 F', h, n, Nat.le_refl _, by simp only [ren_nil], lt_aggF fun j hj => by rw [hF' j hj]; exact hfl j hj, impH.base0 hok (Nat.le_refl n) hx, hK F' hF'⟩
  refine callE_of_T (P := Try.prog) hti (nt := 16) (rs := [.cell 2 28]) rfl rfl Try.call34 Try.func34 rfl _ (by simp only [go_sem, and_self]) (Nat.le_of_ble_eq_true rfl) _ fun hok => ?_
  simp only [go_sem, Nat.reduceBEq, Nat.reduceLT, Nat.reduceLeDiff, Nat.reduceAdd, Nat.reduceMul, Nat.reduceSub, Nat.reduceMod, Nat.reduceDiv, Nat.reduceEqDiff, Int.reduceToNat, reduceIte, reduceCtorEq, Int.reduceLE, Int.reduceLT, Int.reduceEq, Int.reduceNeg, Int.reduceAdd, Int.reduceSub, Int.reduceMul]
  refine T_lp (ι := { q : Nat × (Nat → SV) // q.1 ≤ 8 ∧ (∀ j, j < q.1 * 24 → q.2 j = F j) ∧ Flat 192 q.2 })
    (fun q => ([(1, .ptr n 0), (2, .ptr (n + 1) 0), (3, .ptr (n + 2) 0), (4, .int .i64 q.1.1)], (n + 2, ⟨192, q.1.2, true, none⟩) :: (n + 1, ⟨192, (ti 28).z, true, none⟩) :: (n, ⟨192, F, true, none⟩) :: h, n + 3)) (fun q => 8 - q.1.1) ⟨(0, (ti 28).z), by omega, fun _ hj => by omega, fun _ _ => trivial⟩ ?_ ?_
  · refine Imp.id (by simp) ?_ ?_
    · simp only [go_sem, Nat.reduceBEq, Nat.reduceLT, Nat.reduceLeDiff, Nat.reduceAdd, Nat.reduceMul, Nat.reduceSub, Nat.reduceMod, Nat.reduceDiv, Nat.reduceEqDiff, Int.reduceToNat, reduceIte, reduceCtorEq, Int.reduceLE, Int.reduceLT, Int.reduceEq, Int.reduceNeg, Int.reduceAdd, Int.reduceSub, Int.reduceMul]
      omega
    · exact impH.cons0 (hget_hit _ _ _) (by simp) (SegLe.flat (Nat.le_refl _) id (.inr rfl) fun z hz => ⟨rfl, trivial⟩) (impH.cons0 ((hget_miss _ _ _ _ (by simp)).trans (hget_hit _ _ _)) (by simp) (SegLe.flat (Nat.le_refl _) id (.inr rfl) fun z hz => ⟨rfl, trivial⟩)
        (impH.cons0 (by simp only [go_sem, Nat.reduceBEq, Nat.reduceLT, Nat.reduceLeDiff, Nat.reduceAdd, Nat.reduceMul, Nat.reduceSub, Nat.reduceMod, Nat.reduceDiv, Nat.reduceEqDiff, Int.reduceToNat, reduceIte, reduceCtorEq, Int.reduceLE, Int.reduceLT, Int.reduceEq, Int.reduceNeg, Int.reduceAdd, Int.reduceSub, Int.reduceMul]) (by simp) (SegLe.flat (Nat.le_refl _) id (.inr rfl) fun z hz => ⟨rfl, hfl z hz⟩) (impH.base0 hok (by simp) (((HExt.rfl.cons (Nat.le_refl n)).cons (by simp)).cons (by simp)))))
  · rintro ⟨⟨k, c⟩, hk, hc, hcf⟩
    simp only at hk hc hcf
    simp only [go_sem, Nat.reduceBEq, Nat.reduceLT, Nat.reduceLeDiff, Nat.reduceAdd, Nat.reduceMul, Nat.reduceSub, Nat.reduceMod, Nat.reduceDiv, Nat.reduceEqDiff, Int.reduceToNat, reduceIte, reduceCtorEq, Int.reduceLE, Int.reduceLT, Int.reduceEq, Int.reduceNeg, Int.reduceAdd, Int.reduceSub, Int.reduceMul, decide_eq_true_eq, decide_eq_false_iff_not]
    refine ⟨fun h1 => ⟨⟨by omega, h1⟩, by omega, ?_⟩, fun h1 => ?_⟩
    · have hkr : (0 : Int) ≤ k ∧ (k : Int) < 8 := ⟨by omega, h1⟩
      refine callA_false (toInt16A3A8_E _ _ _ (fun j => F (k * 24 + j)) (fun j hj => hF (k * 24 + j) (by omega)) _ fun F' hF' => ?_)
      have hfl' : Flat 24 F' := fun j hj => by rw [hF' j hj]; exact hfl _ (by omega)
      simp only [go_sem, Nat.reduceBEq, Nat.reduceLT, Nat.reduceLeDiff, Nat.reduceAdd, Nat.reduceMul, Nat.reduceSub, Nat.reduceMod, Nat.reduceDiv, Nat.reduceEqDiff, Int.reduceToNat, reduceIte, reduceCtorEq, Int.reduceLE, Int.reduceLT, Int.reduceEq, Int.reduceNeg, Int.reduceAdd, Int.reduceSub, Int.reduceMul, hkr, hfl'.ones]
      have hput : ∀ j, j < 192 → (if k * 24 ≤ j ∧ j < k * 24 + 24 then F' (j - k * 24) else c j).flat := fun j hj => by
        split
        · rename_i h; exact hfl' _ (by omega)
        · exact hcf j hj
      refine ⟨by omega, ⟨(k + 1, fun j => if k * 24 ≤ j ∧ j < k * 24 + 24 then F' (j - k * 24) else c j), by omega, fun j hj => ?_, hput⟩, by show 8 - (k + 1) < 8 - k; omega, ?_⟩
      · have hj : j < (k + 1) * 24 := hj
        show (if k * 24 ≤ j ∧ j < k * 24 + 24 then F' (j - k * 24) else c j) = F j
        split
        · rename_i h; rw [hF' _ (by omega), show k * 24 + (j - k * 24) = j by omega]
        · exact hc j (by omega)
      · refine Imp.id (by simp) ?_ ?_
        · simp only [go_sem, Nat.reduceBEq, Nat.reduceLT, Nat.reduceLeDiff, Nat.reduceAdd, Nat.reduceMul, Nat.reduceSub, Nat.reduceMod, Nat.reduceDiv, Nat.reduceEqDiff, Int.reduceToNat, reduceIte, reduceCtorEq, Int.reduceLE, Int.reduceLT, Int.reduceEq, Int.reduceNeg, Int.reduceAdd, Int.reduceSub, Int.reduceMul, w64 (n := (k : Int) + 1) (by omega), Int.natCast_add, Int.natCast_one]
          omega
        · exact impH.cons0 (hget_hit _ _ _) (by simp) (SegLe.flat (Nat.le_refl _) id (.inr rfl) fun z hz => ⟨rfl, hput z hz⟩) (impH.cons0 ((hget_miss _ _ _ _ (by simp)).trans (hget_hit _ _ _)) (by simp) (SegLe.flat (Nat.le_refl _) id (.inr rfl) fun z hz => ⟨rfl, trivial⟩)
            (impH.cons0 (by simp only [go_sem, Nat.reduceBEq, Nat.reduceLT, Nat.reduceLeDiff, Nat.reduceAdd, Nat.reduceMul, Nat.reduceSub, Nat.reduceMod, Nat.reduceDiv, Nat.reduceEqDiff, Int.reduceToNat, reduceIte, reduceCtorEq, Int.reduceLE, Int.reduceLT, Int.reduceEq, Int.reduceNeg, Int.reduceAdd, Int.reduceSub, Int.reduceMul]) (by simp) (SegLe.flat (Nat.le_refl _) id (.inr rfl) fun z hz => ⟨rfl, hfl z hz⟩) (impH.base0 hok (by simp) (((HExt.rfl.cons (Nat.le_refl n)).cons (by simp)).cons (by simp)))))
    · have hk8 : k = 8 := by omega
      subst hk8
      have hone : ones (.agg 192 fun j => c j) = True := hcf.ones
      simp only [go_sem, Nat.reduceBEq, Nat.reduceLT, Nat.reduceLeDiff, Nat.reduceAdd, Nat.reduceMul, Nat.reduceSub, Nat.reduceMod, Nat.reduceDiv, Nat.reduceEqDiff, Int.reduceToNat, reduceIte, reduceCtorEq, Int.reduceLE, Int.reduceLT, Int.reduceEq, Int.reduceNeg, Int.reduceAdd, Int.reduceSub, Int.reduceMul, hone]
      exact ⟨c, hc, rfl⟩

end
end Go.Proofs.Ytebpkdolmlloaaa.V

/- The law's copy of a sheet: the walk. -/
namespace Go.Proofs.Ytebpkdolmlloaaa.V
theorem ShF.congr {F F' : Nat → SV} {S : Sh} (h : ShF F S) (he : ∀ j, j < 266 → F' j = F j) : ShF F' S :=
  ⟨h.R, (he 0 (by omega)).trans h.wide, (he 1 (by omega)).trans h.high, fun y x a b c d => (he _ (by omega)).trans (h.wet y x a b c d), fun y x i a b c d e f => (he _ (by omega)).trans (h.dye y x i a b c d e f), fun y a b => (he _ (by omega)).trans (h.wax y a b)⟩
theorem ShF.wetC {F : Nat → SV} {S : Sh} (h : ShF F S) (j : Nat) (hj : j < 64) : ∃ v, F (2 + j) = .int .i16 v := by
  have := h.wet ((j / 8 : Nat) : Int) ((j % 8 : Nat) : Int) (by omega) (by omega) (by omega) (by omega)
  simp only [Int.toNat_natCast] at this
  exact ⟨_, by rw [show 2 + j = 2 + j / 8 * 8 + j % 8 by omega]; exact this⟩
theorem ShF.dyeC {F : Nat → SV} {S : Sh} (h : ShF F S) (j : Nat) (hj : j < 192) : ∃ v, F (66 + j) = .int .i16 v := by
  have := h.dye ((j / 24 : Nat) : Int) ((j % 24 / 3 : Nat) : Int) ((j % 3 : Nat) : Int) (by omega) (by omega) (by omega) (by omega) (by omega) (by omega)
  simp only [Int.toNat_natCast] at this
  exact ⟨_, by rw [show 66 + j = 66 + j / 24 * 24 + j % 24 / 3 * 3 + j % 3 by omega]; exact this⟩
theorem ShF.waxC {F : Nat → SV} {S : Sh} (h : ShF F S) (j : Nat) (hj : j < 8) : ∃ v, F (258 + j) = .int .u8 v := by
  have := h.wax (j : Int) (by omega) (by omega)
  simp only [Int.toNat_natCast] at this
  exact ⟨_, this⟩
theorem ShF.wetS {F : Nat → SV} {S : Sh} (h : ShF F S) (j : Nat) (hj : j < 64) : F (2 + j) = .int .i16 (S.wet ((j / 8 : Nat) : Int) ((j % 8 : Nat) : Int)) := by
  have := h.wet ((j / 8 : Nat) : Int) ((j % 8 : Nat) : Int) (by omega) (by omega) (by omega) (by omega)
  simp only [Int.toNat_natCast] at this
  rw [show 2 + j = 2 + j / 8 * 8 + j % 8 by omega]; exact this
theorem ShF.dyeS {F : Nat → SV} {S : Sh} (h : ShF F S) (j : Nat) (hj : j < 192) : F (66 + j) = .int .i16 (S.dye ((j / 24 : Nat) : Int) ((j % 24 / 3 : Nat) : Int) ((j % 3 : Nat) : Int)) := by
  have := h.dye ((j / 24 : Nat) : Int) ((j % 24 / 3 : Nat) : Int) ((j % 3 : Nat) : Int) (by omega) (by omega) (by omega) (by omega) (by omega) (by omega)
  simp only [Int.toNat_natCast] at this
  rw [show 66 + j = 66 + j / 24 * 24 + j % 24 / 3 * 3 + j % 3 by omega]; exact this
theorem ShF.waxS {F : Nat → SV} {S : Sh} (h : ShF F S) (j : Nat) (hj : j < 8) : F (258 + j) = .int .u8 (S.wax (j : Int)) := by
  have := h.wax (j : Int) (by omega) (by omega)
  simp only [Int.toNat_natCast] at this
  exact this
def sh0 : Sh := ⟨0, 0, fun _ _ => 0, fun _ _ _ => 0, fun _ => 0⟩
theorem ShF.zero {F : Nat → SV} (h : ∀ j, F j = zeroC j) : ShF F sh0 where
  R := ⟨by simp [sh0], by simp [sh0], fun y x => by simp [sh0], fun y x i => by simp [sh0], fun y => by simp [sh0]⟩
  wide := h 0
  high := h 1
  wet := fun y x a b c d => by rw [h]; unfold zeroC; rw [if_neg (by omega), if_pos (by omega)]; rfl
  dye := fun y x i a b c d e f => by rw [h]; unfold zeroC; rw [if_neg (by omega), if_pos (by omega)]; rfl
  wax := fun y a b => by rw [h]; unfold zeroC; rw [if_neg (by omega), if_neg (by omega)]; rfl
section
variable (cx : Cx) (h : List (Nat × Seg)) (n : Nat)
theorem toSheet_E (F : Nat → SV) (S : Sh) (hF : ShF F S) (K : HK) (hK : ∀ F', ShF F' S → K (.agg 266 F') h n) : CallE Try.prog cx 8 [.agg 266 F] h n K := by
  refine CallE.imp0 (K := fun r h' n' => n ≤ n' ∧ HExt n h h' ∧ ∃ F', ShF F' S ∧ r = .agg 266 F') ?_ ?_
  rotate_left
  · rintro hok r h' n' ⟨h0, hx, F', hF', rfl⟩
    exact ⟨.agg 266 F', h, n, Nat.le_refl _, by simp only [ren_nil], lt_aggF fun j hj => hF'.flat hj, impH.base0 hok (Nat.le_refl n) hx, hK F' hF'⟩
  refine callE_of_T (P := Try.prog) hti (nt := 23) (rs := [.cell 2 32]) rfl rfl Try.call8 Try.func8 rfl _ (by simp only [go_sem, and_self]) (Nat.le_of_ble_eq_true rfl) _ fun hok => ?_
  simp only [go_sem, Nat.reduceBEq, Nat.reduceLT, Nat.reduceLeDiff, Nat.reduceAdd, Nat.reduceMul, Nat.reduceSub, Nat.reduceMod, Nat.reduceDiv, Nat.reduceEqDiff, Int.reduceToNat, reduceIte, reduceCtorEq, Int.reduceLE, Int.reduceLT, Int.reduceEq, Int.reduceNeg, Int.reduceAdd, Int.reduceSub, Int.reduceMul, hF.wide, hF.high]
  refine callA_false (toInt16A8A8_E _ _ _ (fun j => F (2 + j)) (fun j hj => hF.wetC j hj) _ fun F1 hF1 => ?_)
  have f1 : Flat 64 F1 := fun j hj => by rw [hF1 j hj]; obtain ⟨v, hv⟩ := hF.wetC j hj; rw [hv]; trivial
  simp only [go_sem, Nat.reduceBEq, Nat.reduceLT, Nat.reduceLeDiff, Nat.reduceAdd, Nat.reduceMul, Nat.reduceSub, Nat.reduceMod, Nat.reduceDiv, Nat.reduceEqDiff, Int.reduceToNat, reduceIte, reduceCtorEq, Int.reduceLE, Int.reduceLT, Int.reduceEq, Int.reduceNeg, Int.reduceAdd, Int.reduceSub, Int.reduceMul, f1.ones]
  refine callA_false (toInt16A3A8A8_E _ _ _ (fun j => F (66 + j)) (fun j hj => hF.dyeC j hj) _ fun F2 hF2 => ?_)
  have f2 : Flat 192 F2 := fun j hj => by rw [hF2 j hj]; obtain ⟨v, hv⟩ := hF.dyeC j hj; rw [hv]; trivial
  simp only [go_sem, Nat.reduceBEq, Nat.reduceLT, Nat.reduceLeDiff, Nat.reduceAdd, Nat.reduceMul, Nat.reduceSub, Nat.reduceMod, Nat.reduceDiv, Nat.reduceEqDiff, Int.reduceToNat, reduceIte, reduceCtorEq, Int.reduceLE, Int.reduceLT, Int.reduceEq, Int.reduceNeg, Int.reduceAdd, Int.reduceSub, Int.reduceMul, f2.ones]
  refine callA_false (toByteA8_E _ _ _ (fun j => F (258 + j)) (fun j hj => hF.waxC j hj) _ fun F3 hF3 => ?_)
  have f3 : Flat 8 F3 := fun j hj => by rw [hF3 j hj]; obtain ⟨v, hv⟩ := hF.waxC j hj; rw [hv]; trivial
  simp only [go_sem, Nat.reduceBEq, Nat.reduceLT, Nat.reduceLeDiff, Nat.reduceAdd, Nat.reduceMul, Nat.reduceSub, Nat.reduceMod, Nat.reduceDiv, Nat.reduceEqDiff, Int.reduceToNat, reduceIte, reduceCtorEq, Int.reduceLE, Int.reduceLT, Int.reduceEq, Int.reduceNeg, Int.reduceAdd, Int.reduceSub, Int.reduceMul, f3.ones]
  have hR : ShF (fun j => if 258 ≤ j ∧ j < 266 then F3 (j - 258) else if 66 ≤ j ∧ j < 258 then F2 (j - 66) else if 2 ≤ j ∧ j < 66 then F1 (j - 2) else upd (upd zz_873988 0 (.int .i8 S.wide)) 1 (.int .i8 S.high) j) S := by
    refine hF.congr fun j hj => ?_
    by_cases c1 : 258 ≤ j
    · rw [if_pos ⟨c1, hj⟩, hF3 _ (by omega), show 258 + (j - 258) = j by omega]
    rw [if_neg (by omega)]
    by_cases c2 : 66 ≤ j
    · rw [if_pos ⟨c2, by omega⟩, hF2 _ (by omega), show 66 + (j - 66) = j by omega]
    rw [if_neg (by omega)]
    by_cases c3 : 2 ≤ j
    · rw [if_pos ⟨c3, by omega⟩, hF1 _ (by omega), show 2 + (j - 2) = j by omega]
    rw [if_neg (by omega)]
    rcases (by omega : j = 0 ∨ j = 1) with rfl | rfl
    · rw [hF.wide]; rfl
    · rw [hF.high]; rfl
  exact ⟨of_eq_true hR.ones, _, hR, rfl⟩
end
end Go.Proofs.Ytebpkdolmlloaaa.V

/- The law's comparisons of arrays that are alike: the walk. -/
namespace Go.Proofs.Ytebpkdolmlloaaa.V
section
variable (cx : Cx) (h : List (Nat × Seg)) (n : Nat)

theorem eqInt16A8_Q (F G : Nat → SV) (hF : ∀ j, j < 8 → ∃ v, F j = .int .i16 v) (hG : ∀ j, j < 8 → G j = F j) : CallQ Try.prog cx 84 [.agg 8 F, .agg 8 G] h n (.bool true) := by
  have hfl : Flat 8 F := fun j hj => by obtain ⟨v, hv⟩ := hF j hj; rw [hv]; trivial
  have hfG : Flat 8 G := fun j hj => by rw [hG j hj]; exact hfl j hj
  refine callQ_of_T (P := Try.prog) hti (nt := 17) (rs := [.tmp 4]) rfl rfl Try.call84 Try.func84 rfl _ (by simp only [go_sem, and_self]) (Nat.le_of_ble_eq_true rfl) _ (by first | exact trivial | (refine lt_flat rfl ?_; simp [SV.flat]; done) | simp only [go_sem]) fun hok => ?_
  simp only [go_sem, Nat.reduceBEq, Nat.reduceLT, Nat.reduceLeDiff, Nat.reduceAdd, Nat.reduceMul, Nat.reduceSub, Nat.reduceMod, Nat.reduceDiv, Nat.reduceEqDiff, Int.reduceToNat, reduceIte, reduceCtorEq, Int.reduceLE, Int.reduceLT, Int.reduceEq, Int.reduceNeg, Int.reduceAdd, Int.reduceSub, Int.reduceMul]
  refine T_lp (ι := { q : Nat // q ≤ 8 })
    (fun q => ([(2, .ptr n 0), (3, .ptr (n + 1) 0), (4, .bool false), (5, .int .i64 q.1)], (n + 1, ⟨8, G, true, none⟩) :: (n, ⟨8, F, true, none⟩) :: h, n + 2)) (fun q => 8 - q.1) ⟨0, by omega⟩ ?_ ?_
  · refine Imp.id (by simp) ?_ ?_
    · simp only [go_sem, Nat.reduceBEq, Nat.reduceLT, Nat.reduceLeDiff, Nat.reduceAdd, Nat.reduceMul, Nat.reduceSub, Nat.reduceMod, Nat.reduceDiv, Nat.reduceEqDiff, Int.reduceToNat, reduceIte, reduceCtorEq, Int.reduceLE, Int.reduceLT, Int.reduceEq, Int.reduceNeg, Int.reduceAdd, Int.reduceSub, Int.reduceMul]
      omega
    · exact impH.cons0 (hget_hit _ _ _) (by simp) (SegLe.flat (Nat.le_refl _) id (.inr rfl) fun z hz => ⟨rfl, hfG z hz⟩) (impH.cons0 ((hget_miss _ _ _ _ (by simp)).trans (hget_hit _ _ _)) (by simp) (SegLe.flat (Nat.le_refl _) id (.inr rfl) fun z hz => ⟨rfl, hfl z hz⟩)
          (impH.base0 hok (by simp) ((HExt.rfl.cons (Nat.le_refl n)).cons (by simp))))
  · rintro ⟨k, hk⟩
    simp only [go_sem, Nat.reduceBEq, Nat.reduceLT, Nat.reduceLeDiff, Nat.reduceAdd, Nat.reduceMul, Nat.reduceSub, Nat.reduceMod, Nat.reduceDiv, Nat.reduceEqDiff, Int.reduceToNat, reduceIte, reduceCtorEq, Int.reduceLE, Int.reduceLT, Int.reduceEq, Int.reduceNeg, Int.reduceAdd, Int.reduceSub, Int.reduceMul, decide_eq_true_eq, decide_eq_false_iff_not]
    refine ⟨fun h1 => ?_, fun h1 => ?_⟩
    · have hkr : (0 : Int) ≤ k ∧ (k : Int) < 8 := ⟨by omega, h1⟩
      obtain ⟨v, hv⟩ := hF k (by omega)
      have hv' : G k = .int .i16 v := (hG k (by omega)).trans hv
      refine T_draw hti _ _ (by kernel_rfl) (by kernel_rfl) ?_
      simp only [go_sem, Nat.reduceBEq, Nat.reduceLT, Nat.reduceLeDiff, Nat.reduceAdd, Nat.reduceMul, Nat.reduceSub, Nat.reduceMod, Nat.reduceDiv, Nat.reduceEqDiff, Int.reduceToNat, reduceIte, reduceCtorEq, Int.reduceLE, Int.reduceLT, Int.reduceEq, Int.reduceNeg, Int.reduceAdd, Int.reduceSub, Int.reduceMul, hkr, hv, hv']
      refine ⟨by omega, by omega, ⟨k + 1, by omega⟩, by show 8 - (k + 1) < 8 - k; omega, ?_⟩
      refine Imp.id (by simp) ?_ ?_
      · simp only [go_sem, Nat.reduceBEq, Nat.reduceLT, Nat.reduceLeDiff, Nat.reduceAdd, Nat.reduceMul, Nat.reduceSub, Nat.reduceMod, Nat.reduceDiv, Nat.reduceEqDiff, Int.reduceToNat, reduceIte, reduceCtorEq, Int.reduceLE, Int.reduceLT, Int.reduceEq, Int.reduceNeg, Int.reduceAdd, Int.reduceSub, Int.reduceMul, w64 (n := (k : Int) + 1) (by omega), Int.natCast_add, Int.natCast_one]
        omega
      · exact impH.cons0 (hget_hit _ _ _) (by simp) (SegLe.flat (Nat.le_refl _) id (.inr rfl) fun z hz => ⟨rfl, hfG z hz⟩) (impH.cons0 ((hget_miss _ _ _ _ (by simp)).trans (hget_hit _ _ _)) (by simp) (SegLe.flat (Nat.le_refl _) id (.inr rfl) fun z hz => ⟨rfl, hfl z hz⟩)
          (impH.base0 hok (by simp) ((HExt.rfl.cons (Nat.le_refl n)).cons (by simp))))
    · have hk8 : k = 8 := by omega
      subst hk8
      simp only [go_sem, Nat.reduceBEq, Nat.reduceLT, Nat.reduceLeDiff, Nat.reduceAdd, Nat.reduceMul, Nat.reduceSub, Nat.reduceMod, Nat.reduceDiv, Nat.reduceEqDiff, Int.reduceToNat, reduceIte, reduceCtorEq, Int.reduceLE, Int.reduceLT, Int.reduceEq, Int.reduceNeg, Int.reduceAdd, Int.reduceSub, Int.reduceMul]

theorem eqByteA8_Q (F G : Nat → SV) (hF : ∀ j, j < 8 → ∃ v, F j = .int .u8 v) (hG : ∀ j, j < 8 → G j = F j) : CallQ Try.prog cx 42 [.agg 8 F, .agg 8 G] h n (.bool true) := by
  have hfl : Flat 8 F := fun j hj => by obtain ⟨v, hv⟩ := hF j hj; rw [hv]; trivial
  have hfG : Flat 8 G := fun j hj => by rw [hG j hj]; exact hfl j hj
  refine callQ_of_T (P := Try.prog) hti (nt := 17) (rs := [.tmp 4]) rfl rfl Try.call42 Try.func42 rfl _ (by simp only [go_sem, and_self]) (Nat.le_of_ble_eq_true rfl) _ (by first | exact trivial | (refine lt_flat rfl ?_; simp [SV.flat]; done) | simp only [go_sem]) fun hok => ?_
  simp only [go_sem, Nat.reduceBEq, Nat.reduceLT, Nat.reduceLeDiff, Nat.reduceAdd, Nat.reduceMul, Nat.reduceSub, Nat.reduceMod, Nat.reduceDiv, Nat.reduceEqDiff, Int.reduceToNat, reduceIte, reduceCtorEq, Int.reduceLE, Int.reduceLT, Int.reduceEq, Int.reduceNeg, Int.reduceAdd, Int.reduceSub, Int.reduceMul]
  refine T_lp (ι := { q : Nat // q ≤ 8 })
    (fun q => ([(2, .ptr n 0), (3, .ptr (n + 1) 0), (4, .bool false), (5, .int .i64 q.1)], (n + 1, ⟨8, G, true, none⟩) :: (n, ⟨8, F, true, none⟩) :: h, n + 2)) (fun q => 8 - q.1) ⟨0, by omega⟩ ?_ ?_
  · refine Imp.id (by simp) ?_ ?_
    · simp only [go_sem, Nat.reduceBEq, Nat.reduceLT, Nat.reduceLeDiff, Nat.reduceAdd, Nat.reduceMul, Nat.reduceSub, Nat.reduceMod, Nat.reduceDiv, Nat.reduceEqDiff, Int.reduceToNat, reduceIte, reduceCtorEq, Int.reduceLE, Int.reduceLT, Int.reduceEq, Int.reduceNeg, Int.reduceAdd, Int.reduceSub, Int.reduceMul]
      omega
    · exact impH.cons0 (hget_hit _ _ _) (by simp) (SegLe.flat (Nat.le_refl _) id (.inr rfl) fun z hz => ⟨rfl, hfG z hz⟩) (impH.cons0 ((hget_miss _ _ _ _ (by simp)).trans (hget_hit _ _ _)) (by simp) (SegLe.flat (Nat.le_refl _) id (.inr rfl) fun z hz => ⟨rfl, hfl z hz⟩)
          (impH.base0 hok (by simp) ((HExt.rfl.cons (Nat.le_refl n)).cons (by simp))))
  · rintro ⟨k, hk⟩
    simp only [go_sem, Nat.reduceBEq, Nat.reduceLT, Nat.reduceLeDiff, Nat.reduceAdd, Nat.reduceMul, Nat.reduceSub, Nat.reduceMod, Nat.reduceDiv, Nat.reduceEqDiff, Int.reduceToNat, reduceIte, reduceCtorEq, Int.reduceLE, Int.reduceLT, Int.reduceEq, Int.reduceNeg, Int.reduceAdd, Int.reduceSub, Int.reduceMul, decide_eq_true_eq, decide_eq_false_iff_not]
    refine ⟨fun h1 => ?_, fun h1 => ?_⟩
    · have hkr : (0 : Int) ≤ k ∧ (k : Int) < 8 := ⟨by omega, h1⟩
      obtain ⟨v, hv⟩ := hF k (by omega)
      have hv' : G k = .int .u8 v := (hG k (by omega)).trans hv
      refine T_draw hti _ _ (by kernel_rfl) (by kernel_rfl) ?_
      simp only [go_sem, Nat.reduceBEq, Nat.reduceLT, Nat.reduceLeDiff, Nat.reduceAdd, Nat.reduceMul, Nat.reduceSub, Nat.reduceMod, Nat.reduceDiv, Nat.reduceEqDiff, Int.reduceToNat, reduceIte, reduceCtorEq, Int.reduceLE, Int.reduceLT, Int.reduceEq, Int.reduceNeg, Int.reduceAdd, Int.reduceSub, Int.reduceMul, hkr, hv, hv']
      refine ⟨by omega, by omega, ⟨k + 1, by omega⟩, by show 8 - (k + 1) < 8 - k; omega, ?_⟩
      refine Imp.id (by simp) ?_ ?_
      · simp only [go_sem, Nat.reduceBEq, Nat.reduceLT, Nat.reduceLeDiff, Nat.reduceAdd, Nat.reduceMul, Nat.reduceSub, Nat.reduceMod, Nat.reduceDiv, Nat.reduceEqDiff, Int.reduceToNat, reduceIte, reduceCtorEq, Int.reduceLE, Int.reduceLT, Int.reduceEq, Int.reduceNeg, Int.reduceAdd, Int.reduceSub, Int.reduceMul, w64 (n := (k : Int) + 1) (by omega), Int.natCast_add, Int.natCast_one]
        omega
      · exact impH.cons0 (hget_hit _ _ _) (by simp) (SegLe.flat (Nat.le_refl _) id (.inr rfl) fun z hz => ⟨rfl, hfG z hz⟩) (impH.cons0 ((hget_miss _ _ _ _ (by simp)).trans (hget_hit _ _ _)) (by simp) (SegLe.flat (Nat.le_refl _) id (.inr rfl) fun z hz => ⟨rfl, hfl z hz⟩)
          (impH.base0 hok (by simp) ((HExt.rfl.cons (Nat.le_refl n)).cons (by simp))))
    · have hk8 : k = 8 := by omega
      subst hk8
      simp only [go_sem, Nat.reduceBEq, Nat.reduceLT, Nat.reduceLeDiff, Nat.reduceAdd, Nat.reduceMul, Nat.reduceSub, Nat.reduceMod, Nat.reduceDiv, Nat.reduceEqDiff, Int.reduceToNat, reduceIte, reduceCtorEq, Int.reduceLE, Int.reduceLT, Int.reduceEq, Int.reduceNeg, Int.reduceAdd, Int.reduceSub, Int.reduceMul]

theorem eqInt16A8A8_Q (F G : Nat → SV) (hF : ∀ j, j < 64 → ∃ v, F j = .int .i16 v) (hG : ∀ j, j < 64 → G j = F j) : CallQ Try.prog cx 40 [.agg 64 F, .agg 64 G] h n (.bool true) := by
  have hfl : Flat 64 F := fun j hj => by obtain ⟨v, hv⟩ := hF j hj; rw [hv]; trivial
  have hfG : Flat 64 G := fun j hj => by rw [hG j hj]; exact hfl j hj
  refine callQ_of_T (P := Try.prog) hti (nt := 18) (rs := [.tmp 4]) rfl rfl Try.call40 Try.func40 rfl _ (by simp only [go_sem, and_self]) (Nat.le_of_ble_eq_true rfl) _ (by first | exact trivial | (refine lt_flat rfl ?_; simp [SV.flat]; done) | simp only [go_sem]) fun hok => ?_
  simp only [go_sem, Nat.reduceBEq, Nat.reduceLT, Nat.reduceLeDiff, Nat.reduceAdd, Nat.reduceMul, Nat.reduceSub, Nat.reduceMod, Nat.reduceDiv, Nat.reduceEqDiff, Int.reduceToNat, reduceIte, reduceCtorEq, Int.reduceLE, Int.reduceLT, Int.reduceEq, Int.reduceNeg, Int.reduceAdd, Int.reduceSub, Int.reduceMul]
  refine T_lp (ι := { q : Nat // q ≤ 8 })
    (fun q => ([(2, .ptr n 0), (3, .ptr (n + 1) 0), (4, .bool false), (5, .int .i64 q.1)], (n + 1, ⟨64, G, true, none⟩) :: (n, ⟨64, F, true, none⟩) :: h, n + 2)) (fun q => 8 - q.1) ⟨0, by omega⟩ ?_ ?_
  · refine Imp.id (by simp) ?_ ?_
    · simp only [go_sem, Nat.reduceBEq, Nat.reduceLT, Nat.reduceLeDiff, Nat.reduceAdd, Nat.reduceMul, Nat.reduceSub, Nat.reduceMod, Nat.reduceDiv, Nat.reduceEqDiff, Int.reduceToNat, reduceIte, reduceCtorEq, Int.reduceLE, Int.reduceLT, Int.reduceEq, Int.reduceNeg, Int.reduceAdd, Int.reduceSub, Int.reduceMul]
      omega
    · exact impH.cons0 (hget_hit _ _ _) (by simp) (SegLe.flat (Nat.le_refl _) id (.inr rfl) fun z hz => ⟨rfl, hfG z hz⟩) (impH.cons0 ((hget_miss _ _ _ _ (by simp)).trans (hget_hit _ _ _)) (by simp) (SegLe.flat (Nat.le_refl _) id (.inr rfl) fun z hz => ⟨rfl, hfl z hz⟩)
          (impH.base0 hok (by simp) ((HExt.rfl.cons (Nat.le_refl n)).cons (by simp))))
  · rintro ⟨k, hk⟩
    simp only [go_sem, Nat.reduceBEq, Nat.reduceLT, Nat.reduceLeDiff, Nat.reduceAdd, Nat.reduceMul, Nat.reduceSub, Nat.reduceMod, Nat.reduceDiv, Nat.reduceEqDiff, Int.reduceToNat, reduceIte, reduceCtorEq, Int.reduceLE, Int.reduceLT, Int.reduceEq, Int.reduceNeg, Int.reduceAdd, Int.reduceSub, Int.reduceMul, decide_eq_true_eq, decide_eq_false_iff_not]
    refine ⟨fun h1 => ?_, fun h1 => ?_⟩
    · have hkr : (0 : Int) ≤ k ∧ (k : Int) < 8 := ⟨by omega, h1⟩
      refine T_drawT hti 6 _ _ (by kernel_rfl) (by kernel_rfl) ?_
      simp only [go_sem, Nat.reduceBEq, Nat.reduceLT, Nat.reduceLeDiff, Nat.reduceAdd, Nat.reduceMul, Nat.reduceSub, Nat.reduceMod, Nat.reduceDiv, Nat.reduceEqDiff, Int.reduceToNat, reduceIte, reduceCtorEq, Int.reduceLE, Int.reduceLT, Int.reduceEq, Int.reduceNeg, Int.reduceAdd, Int.reduceSub, Int.reduceMul, hkr]
      refine ⟨by omega, by omega, (eqInt16A8_Q _ _ _ (fun j => F (k * 8 + j)) (fun j => G (k * 8 + j)) (fun j hj => hF (k * 8 + j) (by omega)) (fun j hj => hG (k * 8 + j) (by omega))).A ?_⟩
      simp only [go_sem, Nat.reduceBEq, Nat.reduceLT, Nat.reduceLeDiff, Nat.reduceAdd, Nat.reduceMul, Nat.reduceSub, Nat.reduceMod, Nat.reduceDiv, Nat.reduceEqDiff, Int.reduceToNat, reduceIte, reduceCtorEq, Int.reduceLE, Int.reduceLT, Int.reduceEq, Int.reduceNeg, Int.reduceAdd, Int.reduceSub, Int.reduceMul, Bool.not_true]
      refine ⟨⟨k + 1, by omega⟩, by show 8 - (k + 1) < 8 - k; omega, ?_⟩
      refine Imp.id (by simp) ?_ ?_
      · simp only [go_sem, Nat.reduceBEq, Nat.reduceLT, Nat.reduceLeDiff, Nat.reduceAdd, Nat.reduceMul, Nat.reduceSub, Nat.reduceMod, Nat.reduceDiv, Nat.reduceEqDiff, Int.reduceToNat, reduceIte, reduceCtorEq, Int.reduceLE, Int.reduceLT, Int.reduceEq, Int.reduceNeg, Int.reduceAdd, Int.reduceSub, Int.reduceMul, w64 (n := (k : Int) + 1) (by omega), Int.natCast_add, Int.natCast_one]
        omega
      · exact impH.cons0 (hget_hit _ _ _) (by simp) (SegLe.flat (Nat.le_refl _) id (.inr rfl) fun z hz => ⟨rfl, hfG z hz⟩) (impH.cons0 ((hget_miss _ _ _ _ (by simp)).trans (hget_hit _ _ _)) (by simp) (SegLe.flat (Nat.le_refl _) id (.inr rfl) fun z hz => ⟨rfl, hfl z hz⟩)
          (impH.base0 hok (by simp) ((HExt.rfl.cons (Nat.le_refl n)).cons (by simp))))
    · have hk8 : k = 8 := by omega
      subst hk8
      simp only [go_sem, Nat.reduceBEq, Nat.reduceLT, Nat.reduceLeDiff, Nat.reduceAdd, Nat.reduceMul, Nat.reduceSub, Nat.reduceMod, Nat.reduceDiv, Nat.reduceEqDiff, Int.reduceToNat, reduceIte, reduceCtorEq, Int.reduceLE, Int.reduceLT, Int.reduceEq, Int.reduceNeg, Int.reduceAdd, Int.reduceSub, Int.reduceMul]

end
end Go.Proofs.Ytebpkdolmlloaaa.V

/- The law's comparisons of sheets that are alike: the walk. -/
namespace Go.Proofs.Ytebpkdolmlloaaa.V
section
variable (cx : Cx) (h : List (Nat × Seg)) (n : Nat)
theorem eqInt16A3_Q (a b d : Int) : CallQ Try.prog cx 68 [.agg 3 (cl [.int .i16 a, .int .i16 b, .int .i16 d]), .agg 3 (cl [.int .i16 a, .int .i16 b, .int .i16 d])] h n (.bool true) := by
  refine callQ_of_T (P := Try.prog) hti (nt := 17) (rs := [.tmp 4]) rfl rfl Try.call68 Try.func68 rfl _ (by simp only [go_sem, and_self]) (Nat.le_of_ble_eq_true rfl) _ (by first | exact trivial | (refine lt_flat rfl ?_; simp [SV.flat]; done) | simp only [go_sem]) fun hok => ?_
  simp only [go_sem, Nat.reduceBEq, Nat.reduceLT, Nat.reduceLeDiff, Nat.reduceAdd, Nat.reduceMul, Nat.reduceSub, Nat.reduceMod, Nat.reduceDiv, Nat.reduceEqDiff, Int.reduceToNat, reduceIte, reduceCtorEq, Int.reduceLE, Int.reduceLT, Int.reduceEq, Int.reduceNeg, Int.reduceAdd, Int.reduceSub, Int.reduceMul]
  refine T_lp (ι := { q : Nat // q ≤ 3 })
    (fun q => ([(2, .ptr n 0), (3, .ptr (n + 1) 0), (4, .bool false), (5, .int .i64 q.1)], (n + 1, ⟨3, cl [.int .i16 a, .int .i16 b, .int .i16 d], true, none⟩) :: (n, ⟨3, cl [.int .i16 a, .int .i16 b, .int .i16 d], true, none⟩) :: h, n + 2)) (fun q => 3 - q.1) ⟨0, by omega⟩ ?_ ?_
  · refine Imp.id (by simp) ?_ ?_
    · simp only [go_sem, Nat.reduceBEq, Nat.reduceLT, Nat.reduceLeDiff, Nat.reduceAdd, Nat.reduceMul, Nat.reduceSub, Nat.reduceMod, Nat.reduceDiv, Nat.reduceEqDiff, Int.reduceToNat, reduceIte, reduceCtorEq, Int.reduceLE, Int.reduceLT, Int.reduceEq, Int.reduceNeg, Int.reduceAdd, Int.reduceSub, Int.reduceMul]
      omega
    · exact impH.cons0 (hget_hit _ _ _) (by simp) (SegLe.flat (Nat.le_refl _) id (.inr rfl) fun z hz => ⟨rfl, cl_flat (l := [_, _, _]) (by simp [SV.flat]) hz⟩) (impH.cons0 ((hget_miss _ _ _ _ (by simp)).trans (hget_hit _ _ _)) (by simp) (SegLe.flat (Nat.le_refl _) id (.inr rfl) fun z hz => ⟨rfl, cl_flat (l := [_, _, _]) (by simp [SV.flat]) hz⟩)
          (impH.base0 hok (by simp) ((HExt.rfl.cons (Nat.le_refl n)).cons (by simp))))
  · rintro ⟨k, hk⟩
    simp only [go_sem, Nat.reduceBEq, Nat.reduceLT, Nat.reduceLeDiff, Nat.reduceAdd, Nat.reduceMul, Nat.reduceSub, Nat.reduceMod, Nat.reduceDiv, Nat.reduceEqDiff, Int.reduceToNat, reduceIte, reduceCtorEq, Int.reduceLE, Int.reduceLT, Int.reduceEq, Int.reduceNeg, Int.reduceAdd, Int.reduceSub, Int.reduceMul, decide_eq_true_eq, decide_eq_false_iff_not]
    refine ⟨fun h1 => ?_, fun h1 => ?_⟩
    · have hkr : (0 : Int) ≤ k ∧ (k : Int) < 3 := ⟨by omega, h1⟩
      obtain ⟨v, hv⟩ : ∃ v, cl [SV.int .i16 a, SV.int .i16 b, SV.int .i16 d] k = .int .i16 v := by
        rcases (by omega : k = 0 ∨ k = 1 ∨ k = 2) with rfl | rfl | rfl <;> exact ⟨_, rfl⟩
      refine T_draw hti _ _ (by kernel_rfl) (by kernel_rfl) ?_
      simp only [go_sem, Nat.reduceBEq, Nat.reduceLT, Nat.reduceLeDiff, Nat.reduceAdd, Nat.reduceMul, Nat.reduceSub, Nat.reduceMod, Nat.reduceDiv, Nat.reduceEqDiff, Int.reduceToNat, reduceIte, reduceCtorEq, Int.reduceLE, Int.reduceLT, Int.reduceEq, Int.reduceNeg, Int.reduceAdd, Int.reduceSub, Int.reduceMul, hkr, hv]
      refine ⟨by omega, by omega, ⟨k + 1, by omega⟩, by show 3 - (k + 1) < 3 - k; omega, ?_⟩
      refine Imp.id (by simp) ?_ ?_
      · simp only [go_sem, Nat.reduceBEq, Nat.reduceLT, Nat.reduceLeDiff, Nat.reduceAdd, Nat.reduceMul, Nat.reduceSub, Nat.reduceMod, Nat.reduceDiv, Nat.reduceEqDiff, Int.reduceToNat, reduceIte, reduceCtorEq, Int.reduceLE, Int.reduceLT, Int.reduceEq, Int.reduceNeg, Int.reduceAdd, Int.reduceSub, Int.reduceMul, w64 (n := (k : Int) + 1) (by omega), Int.natCast_add, Int.natCast_one]
        omega
      · exact impH.cons0 (hget_hit _ _ _) (by simp) (SegLe.flat (Nat.le_refl _) id (.inr rfl) fun z hz => ⟨rfl, cl_flat (l := [_, _, _]) (by simp [SV.flat]) hz⟩) (impH.cons0 ((hget_miss _ _ _ _ (by simp)).trans (hget_hit _ _ _)) (by simp) (SegLe.flat (Nat.le_refl _) id (.inr rfl) fun z hz => ⟨rfl, cl_flat (l := [_, _, _]) (by simp [SV.flat]) hz⟩)
          (impH.base0 hok (by simp) ((HExt.rfl.cons (Nat.le_refl n)).cons (by simp))))
    · have hk8 : k = 3 := by omega
      subst hk8
      simp only [go_sem, Nat.reduceBEq, Nat.reduceLT, Nat.reduceLeDiff, Nat.reduceAdd, Nat.reduceMul, Nat.reduceSub, Nat.reduceMod, Nat.reduceDiv, Nat.reduceEqDiff, Int.reduceToNat, reduceIte, reduceCtorEq, Int.reduceLE, Int.reduceLT, Int.reduceEq, Int.reduceNeg, Int.reduceAdd, Int.reduceSub, Int.reduceMul]

theorem eqInt16A3A8_Q (F G : Nat → SV) (hF : ∀ j, j < 24 → ∃ v, F j = .int .i16 v) (hG : ∀ j, j < 24 → G j = F j) : CallQ Try.prog cx 85 [.agg 24 F, .agg 24 G] h n (.bool true) := by
  have hfl : Flat 24 F := fun j hj => by obtain ⟨v, hv⟩ := hF j hj; rw [hv]; trivial
  have hfG : Flat 24 G := fun j hj => by rw [hG j hj]; exact hfl j hj
  refine callQ_of_T (P := Try.prog) hti (nt := 18) (rs := [.tmp 4]) rfl rfl Try.call85 Try.func85 rfl _ (by simp only [go_sem, and_self]) (Nat.le_of_ble_eq_true rfl) _ (by first | exact trivial | (refine lt_flat rfl ?_; simp [SV.flat]; done) | simp only [go_sem]) fun hok => ?_
  simp only [go_sem, Nat.reduceBEq, Nat.reduceLT, Nat.reduceLeDiff, Nat.reduceAdd, Nat.reduceMul, Nat.reduceSub, Nat.reduceMod, Nat.reduceDiv, Nat.reduceEqDiff, Int.reduceToNat, reduceIte, reduceCtorEq, Int.reduceLE, Int.reduceLT, Int.reduceEq, Int.reduceNeg, Int.reduceAdd, Int.reduceSub, Int.reduceMul]
  refine T_lp (ι := { q : Nat // q ≤ 8 })
    (fun q => ([(2, .ptr n 0), (3, .ptr (n + 1) 0), (4, .bool false), (5, .int .i64 q.1)], (n + 1, ⟨24, G, true, none⟩) :: (n, ⟨24, F, true, none⟩) :: h, n + 2)) (fun q => 8 - q.1) ⟨0, by omega⟩ ?_ ?_
  · refine Imp.id (by simp) ?_ ?_
    · simp only [go_sem, Nat.reduceBEq, Nat.reduceLT, Nat.reduceLeDiff, Nat.reduceAdd, Nat.reduceMul, Nat.reduceSub, Nat.reduceMod, Nat.reduceDiv, Nat.reduceEqDiff, Int.reduceToNat, reduceIte, reduceCtorEq, Int.reduceLE, Int.reduceLT, Int.reduceEq, Int.reduceNeg, Int.reduceAdd, Int.reduceSub, Int.reduceMul]
      omega
    · exact impH.cons0 (hget_hit _ _ _) (by simp) (SegLe.flat (Nat.le_refl _) id (.inr rfl) fun z hz => ⟨rfl, hfG z hz⟩) (impH.cons0 ((hget_miss _ _ _ _ (by simp)).trans (hget_hit _ _ _)) (by simp) (SegLe.flat (Nat.le_refl _) id (.inr rfl) fun z hz => ⟨rfl, hfl z hz⟩)
          (impH.base0 hok (by simp) ((HExt.rfl.cons (Nat.le_refl n)).cons (by simp))))
  · rintro ⟨k, hk⟩
    simp only [go_sem, Nat.reduceBEq, Nat.reduceLT, Nat.reduceLeDiff, Nat.reduceAdd, Nat.reduceMul, Nat.reduceSub, Nat.reduceMod, Nat.reduceDiv, Nat.reduceEqDiff, Int.reduceToNat, reduceIte, reduceCtorEq, Int.reduceLE, Int.reduceLT, Int.reduceEq, Int.reduceNeg, Int.reduceAdd, Int.reduceSub, Int.reduceMul, decide_eq_true_eq, decide_eq_false_iff_not]
    refine ⟨fun h1 => ?_, fun h1 => ?_⟩
    · have hkr : (0 : Int) ≤ k ∧ (k : Int) < 8 := ⟨by omega, h1⟩
      obtain ⟨v0, hv0⟩ := hF (k * 3) (by omega)
      obtain ⟨v1, hv1⟩ := hF (k * 3 + 1) (by omega)
      obtain ⟨v2, hv2⟩ := hF (k * 3 + 2) (by omega)
      have hg0 := (hG (k * 3) (by omega)).trans hv0
      have hg1 := (hG (k * 3 + 1) (by omega)).trans hv1
      have hg2 := (hG (k * 3 + 2) (by omega)).trans hv2
      refine T_drawT hti 6 _ _ (by kernel_rfl) (by kernel_rfl) ?_
      simp only [go_sem, Nat.reduceBEq, Nat.reduceLT, Nat.reduceLeDiff, Nat.reduceAdd, Nat.reduceMul, Nat.reduceSub, Nat.reduceMod, Nat.reduceDiv, Nat.reduceEqDiff, Int.reduceToNat, reduceIte, reduceCtorEq, Int.reduceLE, Int.reduceLT, Int.reduceEq, Int.reduceNeg, Int.reduceAdd, Int.reduceSub, Int.reduceMul, hkr, hv0, hv1, hv2, hg0, hg1, hg2]
      refine ⟨by omega, by omega, (eqInt16A3_Q _ _ _ _ _ _).A ?_⟩
      simp only [go_sem, Nat.reduceBEq, Nat.reduceLT, Nat.reduceLeDiff, Nat.reduceAdd, Nat.reduceMul, Nat.reduceSub, Nat.reduceMod, Nat.reduceDiv, Nat.reduceEqDiff, Int.reduceToNat, reduceIte, reduceCtorEq, Int.reduceLE, Int.reduceLT, Int.reduceEq, Int.reduceNeg, Int.reduceAdd, Int.reduceSub, Int.reduceMul, Bool.not_true]
      refine ⟨⟨k + 1, by omega⟩, by show 8 - (k + 1) < 8 - k; omega, ?_⟩
      refine Imp.id (by simp) ?_ ?_
      · simp only [go_sem, Nat.reduceBEq, Nat.reduceLT, Nat.reduceLeDiff, Nat.reduceAdd, Nat.reduceMul, Nat.reduceSub, Nat.reduceMod, Nat.reduceDiv, Nat.reduceEqDiff, Int.reduceToNat, reduceIte, reduceCtorEq, Int.reduceLE, Int.reduceLT, Int.reduceEq, Int.reduceNeg, Int.reduceAdd, Int.reduceSub, Int.reduceMul, w64 (n := (k : Int) + 1) (by omega), Int.natCast_add, Int.natCast_one]
        omega
      · exact impH.cons0 (hget_hit _ _ _) (by simp) (SegLe.flat (Nat.le_refl _) id (.inr rfl) fun z hz => ⟨rfl, hfG z hz⟩) (impH.cons0 ((hget_miss _ _ _ _ (by simp)).trans (hget_hit _ _ _)) (by simp) (SegLe.flat (Nat.le_refl _) id (.inr rfl) fun z hz => ⟨rfl, hfl z hz⟩)
          (impH.base0 hok (by simp) ((HExt.rfl.cons (Nat.le_refl n)).cons (by simp))))
    · have hk8 : k = 8 := by omega
      subst hk8
      simp only [go_sem, Nat.reduceBEq, Nat.reduceLT, Nat.reduceLeDiff, Nat.reduceAdd, Nat.reduceMul, Nat.reduceSub, Nat.reduceMod, Nat.reduceDiv, Nat.reduceEqDiff, Int.reduceToNat, reduceIte, reduceCtorEq, Int.reduceLE, Int.reduceLT, Int.reduceEq, Int.reduceNeg, Int.reduceAdd, Int.reduceSub, Int.reduceMul]

theorem eqInt16A3A8A8_Q (F G : Nat → SV) (hF : ∀ j, j < 192 → ∃ v, F j = .int .i16 v) (hG : ∀ j, j < 192 → G j = F j) : CallQ Try.prog cx 41 [.agg 192 F, .agg 192 G] h n (.bool true) := by
  have hfl : Flat 192 F := fun j hj => by obtain ⟨v, hv⟩ := hF j hj; rw [hv]; trivial
  have hfG : Flat 192 G := fun j hj => by rw [hG j hj]; exact hfl j hj
  refine callQ_of_T (P := Try.prog) hti (nt := 18) (rs := [.tmp 4]) rfl rfl Try.call41 Try.func41 rfl _ (by simp only [go_sem, and_self]) (Nat.le_of_ble_eq_true rfl) _ (by first | exact trivial | (refine lt_flat rfl ?_; simp [SV.flat]; done) | simp only [go_sem]) fun hok => ?_
  simp only [go_sem, Nat.reduceBEq, Nat.reduceLT, Nat.reduceLeDiff, Nat.reduceAdd, Nat.reduceMul, Nat.reduceSub, Nat.reduceMod, Nat.reduceDiv, Nat.reduceEqDiff, Int.reduceToNat, reduceIte, reduceCtorEq, Int.reduceLE, Int.reduceLT, Int.reduceEq, Int.reduceNeg, Int.reduceAdd, Int.reduceSub, Int.reduceMul]
  refine T_lp (ι := { q : Nat // q ≤ 8 })
    (fun q => ([(2, .ptr n 0), (3, .ptr (n + 1) 0), (4, .bool false), (5, .int .i64 q.1)], (n + 1, ⟨192, G, true, none⟩) :: (n, ⟨192, F, true, none⟩) :: h, n + 2)) (fun q => 8 - q.1) ⟨0, by omega⟩ ?_ ?_
  · refine Imp.id (by simp) ?_ ?_
    · simp only [go_sem, Nat.reduceBEq, Nat.reduceLT, Nat.reduceLeDiff, Nat.reduceAdd, Nat.reduceMul, Nat.reduceSub, Nat.reduceMod, Nat.reduceDiv, Nat.reduceEqDiff, Int.reduceToNat, reduceIte, reduceCtorEq, Int.reduceLE, Int.reduceLT, Int.reduceEq, Int.reduceNeg, Int.reduceAdd, Int.reduceSub, Int.reduceMul]
      omega
    · exact impH.cons0 (hget_hit _ _ _) (by simp) (SegLe.flat (Nat.le_refl _) id (.inr rfl) fun z hz => ⟨rfl, hfG z hz⟩) (impH.cons0 ((hget_miss _ _ _ _ (by simp)).trans (hget_hit _ _ _)) (by simp) (SegLe.flat (Nat.le_refl _) id (.inr rfl) fun z hz => ⟨rfl, hfl z hz⟩)
          (impH.base0 hok (by simp) ((HExt.rfl.cons (Nat.le_refl n)).cons (by simp))))
  · rintro ⟨k, hk⟩
    simp only [go_sem, Nat.reduceBEq, Nat.reduceLT, Nat.reduceLeDiff, Nat.reduceAdd, Nat.reduceMul, Nat.reduceSub, Nat.reduceMod, Nat.reduceDiv, Nat.reduceEqDiff, Int.reduceToNat, reduceIte, reduceCtorEq, Int.reduceLE, Int.reduceLT, Int.reduceEq, Int.reduceNeg, Int.reduceAdd, Int.reduceSub, Int.reduceMul, decide_eq_true_eq, decide_eq_false_iff_not]
    refine ⟨fun h1 => ?_, fun h1 => ?_⟩
    · have hkr : (0 : Int) ≤ k ∧ (k : Int) < 8 := ⟨by omega, h1⟩
      refine T_drawT hti 6 _ _ (by kernel_rfl) (by kernel_rfl) ?_
      simp only [go_sem, Nat.reduceBEq, Nat.reduceLT, Nat.reduceLeDiff, Nat.reduceAdd, Nat.reduceMul, Nat.reduceSub, Nat.reduceMod, Nat.reduceDiv, Nat.reduceEqDiff, Int.reduceToNat, reduceIte, reduceCtorEq, Int.reduceLE, Int.reduceLT, Int.reduceEq, Int.reduceNeg, Int.reduceAdd, Int.reduceSub, Int.reduceMul, hkr]
      refine ⟨by omega, by omega, (eqInt16A3A8_Q _ _ _ (fun j => F (k * 24 + j)) (fun j => G (k * 24 + j)) (fun j hj => hF (k * 24 + j) (by omega)) (fun j hj => hG (k * 24 + j) (by omega))).A ?_⟩
      simp only [go_sem, Nat.reduceBEq, Nat.reduceLT, Nat.reduceLeDiff, Nat.reduceAdd, Nat.reduceMul, Nat.reduceSub, Nat.reduceMod, Nat.reduceDiv, Nat.reduceEqDiff, Int.reduceToNat, reduceIte, reduceCtorEq, Int.reduceLE, Int.reduceLT, Int.reduceEq, Int.reduceNeg, Int.reduceAdd, Int.reduceSub, Int.reduceMul, Bool.not_true]
      refine ⟨⟨k + 1, by omega⟩, by show 8 - (k + 1) < 8 - k; omega, ?_⟩
      refine Imp.id (by simp) ?_ ?_
      · simp only [go_sem, Nat.reduceBEq, Nat.reduceLT, Nat.reduceLeDiff, Nat.reduceAdd, Nat.reduceMul, Nat.reduceSub, Nat.reduceMod, Nat.reduceDiv, Nat.reduceEqDiff, Int.reduceToNat, reduceIte, reduceCtorEq, Int.reduceLE, Int.reduceLT, Int.reduceEq, Int.reduceNeg, Int.reduceAdd, Int.reduceSub, Int.reduceMul, w64 (n := (k : Int) + 1) (by omega), Int.natCast_add, Int.natCast_one]
        omega
      · exact impH.cons0 (hget_hit _ _ _) (by simp) (SegLe.flat (Nat.le_refl _) id (.inr rfl) fun z hz => ⟨rfl, hfG z hz⟩) (impH.cons0 ((hget_miss _ _ _ _ (by simp)).trans (hget_hit _ _ _)) (by simp) (SegLe.flat (Nat.le_refl _) id (.inr rfl) fun z hz => ⟨rfl, hfl z hz⟩)
          (impH.base0 hok (by simp) ((HExt.rfl.cons (Nat.le_refl n)).cons (by simp))))
    · have hk8 : k = 8 := by omega
      subst hk8
      simp only [go_sem, Nat.reduceBEq, Nat.reduceLT, Nat.reduceLeDiff, Nat.reduceAdd, Nat.reduceMul, Nat.reduceSub, Nat.reduceMod, Nat.reduceDiv, Nat.reduceEqDiff, Int.reduceToNat, reduceIte, reduceCtorEq, Int.reduceLE, Int.reduceLT, Int.reduceEq, Int.reduceNeg, Int.reduceAdd, Int.reduceSub, Int.reduceMul]

theorem eqSheet_Q (F G : Nat → SV) (S : Sh) (hF : ShF F S) (hG : ShF G S) : CallQ Try.prog cx 10 [.agg 266 F, .agg 266 G] h n (.bool true) := by
  have hR := hF.R
  refine callQ_of_T (P := Try.prog) hti (nt := 33) (rs := [.tmp 4]) rfl rfl Try.call10 Try.func10 rfl _ (by simp only [go_sem, and_self]) (Nat.le_of_ble_eq_true rfl) _ (by first | exact trivial | (refine lt_flat rfl ?_; simp [SV.flat]; done) | simp only [go_sem]) fun hok => ?_
  simp only [go_sem, Nat.reduceBEq, Nat.reduceLT, Nat.reduceLeDiff, Nat.reduceAdd, Nat.reduceMul, Nat.reduceSub, Nat.reduceMod, Nat.reduceDiv, Nat.reduceEqDiff, Int.reduceToNat, reduceIte, reduceCtorEq, Int.reduceLE, Int.reduceLT, Int.reduceEq, Int.reduceNeg, Int.reduceAdd, Int.reduceSub, Int.reduceMul, hF.wide, hF.high, hG.wide, hG.high]
  refine (eqInt16A8A8_Q _ _ _ (fun j => F (2 + j)) (fun j => G (2 + j)) (fun j hj => hF.wetC j hj) (fun j hj => by rw [hF.wetS j hj, hG.wetS j hj])).A ?_
  simp only [go_sem, Nat.reduceBEq, Nat.reduceLT, Nat.reduceLeDiff, Nat.reduceAdd, Nat.reduceMul, Nat.reduceSub, Nat.reduceMod, Nat.reduceDiv, Nat.reduceEqDiff, Int.reduceToNat, reduceIte, reduceCtorEq, Int.reduceLE, Int.reduceLT, Int.reduceEq, Int.reduceNeg, Int.reduceAdd, Int.reduceSub, Int.reduceMul, Bool.not_true]
  refine (eqInt16A3A8A8_Q _ _ _ (fun j => F (66 + j)) (fun j => G (66 + j)) (fun j hj => hF.dyeC j hj) (fun j hj => by rw [hF.dyeS j hj, hG.dyeS j hj])).A ?_
  simp only [go_sem, Nat.reduceBEq, Nat.reduceLT, Nat.reduceLeDiff, Nat.reduceAdd, Nat.reduceMul, Nat.reduceSub, Nat.reduceMod, Nat.reduceDiv, Nat.reduceEqDiff, Int.reduceToNat, reduceIte, reduceCtorEq, Int.reduceLE, Int.reduceLT, Int.reduceEq, Int.reduceNeg, Int.reduceAdd, Int.reduceSub, Int.reduceMul, Bool.not_true]
  refine (eqByteA8_Q _ _ _ (fun j => F (258 + j)) (fun j => G (258 + j)) (fun j hj => hF.waxC j hj) (fun j hj => by rw [hF.waxS j hj, hG.waxS j hj])).A ?_
  simp only [go_sem, Nat.reduceBEq, Nat.reduceLT, Nat.reduceLeDiff, Nat.reduceAdd, Nat.reduceMul, Nat.reduceSub, Nat.reduceMod, Nat.reduceDiv, Nat.reduceEqDiff, Int.reduceToNat, reduceIte, reduceCtorEq, Int.reduceLE, Int.reduceLT, Int.reduceEq, Int.reduceNeg, Int.reduceAdd, Int.reduceSub, Int.reduceMul, Bool.not_true]
end
end Go.Proofs.Ytebpkdolmlloaaa.V

/- The law of running and drying in turns: the walk. -/
namespace Go.Proofs.Ytebpkdolmlloaaa.V

/-- What RunAndDry hands back, told by its parts. -/
def RadIs (S : Sh) (F : Nat → SV) (k c : Int) : Prop :=
  (¬ Valid S ∧ (∀ j, F j = zeroC j) ∧ k = 0 ∧ c = 1) ∨
  (Valid S ∧ ∃ (W H : Nat) (k0 : Nat), S.wide = W ∧ S.high = H ∧ (∀ k', k' < k0 → 0 < water (radN S W H k') W H) ∧ water (radN S W H k0) W H = 0 ∧ ShF F (radN S W H k0) ∧ k = k0 ∧ c = 0)
theorem RadEnd.parts {S : Sh} {n : Nat} {r : SV} (h : RadEnd S n r) : ∃ F k c, RadIs S F k c ∧ r = .tup 3 (cl [.agg 266 F, .int .i64 k, .int .i64 c]) := by
  rcases h with ⟨hv, F, hF, rfl⟩ | ⟨hv, W, H, k, F, hW, hH, h1, h2, hF, rfl⟩
  · exact ⟨F, 0, 1, .inl ⟨hv, hF, rfl, rfl⟩, rfl⟩
  · exact ⟨F, k, 0, .inr ⟨hv, W, H, k, hW, hH, h1, h2, hF, rfl, rfl⟩, rfl⟩
theorem RadIs.two {S : Sh} {F F' : Nat → SV} {k k' c c' : Int} (h : RadIs S F k c) (h' : RadIs S F' k' c') : ∃ S', ShF F S' ∧ ShF F' S' ∧ k' = k ∧ c' = c := by
  rcases h with ⟨hv, hF, rfl, rfl⟩ | ⟨hv, W, H, k, hW, hH, h1, h2, hF, rfl, rfl⟩ <;> rcases h' with ⟨hv', hF', rfl, rfl⟩ | ⟨hv', W', H', k', hW', hH', h1', h2', hF', rfl, rfl⟩
  · exact ⟨sh0, .zero hF, .zero hF', rfl, rfl⟩
  · exact absurd hv' hv
  · exact absurd hv hv'
  · have eW : W = W' := by have := hW.symm.trans hW'; omega
    have eH : H = H' := by have := hH.symm.trans hH'; omega
    subst eW eH
    have ek : k = k' := by
      rcases Nat.lt_trichotomy k k' with h | h | h
      · have := h1' k h; omega
      · exact h
      · have := h1 k' h; omega
    subst ek
    exact ⟨_, hF, hF', rfl, rfl⟩
theorem RadIs.ones {S : Sh} {F : Nat → SV} {k c : Int} (h : RadIs S F k c) : V.ones (.agg 266 F) = True := by
  obtain ⟨S', h1, -⟩ := h.two h
  exact h1.ones

section
variable (cx : Cx) (h : List (Nat × Seg)) (n : Nat)
theorem lawRad_Q (F : Nat → SV) (S : Sh) (hF : ShF F S) : CallQ Try.prog cx 3 [.agg 266 F] h n (.bool true) := by
  refine callQ_of_T (P := Try.prog) hti (nt := 37) (rs := [.tmp 2]) rfl rfl Try.call3 Try.func3 rfl _ (by simp only [go_sem, and_self]) (Nat.le_of_ble_eq_true rfl) _ (by first | exact trivial | (refine lt_flat rfl ?_; simp [SV.flat]; done) | simp only [go_sem]) fun hok => ?_
  simp only [go_sem, Nat.reduceBEq, Nat.reduceLT, Nat.reduceLeDiff, Nat.reduceAdd, Nat.reduceMul, Nat.reduceSub, Nat.reduceMod, Nat.reduceDiv, Nat.reduceEqDiff, Int.reduceToNat, reduceIte, reduceCtorEq, Int.reduceLE, Int.reduceLT, Int.reduceEq, Int.reduceNeg, Int.reduceAdd, Int.reduceSub, Int.reduceMul, hF.ones]
  refine callA_false (toSheet_E _ _ _ (fun j => F j) S hF _ fun F1 hF1 => ?_)
  simp only [go_sem, Nat.reduceBEq, Nat.reduceLT, Nat.reduceLeDiff, Nat.reduceAdd, Nat.reduceMul, Nat.reduceSub, Nat.reduceMod, Nat.reduceDiv, Nat.reduceEqDiff, Int.reduceToNat, reduceIte, reduceCtorEq, Int.reduceLE, Int.reduceLT, Int.reduceEq, Int.reduceNeg, Int.reduceAdd, Int.reduceSub, Int.reduceMul, hF1.ones]
  refine callA_false (rad2_E _ _ _ F1 S hF1 _ fun r1 hr1 => ?_)
  obtain ⟨G1, k1, c1, hi1, rfl⟩ := hr1.parts
  simp only [go_sem, Nat.reduceBEq, Nat.reduceLT, Nat.reduceLeDiff, Nat.reduceAdd, Nat.reduceMul, Nat.reduceSub, Nat.reduceMod, Nat.reduceDiv, Nat.reduceEqDiff, Int.reduceToNat, reduceIte, reduceCtorEq, Int.reduceLE, Int.reduceLT, Int.reduceEq, Int.reduceNeg, Int.reduceAdd, Int.reduceSub, Int.reduceMul, hi1.ones]
  refine callA_false (toSheet_E _ _ _ (fun j => F j) S hF _ fun F2 hF2 => ?_)
  simp only [go_sem, Nat.reduceBEq, Nat.reduceLT, Nat.reduceLeDiff, Nat.reduceAdd, Nat.reduceMul, Nat.reduceSub, Nat.reduceMod, Nat.reduceDiv, Nat.reduceEqDiff, Int.reduceToNat, reduceIte, reduceCtorEq, Int.reduceLE, Int.reduceLT, Int.reduceEq, Int.reduceNeg, Int.reduceAdd, Int.reduceSub, Int.reduceMul, hF2.ones]
  refine callA_false (rad_E _ _ _ F2 S hF2 _ fun r2 hr2 => ?_)
  obtain ⟨G2, k2, c2, hi2, rfl⟩ := hr2.parts
  simp only [go_sem, Nat.reduceBEq, Nat.reduceLT, Nat.reduceLeDiff, Nat.reduceAdd, Nat.reduceMul, Nat.reduceSub, Nat.reduceMod, Nat.reduceDiv, Nat.reduceEqDiff, Int.reduceToNat, reduceIte, reduceCtorEq, Int.reduceLE, Int.reduceLT, Int.reduceEq, Int.reduceNeg, Int.reduceAdd, Int.reduceSub, Int.reduceMul, hi2.ones]
  obtain ⟨S', hG1, hG2, rfl, rfl⟩ := hi1.two hi2
  refine (eqSheet_Q _ _ _ (fun j => G2 j) (fun j => G1 j) S' hG2 hG1).A ?_
  simp only [go_sem, Nat.reduceBEq, Nat.reduceLT, Nat.reduceLeDiff, Nat.reduceAdd, Nat.reduceMul, Nat.reduceSub, Nat.reduceMod, Nat.reduceDiv, Nat.reduceEqDiff, Int.reduceToNat, reduceIte, reduceCtorEq, Int.reduceLE, Int.reduceLT, Int.reduceEq, Int.reduceNeg, Int.reduceAdd, Int.reduceSub, Int.reduceMul, Bool.not_true]
end
end Go.Proofs.Ytebpkdolmlloaaa.V

/- A sheet that came in. -/
namespace Go.Proofs.Ytebpkdolmlloaaa.V

theorem wf_i8 {n : Int} (h : (Lit.int .i8 n).wf = true) : -128 ≤ n ∧ n < 128 := by
  simp [Lit.wf, IntKind.min, IntKind.max, IntKind.signed, IntKind.bits] at h; omega
theorem wf_i16 {n : Int} (h : (Lit.int .i16 n).wf = true) : -32768 ≤ n ∧ n < 32768 := by
  simp [Lit.wf, IntKind.min, IntKind.max, IntKind.signed, IntKind.bits] at h; omega
theorem wf_u8 {n : Int} (h : (Lit.int .u8 n).wf = true) : 0 ≤ n ∧ n < 256 := by
  simp [Lit.wf, IntKind.min, IntKind.max, IntKind.signed, IntKind.bits] at h; omega

/-- The sheet that cells tell. -/
def shOf (c : Nat → Value) : Sh :=
  ⟨ivOf (c 0), ivOf (c 1), fun y x => if 0 ≤ y ∧ y < 8 ∧ 0 ≤ x ∧ x < 8 then ivOf (c (2 + y.toNat * 8 + x.toNat)) else 0,
    fun y x i => if 0 ≤ y ∧ y < 8 ∧ 0 ≤ x ∧ x < 8 ∧ 0 ≤ i ∧ i < 3 then ivOf (c (66 + y.toNat * 24 + x.toNat * 3 + i.toNat)) else 0,
    fun y => if 0 ≤ y ∧ y < 8 then ivOf (c (258 + y.toNat)) else 0⟩
theorem iv_i8 {v : Value} (h : ∃ n, v = .int .i8 n ∧ (Lit.int .i8 n).wf = true) : svOf v = .int .i8 (ivOf v) ∧ -128 ≤ ivOf v ∧ ivOf v < 128 := by
  obtain ⟨n, rfl, h⟩ := h; exact ⟨rfl, wf_i8 h⟩
theorem iv_i16 {v : Value} (h : ∃ n, v = .int .i16 n ∧ (Lit.int .i16 n).wf = true) : svOf v = .int .i16 (ivOf v) ∧ -32768 ≤ ivOf v ∧ ivOf v < 32768 := by
  obtain ⟨n, rfl, h⟩ := h; exact ⟨rfl, wf_i16 h⟩
theorem iv_u8 {v : Value} (h : ∃ n, v = .int .u8 n ∧ (Lit.int .u8 n).wf = true) : svOf v = .int .u8 (ivOf v) ∧ 0 ≤ ivOf v ∧ ivOf v < 256 := by
  obtain ⟨n, rfl, h⟩ := h; exact ⟨rfl, wf_u8 h⟩

theorem shF_of {c : Nat → Value} (h : flatC ti 9 31 c 0) : ShF (fun j => svOf (c j)) (shOf c) := by
  simp only [flatC_succ, go_sem, flatK_st, flatL_cons, flatL_nil, flatK_int, flatK_arr, Nat.zero_add, and_true, Nat.mul_one] at h
  obtain ⟨h0, h1, hw, hd, hx⟩ := h
  have ew : ∀ y x : Int, 0 ≤ y ∧ y < 8 ∧ 0 ≤ x ∧ x < 8 → _ := fun y x ⟨a, b, e, f⟩ => iv_i16 (hw y.toNat (by omega) x.toNat (by omega))
  have ed : ∀ y x i : Int, 0 ≤ y ∧ y < 8 ∧ 0 ≤ x ∧ x < 8 ∧ 0 ≤ i ∧ i < 3 → _ := fun y x i ⟨a, b, e, f, p, q⟩ => iv_i16 (hd y.toNat (by omega) x.toNat (by omega) i.toNat (by omega))
  have ex : ∀ y : Int, 0 ≤ y ∧ y < 8 → _ := fun y ⟨a, b⟩ => iv_u8 (hx y.toNat (by omega))
  refine ⟨⟨(iv_i8 h0).2, (iv_i8 h1).2, fun y x => ?_, fun y x i => ?_, fun y => ?_⟩, (iv_i8 h0).1, (iv_i8 h1).1, fun y x a b e f => ?_, fun y x i a b e f p q => ?_, fun y a b => ?_⟩
  · simp only [shOf]
    split
    · rename_i hc; exact (ew y x hc).2
    · omega
  · simp only [shOf]
    split
    · rename_i hc; exact (ed y x i hc).2
    · omega
  · simp only [shOf]
    split
    · rename_i hc; exact (ex y hc).2
    · omega
  · simp only [shOf, if_pos (show 0 ≤ y ∧ y < 8 ∧ 0 ≤ x ∧ x < 8 from ⟨a, b, e, f⟩)]; exact (ew y x ⟨a, b, e, f⟩).1
  · simp only [shOf, if_pos (show 0 ≤ y ∧ y < 8 ∧ 0 ≤ x ∧ x < 8 ∧ 0 ≤ i ∧ i < 3 from ⟨a, b, e, f, p, q⟩)]; exact (ed y x i ⟨a, b, e, f, p, q⟩).1
  · simp only [shOf, if_pos (show 0 ≤ y ∧ y < 8 from ⟨a, b⟩)]; exact (ex y ⟨a, b⟩).1

theorem ShF.ltF {F : Nat → SV} {S : Sh} (h : ShF F S) (m : Nat) : (SV.agg 266 F).lt m := fun j hj => SV.flat.below (h.flat hj) m
end Go.Proofs.Ytebpkdolmlloaaa.V

/- Sheets told by their numbers alone: canonical cells, loads, stores. -/
namespace Go.Proofs.Ytebpkdolmlloaaa.V

def shC (S : Sh) : Nat → SV := fun j =>
  if j < 2 then (if j < 1 then .int .i8 S.wide else .int .i8 S.high)
  else if j < 258 then (if j < 66 then .int .i16 (S.wet (((j - 2) / 8 : Nat) : Int) (((j - 2) % 8 : Nat) : Int)) else .int .i16 (S.dye (((j - 66) / 24 : Nat) : Int) (((j - 66) % 24 / 3 : Nat) : Int) (((j - 66) % 3 : Nat) : Int)))
  else .int .u8 (S.wax ((j - 258 : Nat) : Int))
def shS (S : Sh) : Seg := ⟨266, shC S, true, none⟩
@[go_sem] theorem shS_eq (S : Sh) : shS S = ⟨266, shC S, true, none⟩ := rfl
theorem shC_flat (S : Sh) (j : Nat) : (shC S j).flat := by unfold shC; (repeat' split) <;> trivial
@[go_sem] theorem shC_ones (S : Sh) : ones (.agg 266 (shC S)) = True := eq_true fun j hj => (shC_flat S j).one
@[go_sem] theorem shC_ones' (S : Sh) : ones (.agg 266 fun j => shC S j) = True := shC_ones S
@[go_sem] theorem shC_0 (S : Sh) : shC S 0 = .int .i8 S.wide := rfl
@[go_sem] theorem shC_1 (S : Sh) : shC S 1 = .int .i8 S.high := rfl
section
variable (S : Sh) (y x i v : Int)
theorem nat_of (h1 : 0 ≤ y) : ((y.toNat : Nat) : Int) = y := Int.toNat_of_nonneg h1
@[go_sem] theorem shC_wet (h1 : 0 ≤ y) (h2 : y < 8) (h3 : 0 ≤ x) (h4 : x < 8) : shC S (2 + y.toNat * 8 + x.toNat) = .int .i16 (S.wet y x) := by
  unfold shC
  rw [if_neg (by omega), if_pos (by omega), if_pos (by omega), show (2 + y.toNat * 8 + x.toNat - 2) / 8 = y.toNat by omega, show (2 + y.toNat * 8 + x.toNat - 2) % 8 = x.toNat by omega, nat_of _ h1, nat_of _ h3]
theorem shC_dyeN (k : Nat) (h1 : 0 ≤ y) (h2 : y < 8) (h3 : 0 ≤ x) (h4 : x < 8) (h5 : k < 3) : shC S (66 + y.toNat * 24 + x.toNat * 3 + k) = .int .i16 (S.dye y x k) := by
  unfold shC
  rw [if_neg (by omega), if_pos (by omega), if_neg (by omega), show (66 + y.toNat * 24 + x.toNat * 3 + k - 66) / 24 = y.toNat by omega, show (66 + y.toNat * 24 + x.toNat * 3 + k - 66) % 24 / 3 = x.toNat by omega,
    show (66 + y.toNat * 24 + x.toNat * 3 + k - 66) % 3 = k by omega, nat_of _ h1, nat_of _ h3]
@[go_sem] theorem shC_dye0 (h1 : 0 ≤ y) (h2 : y < 8) (h3 : 0 ≤ x) (h4 : x < 8) : shC S (66 + y.toNat * 24 + x.toNat * 3) = .int .i16 (S.dye y x 0) := shC_dyeN S y x 0 h1 h2 h3 h4 (by omega)
@[go_sem] theorem shC_dye1 (h1 : 0 ≤ y) (h2 : y < 8) (h3 : 0 ≤ x) (h4 : x < 8) : shC S (66 + y.toNat * 24 + x.toNat * 3 + 1) = .int .i16 (S.dye y x 1) := shC_dyeN S y x 1 h1 h2 h3 h4 (by omega)
@[go_sem] theorem shC_dye2 (h1 : 0 ≤ y) (h2 : y < 8) (h3 : 0 ≤ x) (h4 : x < 8) : shC S (66 + y.toNat * 24 + x.toNat * 3 + 2) = .int .i16 (S.dye y x 2) := shC_dyeN S y x 2 h1 h2 h3 h4 (by omega)
@[go_sem] theorem shC_dyeI (h1 : 0 ≤ y) (h2 : y < 8) (h3 : 0 ≤ x) (h4 : x < 8) (h5 : 0 ≤ i) (h6 : i < 3) : shC S (66 + y.toNat * 24 + x.toNat * 3 + i.toNat) = .int .i16 (S.dye y x i) := by
  rw [shC_dyeN S y x i.toNat h1 h2 h3 h4 (by omega), nat_of _ h5]
@[go_sem] theorem shC_wax (h1 : 0 ≤ y) (h2 : y < 8) : shC S (258 + y.toNat) = .int .u8 (S.wax y) := by
  unfold shC
  rw [if_neg (by omega), if_neg (by omega), show 258 + y.toNat - 258 = y.toNat by omega, nat_of _ h1]

def Sh.setWax (S : Sh) (y v : Int) : Sh := { S with wax := fun y' => if y' = y then v else S.wax y' }
@[go_sem] theorem shC_setWet (h1 : 0 ≤ y) (h2 : y < 8) (h3 : 0 ≤ x) (h4 : x < 8) : upd (shC S) (2 + y.toNat * 8 + x.toNat) (.int .i16 v) = shC (S.setWet y x v) := by
  funext j
  unfold upd shC Sh.setWet
  simp only
  split
  · rename_i hj; subst hj
    rw [if_neg (by omega), if_pos (by omega), if_pos (by omega), if_pos (by omega)]
  · rename_i hj
    split
    · rfl
    · split
      · split
        · rw [if_neg (by omega)]
        · rfl
      · rfl
theorem shC_setDyeN (k : Nat) (h1 : 0 ≤ y) (h2 : y < 8) (h3 : 0 ≤ x) (h4 : x < 8) (h5 : k < 3) : upd (shC S) (66 + y.toNat * 24 + x.toNat * 3 + k) (.int .i16 v) = shC (S.setDye y x k v) := by
  funext j
  unfold upd shC Sh.setDye
  simp only
  split
  · rename_i hj; subst hj
    rw [if_neg (by omega), if_pos (by omega), if_neg (by omega), if_pos (by omega)]
  · rename_i hj
    split
    · rfl
    · split
      · split
        · rfl
        · rw [if_neg (by omega)]
      · rfl
@[go_sem] theorem shC_setDye0 (h1 : 0 ≤ y) (h2 : y < 8) (h3 : 0 ≤ x) (h4 : x < 8) : upd (shC S) (66 + y.toNat * 24 + x.toNat * 3) (.int .i16 v) = shC (S.setDye y x 0 v) := shC_setDyeN S y x v 0 h1 h2 h3 h4 (by omega)
@[go_sem] theorem shC_setDye1 (h1 : 0 ≤ y) (h2 : y < 8) (h3 : 0 ≤ x) (h4 : x < 8) : upd (shC S) (66 + y.toNat * 24 + x.toNat * 3 + 1) (.int .i16 v) = shC (S.setDye y x 1 v) := shC_setDyeN S y x v 1 h1 h2 h3 h4 (by omega)
@[go_sem] theorem shC_setDye2 (h1 : 0 ≤ y) (h2 : y < 8) (h3 : 0 ≤ x) (h4 : x < 8) : upd (shC S) (66 + y.toNat * 24 + x.toNat * 3 + 2) (.int .i16 v) = shC (S.setDye y x 2 v) := shC_setDyeN S y x v 2 h1 h2 h3 h4 (by omega)
@[go_sem] theorem shC_setDyeI (h1 : 0 ≤ y) (h2 : y < 8) (h3 : 0 ≤ x) (h4 : x < 8) (h5 : 0 ≤ i) (h6 : i < 3) : upd (shC S) (66 + y.toNat * 24 + x.toNat * 3 + i.toNat) (.int .i16 v) = shC (S.setDye y x i v) := by
  rw [shC_setDyeN S y x v i.toNat h1 h2 h3 h4 (by omega), nat_of _ h5]
@[go_sem] theorem shC_setWax (h1 : 0 ≤ y) (h2 : y < 8) : upd (shC S) (258 + y.toNat) (.int .u8 v) = shC (S.setWax y v) := by
  funext j
  unfold upd shC Sh.setWax
  simp only
  split
  · rename_i hj; subst hj
    rw [if_neg (by omega), if_neg (by omega), if_pos (by omega)]
  · rename_i hj
    split
    · rfl
    · split
      · rfl
      · rw [if_neg (by omega)]
@[go_sem] theorem shC_setWide : upd (shC S) 0 (.int .i8 v) = shC { S with wide := v } := by
  funext j; unfold upd shC; simp only; split
  · rename_i hj; subst hj; rfl
  · (repeat' split) <;> first | rfl | omega
@[go_sem] theorem shC_setHigh : upd (shC S) 1 (.int .i8 v) = shC { S with high := v } := by
  funext j; unfold upd shC; simp only; split
  · rename_i hj; subst hj; rfl
  · (repeat' split) <;> first | rfl | omega
end
section
variable {y x i : Int}
@[go_sem] theorem le_wet (h1 : 0 ≤ y) (h2 : y < 8) (h3 : 0 ≤ x) (h4 : x < 8) : (2 + y.toNat * 8 + x.toNat ≤ 265) = True := eq_true (by omega)
@[go_sem] theorem le_dye0 (h1 : 0 ≤ y) (h2 : y < 8) (h3 : 0 ≤ x) (h4 : x < 8) : (66 + y.toNat * 24 + x.toNat * 3 ≤ 265) = True := eq_true (by omega)
@[go_sem] theorem le_dye1 (h1 : 0 ≤ y) (h2 : y < 8) (h3 : 0 ≤ x) (h4 : x < 8) : (66 + y.toNat * 24 + x.toNat * 3 ≤ 264) = True := eq_true (by omega)
@[go_sem] theorem le_dye2 (h1 : 0 ≤ y) (h2 : y < 8) (h3 : 0 ≤ x) (h4 : x < 8) : (66 + y.toNat * 24 + x.toNat * 3 ≤ 263) = True := eq_true (by omega)
@[go_sem] theorem le_dyeI (h1 : 0 ≤ y) (h2 : y < 8) (h3 : 0 ≤ x) (h4 : x < 8) (h5 : 0 ≤ i) (h6 : i < 3) : (66 + y.toNat * 24 + x.toNat * 3 + i.toNat ≤ 265) = True := eq_true (by omega)
@[go_sem] theorem le_wax (h1 : 0 ≤ y) (h2 : y < 8) : (258 + y.toNat ≤ 265) = True := eq_true (by omega)
end
@[go_sem] theorem zz_sheet : zz_873988 = shC sh0 := by funext j; unfold zz_873988 shC sh0; (repeat' split) <;> rfl

theorem shF_shC {S : Sh} (hR : ShR S) : ShF (shC S) S :=
  ⟨hR, rfl, rfl, fun y x a b c d => shC_wet S y x a b c d, fun y x i a b c d e f => shC_dyeI S y x i a b c d e f, fun y a b => shC_wax S y a b⟩
theorem shAt_shC {S : Sh} (hR : ShR S) : ShAt (shS S) 0 S := ⟨by simp [shS], by simpa [shS] using shF_shC hR⟩
theorem ShF.eqC {F : Nat → SV} {S : Sh} (h : ShF F S) {j : Nat} (hj : j < 266) : F j = shC S j := by
  unfold shC
  by_cases h1 : j < 2
  · rw [if_pos h1]
    rcases (by omega : j = 0 ∨ j = 1) with rfl | rfl
    · exact h.wide
    · exact h.high
  rw [if_neg h1]
  by_cases h2 : j < 258
  · rw [if_pos h2]
    by_cases h3 : j < 66
    · rw [if_pos h3]
      have := h.wet (((j - 2) / 8 : Nat) : Int) (((j - 2) % 8 : Nat) : Int) (by omega) (by omega) (by omega) (by omega)
      simp only [Int.toNat_natCast] at this
      rw [← this]; exact congrArg F (by omega)
    · rw [if_neg h3]
      have := h.dye (((j - 66) / 24 : Nat) : Int) (((j - 66) % 24 / 3 : Nat) : Int) (((j - 66) % 3 : Nat) : Int) (by omega) (by omega) (by omega) (by omega) (by omega) (by omega)
      simp only [Int.toNat_natCast] at this
      rw [← this]; exact congrArg F (by omega)
  · rw [if_neg h2]
    have := h.wax ((j - 258 : Nat) : Int) (by omega) (by omega)
    simp only [Int.toNat_natCast] at this
    rw [← this]; exact congrArg F (by omega)
theorem ShF.denC {F : Nat → SV} {S : Sh} (h : ShF F S) (ρ : Rho) : den ρ (.agg 266 F) = den ρ (.agg 266 (shC S)) := den_aggF (fun j hj => h.eqC hj) ρ
theorem shC_lt (S : Sh) (m : Nat) : (SV.agg 266 (shC S)).lt m := fun j hj => (shC_flat S j).below m
@[go_sem high] theorem shC_ltT (S : Sh) (m : Nat) : (SV.agg 266 (shC S)).lt m = True := eq_true (shC_lt S m)

section
variable (S : Sh) (y x i v y' x' i' : Int)
@[go_sem] theorem setDye_dye : (S.setDye y x i v).dye y' x' i' = if y' = y ∧ x' = x ∧ i' = i then v else S.dye y' x' i' := rfl
@[go_sem] theorem setDye_wet : (S.setDye y x i v).wet = S.wet := rfl
@[go_sem] theorem setDye_wax : (S.setDye y x i v).wax = S.wax := rfl
@[go_sem] theorem setDye_wide : (S.setDye y x i v).wide = S.wide := rfl
@[go_sem] theorem setDye_high : (S.setDye y x i v).high = S.high := rfl
@[go_sem] theorem setWet_wet : (S.setWet y x v).wet y' x' = if y' = y ∧ x' = x then v else S.wet y' x' := rfl
@[go_sem] theorem setWet_dye : (S.setWet y x v).dye = S.dye := rfl
@[go_sem] theorem setWet_wax : (S.setWet y x v).wax = S.wax := rfl
@[go_sem] theorem setWet_wide : (S.setWet y x v).wide = S.wide := rfl
@[go_sem] theorem setWet_high : (S.setWet y x v).high = S.high := rfl
end
theorem ShR.setWet {S : Sh} (h : ShR S) {y x v : Int} (hv : -32768 ≤ v ∧ v < 32768) : ShR (S.setWet y x v) :=
  ⟨h.wide, h.high, fun y' x' => by simp only [Sh.setWet]; split; exact hv; exact h.wet y' x', h.dye, h.wax⟩
theorem ShR.setDye {S : Sh} (h : ShR S) {y x i v : Int} (hv : -32768 ≤ v ∧ v < 32768) : ShR (S.setDye y x i v) :=
  ⟨h.wide, h.high, h.wet, fun y' x' i' => by simp only [Sh.setDye]; split; exact hv; exact h.dye y' x' i', h.wax⟩
theorem ShR.setWax {S : Sh} (h : ShR S) {y v : Int} (hv : 0 ≤ v ∧ v < 256) : ShR (S.setWax y v) :=
  ⟨h.wide, h.high, h.wet, h.dye, fun y' => by simp only [Sh.setWax]; split; exact hv; exact h.wax y'⟩
theorem ShR.sh0 : ShR sh0 := ⟨by simp [V.sh0], by simp [V.sh0], fun y x => by simp [V.sh0], fun y x i => by simp [V.sh0], fun y => by simp [V.sh0]⟩

section
variable {cx : Cx} {h : List (Nat × Seg)} {n : Nat}
/-- A callee that changes a sheet in place: its cells are the canonical ones. -/
theorem CallE.canon {P : Program} {f : Nat} {args : List SV} {i : Nat} {S S' : Sh} {r : SV} (hs : hget h i = some (shS S)) (hr : r.lt n)
    (hc : ∀ K : HK, (∀ c' : Nat → SV, ShAt ⟨266, c', true, none⟩ 0 S' → K r (hset h i ⟨266, c', true, none⟩) n) → CallE P cx f args h n K) (K : HK) (hK : K r (hset h i (shS S')) n) : CallE P cx f args h n K := by
  refine (hc (fun r' h' n' => r' = r ∧ n' = n ∧ ∃ c', ShAt ⟨266, c', true, none⟩ 0 S' ∧ h' = hset h i ⟨266, c', true, none⟩) (fun c' hc' => ⟨rfl, rfl, c', hc', rfl⟩)).imp0 ?_
  rintro hok r' h1 n1 ⟨rfl, rfl, c', hS, rfl⟩
  refine ⟨r', hset h i (shS S'), n1, Nat.le_refl _, by rw [ren_nil], hr, impH.set0 hok (Nat.le_refl _) hs (HBut.set i n1 h _) (hget_hset_self hs _) (SegLe.flat (Nat.le_refl _) id (.inr rfl) fun k hk => ⟨?_, shC_flat S' k⟩), hK⟩
  have := (show ShF c' S' from by simpa using hS.2).eqC hk
  exact this
variable (cx) (h) (n)
theorem toSheet_Q (F : Nat → SV) (S : Sh) (hF : ShF F S) : CallQ Try.prog cx 8 [.agg 266 F] h n (.agg 266 (shC S)) :=
  CallE.toQ (shC_lt S n) fun K hK => toSheet_E cx h n F S hF K fun F' hF' => hK _ fun ρ => hF'.denC ρ
end
end Go.Proofs.Ytebpkdolmlloaaa.V

/- Brushes: loads, validity, parts. -/
namespace Go.Proofs.Ytebpkdolmlloaaa.V

structure Br where
  a : Int
  b : Int
  c : Int
  w : Int
  s : Int
def brC (B : Br) : Nat → SV := cl [.int .i16 B.a, .int .i16 B.b, .int .i16 B.c, .int .i16 B.w, .int .i8 B.s]
def brS (B : Br) : Seg := ⟨5, brC B, true, none⟩
@[go_sem] theorem brC_eq (B : Br) : brC B = cl [.int .i16 B.a, .int .i16 B.b, .int .i16 B.c, .int .i16 B.w, .int .i8 B.s] := rfl
@[go_sem] theorem brS_eq (B : Br) : brS B = ⟨5, brC B, true, none⟩ := rfl
structure BrR (B : Br) : Prop where
  a : -32768 ≤ B.a ∧ B.a < 32768
  b : -32768 ≤ B.b ∧ B.b < 32768
  c : -32768 ≤ B.c ∧ B.c < 32768
  w : -32768 ≤ B.w ∧ B.w < 32768
  s : -128 ≤ B.s ∧ B.s < 128
/-- A brush as it should be. -/
def BrV (B : Br) : Prop := ((0 ≤ B.a ∧ B.a ≤ 900) ∧ (0 ≤ B.b ∧ B.b ≤ 900) ∧ (0 ≤ B.c ∧ B.c ≤ 900)) ∧ B.a + B.b + B.c ≤ 900 ∧ (0 ≤ B.w ∧ B.w ≤ 200) ∧ (1 ≤ B.s ∧ B.s ≤ 16)
instance (B : Br) : Decidable (BrV B) := by unfold BrV; exact inferInstance
theorem brC_flat (B : Br) {k : Nat} (hk : k < 5) : (brC B k).flat := by
  rcases (by omega : k = 0 ∨ k = 1 ∨ k = 2 ∨ k = 3 ∨ k = 4) with rfl | rfl | rfl | rfl | rfl <;> trivial
theorem brC_lt (B : Br) (m : Nat) : (SV.agg 5 (brC B)).lt m := fun j hj => (brC_flat B hj).below m
@[go_sem] theorem brC_ones (B : Br) : ones (.agg 5 (brC B)) = True := eq_true fun j hj => (brC_flat B hj).one
@[go_sem] theorem ones_5 (a b c d e : SV) : ones (.agg 5 (cl [a, b, c, d, e])) = (a.one ∧ b.one ∧ c.one ∧ d.one ∧ e.one) := by
  apply propext; rw [ones_agg]
  refine ⟨fun h => ⟨h 0 (by omega), h 1 (by omega), h 2 (by omega), h 3 (by omega), h 4 (by omega)⟩, fun h j hj => ?_⟩
  rcases (by omega : j = 0 ∨ j = 1 ∨ j = 2 ∨ j = 3 ∨ j = 4) with rfl | rfl | rfl | rfl | rfl
  · exact h.1
  · exact h.2.1
  · exact h.2.2.1
  · exact h.2.2.2.1
  · exact h.2.2.2.2

section
variable (cx : Cx) (h : List (Nat × Seg)) (n : Nat)
theorem load2_Q (j : Nat) (B : Br) (hs : hget h j = some (brS B)) (hj : j < n) (hR : BrR B) : CallQ Try.prog cx 108 [.ptr j 0] h n (.int .i64 (B.a + B.b + B.c)) := by
  have ha := hR.a; have hb := hR.b; have hc := hR.c
  refine callQ_of_T (P := Try.prog) hti (nt := 23) (rs := [.tmp 2]) rfl rfl Try.call108 Try.func108 rfl _ (by simp only [go_sem, and_self]) (Nat.le_of_ble_eq_true rfl) _ (by first | exact trivial | (refine lt_flat rfl ?_; simp [SV.flat]; done) | simp only [go_sem]) fun hok => ?_
  simp only [go_sem, Nat.reduceBEq, Nat.reduceLT, Nat.reduceLeDiff, Nat.reduceAdd, Nat.reduceMul, Nat.reduceSub, Nat.reduceMod, Nat.reduceDiv, Nat.reduceEqDiff, Int.reduceToNat, reduceIte, reduceCtorEq, Int.reduceLE, Int.reduceLT, Int.reduceEq, Int.reduceNeg, Int.reduceAdd, Int.reduceSub, Int.reduceMul]
  refine T_draw hti _ _ (by kernel_rfl) (by kernel_rfl) ?_
  simp only [go_sem, Nat.reduceBEq, Nat.reduceLT, Nat.reduceLeDiff, Nat.reduceAdd, Nat.reduceMul, Nat.reduceSub, Nat.reduceMod, Nat.reduceDiv, Nat.reduceEqDiff, Int.reduceToNat, reduceIte, reduceCtorEq, Int.reduceLE, Int.reduceLT, Int.reduceEq, Int.reduceNeg, Int.reduceAdd, Int.reduceSub, Int.reduceMul, hs, hj, w64 (n := B.a) (by omega), w64 (n := B.b) (by omega), w64 (n := B.c) (by omega), w64 (n := B.a + B.b) (by omega), w64 (n := B.a + B.b + B.c) (by omega)]
theorem loadOf_Q (B : Br) (hR : BrR B) : CallQ Try.prog cx 55 [.agg 5 (brC B)] h n (.int .i64 (B.a + B.b + B.c)) := by
  have ha := hR.a; have hb := hR.b; have hc := hR.c
  refine callQ_of_T (P := Try.prog) hti (nt := 17) (rs := [.tmp 2]) rfl rfl Try.call55 Try.func55 rfl _ (by simp only [go_sem, and_self]) (Nat.le_of_ble_eq_true rfl) _ (by first | exact trivial | (refine lt_flat rfl ?_; simp [SV.flat]; done) | simp only [go_sem]) fun hok => ?_
  simp only [go_sem, Nat.reduceBEq, Nat.reduceLT, Nat.reduceLeDiff, Nat.reduceAdd, Nat.reduceMul, Nat.reduceSub, Nat.reduceMod, Nat.reduceDiv, Nat.reduceEqDiff, Int.reduceToNat, reduceIte, reduceCtorEq, Int.reduceLE, Int.reduceLT, Int.reduceEq, Int.reduceNeg, Int.reduceAdd, Int.reduceSub, Int.reduceMul, w64 (n := B.a) (by omega), w64 (n := B.b) (by omega), w64 (n := B.c) (by omega), w64 (n := B.a + B.b) (by omega), w64 (n := B.a + B.b + B.c) (by omega)]
theorem tdiv16 {x : Int} (h : 0 ≤ x) : 0 ≤ (x + 15).tdiv 16 ∧ (x + 15).tdiv 16 ≤ x := by
  rw [Int.tdiv_eq_ediv_of_nonneg (by omega)]; omega
theorem part2_Q (a b : Int) (h1 : 0 ≤ a * b) (h2 : a * b ≤ 8388608) : CallQ Try.prog cx 110 [.int .i64 a, .int .i64 b] h n (.int .i64 ((a * b + 15).tdiv 16)) := by
  have h3 := tdiv16 h1
  refine callQ_of_T (P := Try.prog) hti (nt := 10) (rs := [.tmp 4]) rfl rfl Try.call110 Try.func110 rfl _ (by simp only [go_sem, and_self]) (Nat.le_of_ble_eq_true rfl) _ (by first | exact trivial | (refine lt_flat rfl ?_; simp [SV.flat]; done) | simp only [go_sem]) fun hok => ?_
  simp only [go_sem, Nat.reduceBEq, Nat.reduceLT, Nat.reduceLeDiff, Nat.reduceAdd, Nat.reduceMul, Nat.reduceSub, Nat.reduceMod, Nat.reduceDiv, Nat.reduceEqDiff, Int.reduceToNat, reduceIte, reduceCtorEq, Int.reduceLE, Int.reduceLT, Int.reduceEq, Int.reduceNeg, Int.reduceAdd, Int.reduceSub, Int.reduceMul, w64 (n := a * b) (by omega), w64 (n := a * b + 15) (by omega), w64 (n := (a * b + 15).tdiv 16) (by omega)]
theorem ok4_Q (j : Nat) (B : Br) (hs : hget h j = some (brS B)) (hj : j < n) (hR : BrR B) : CallQ Try.prog cx 86 [.ptr j 0] h n (.bool (decide (BrV B))) := by
  have ha := hR.a; have hb := hR.b; have hc := hR.c; have hw := hR.w; have hS := hR.s
  refine callQ_of_T (P := Try.prog) hti (nt := 36) (rs := [.tmp 2]) rfl rfl Try.call86 Try.func86 rfl _ (by simp only [go_sem, and_self]) (Nat.le_of_ble_eq_true rfl) _ (by first | exact trivial | (refine lt_flat rfl ?_; simp [SV.flat]; done) | simp only [go_sem]) fun hok => ?_
  simp only [go_sem, Nat.reduceBEq, Nat.reduceLT, Nat.reduceLeDiff, Nat.reduceAdd, Nat.reduceMul, Nat.reduceSub, Nat.reduceMod, Nat.reduceDiv, Nat.reduceEqDiff, Int.reduceToNat, reduceIte, reduceCtorEq, Int.reduceLE, Int.reduceLT, Int.reduceEq, Int.reduceNeg, Int.reduceAdd, Int.reduceSub, Int.reduceMul]
  refine T_unroll 3 ?_
  simp only [go_sem, Nat.reduceBEq, Nat.reduceLT, Nat.reduceLeDiff, Nat.reduceAdd, Nat.reduceMul, Nat.reduceSub, Nat.reduceMod, Nat.reduceDiv, Nat.reduceEqDiff, Int.reduceToNat, reduceIte, reduceCtorEq, Int.reduceLE, Int.reduceLT, Int.reduceEq, Int.reduceNeg, Int.reduceAdd, Int.reduceSub, Int.reduceMul, hs, hj, w64 (n := B.a) (by omega)]
  refine (in_Q _ _ _ _ _ _).A ?_
  by_cases hA : 0 ≤ B.a ∧ B.a ≤ 900
  rotate_left
  · have hV : ¬ BrV B := fun h => hA h.1.1
    simp only [go_sem, Nat.reduceBEq, Nat.reduceLT, Nat.reduceLeDiff, Nat.reduceAdd, Nat.reduceMul, Nat.reduceSub, Nat.reduceMod, Nat.reduceDiv, Nat.reduceEqDiff, Int.reduceToNat, reduceIte, reduceCtorEq, Int.reduceLE, Int.reduceLT, Int.reduceEq, Int.reduceNeg, Int.reduceAdd, Int.reduceSub, Int.reduceMul, hA, hV]
  simp only [go_sem, Nat.reduceBEq, Nat.reduceLT, Nat.reduceLeDiff, Nat.reduceAdd, Nat.reduceMul, Nat.reduceSub, Nat.reduceMod, Nat.reduceDiv, Nat.reduceEqDiff, Int.reduceToNat, reduceIte, reduceCtorEq, Int.reduceLE, Int.reduceLT, Int.reduceEq, Int.reduceNeg, Int.reduceAdd, Int.reduceSub, Int.reduceMul, hA]
  refine U_step ?_
  simp only [go_sem, Nat.reduceBEq, Nat.reduceLT, Nat.reduceLeDiff, Nat.reduceAdd, Nat.reduceMul, Nat.reduceSub, Nat.reduceMod, Nat.reduceDiv, Nat.reduceEqDiff, Int.reduceToNat, reduceIte, reduceCtorEq, Int.reduceLE, Int.reduceLT, Int.reduceEq, Int.reduceNeg, Int.reduceAdd, Int.reduceSub, Int.reduceMul, hs, hj, w64 (n := B.b) (by omega)]
  refine (in_Q _ _ _ _ _ _).A ?_
  by_cases hB : 0 ≤ B.b ∧ B.b ≤ 900
  rotate_left
  · have hV : ¬ BrV B := fun h => hB h.1.2.1
    simp only [go_sem, Nat.reduceBEq, Nat.reduceLT, Nat.reduceLeDiff, Nat.reduceAdd, Nat.reduceMul, Nat.reduceSub, Nat.reduceMod, Nat.reduceDiv, Nat.reduceEqDiff, Int.reduceToNat, reduceIte, reduceCtorEq, Int.reduceLE, Int.reduceLT, Int.reduceEq, Int.reduceNeg, Int.reduceAdd, Int.reduceSub, Int.reduceMul, hB, hV]
  simp only [go_sem, Nat.reduceBEq, Nat.reduceLT, Nat.reduceLeDiff, Nat.reduceAdd, Nat.reduceMul, Nat.reduceSub, Nat.reduceMod, Nat.reduceDiv, Nat.reduceEqDiff, Int.reduceToNat, reduceIte, reduceCtorEq, Int.reduceLE, Int.reduceLT, Int.reduceEq, Int.reduceNeg, Int.reduceAdd, Int.reduceSub, Int.reduceMul, hB]
  refine U_step ?_
  simp only [go_sem, Nat.reduceBEq, Nat.reduceLT, Nat.reduceLeDiff, Nat.reduceAdd, Nat.reduceMul, Nat.reduceSub, Nat.reduceMod, Nat.reduceDiv, Nat.reduceEqDiff, Int.reduceToNat, reduceIte, reduceCtorEq, Int.reduceLE, Int.reduceLT, Int.reduceEq, Int.reduceNeg, Int.reduceAdd, Int.reduceSub, Int.reduceMul, hs, hj, w64 (n := B.c) (by omega)]
  refine (in_Q _ _ _ _ _ _).A ?_
  by_cases hC : 0 ≤ B.c ∧ B.c ≤ 900
  rotate_left
  · have hV : ¬ BrV B := fun h => hC h.1.2.2
    simp only [go_sem, Nat.reduceBEq, Nat.reduceLT, Nat.reduceLeDiff, Nat.reduceAdd, Nat.reduceMul, Nat.reduceSub, Nat.reduceMod, Nat.reduceDiv, Nat.reduceEqDiff, Int.reduceToNat, reduceIte, reduceCtorEq, Int.reduceLE, Int.reduceLT, Int.reduceEq, Int.reduceNeg, Int.reduceAdd, Int.reduceSub, Int.reduceMul, hC, hV]
  simp only [go_sem, Nat.reduceBEq, Nat.reduceLT, Nat.reduceLeDiff, Nat.reduceAdd, Nat.reduceMul, Nat.reduceSub, Nat.reduceMod, Nat.reduceDiv, Nat.reduceEqDiff, Int.reduceToNat, reduceIte, reduceCtorEq, Int.reduceLE, Int.reduceLT, Int.reduceEq, Int.reduceNeg, Int.reduceAdd, Int.reduceSub, Int.reduceMul, hC]
  refine U_step ?_
  simp only [go_sem, Nat.reduceBEq, Nat.reduceLT, Nat.reduceLeDiff, Nat.reduceAdd, Nat.reduceMul, Nat.reduceSub, Nat.reduceMod, Nat.reduceDiv, Nat.reduceEqDiff, Int.reduceToNat, reduceIte, reduceCtorEq, Int.reduceLE, Int.reduceLT, Int.reduceEq, Int.reduceNeg, Int.reduceAdd, Int.reduceSub, Int.reduceMul, hs, hj]
  refine (load2_Q _ _ _ j B hs hj hR).A ?_
  by_cases hD : B.a + B.b + B.c ≤ 900
  rotate_left
  · have hV : ¬ BrV B := fun h => hD h.2.1
    simp only [go_sem, Nat.reduceBEq, Nat.reduceLT, Nat.reduceLeDiff, Nat.reduceAdd, Nat.reduceMul, Nat.reduceSub, Nat.reduceMod, Nat.reduceDiv, Nat.reduceEqDiff, Int.reduceToNat, reduceIte, reduceCtorEq, Int.reduceLE, Int.reduceLT, Int.reduceEq, Int.reduceNeg, Int.reduceAdd, Int.reduceSub, Int.reduceMul, hD, hV]
  simp only [go_sem, Nat.reduceBEq, Nat.reduceLT, Nat.reduceLeDiff, Nat.reduceAdd, Nat.reduceMul, Nat.reduceSub, Nat.reduceMod, Nat.reduceDiv, Nat.reduceEqDiff, Int.reduceToNat, reduceIte, reduceCtorEq, Int.reduceLE, Int.reduceLT, Int.reduceEq, Int.reduceNeg, Int.reduceAdd, Int.reduceSub, Int.reduceMul, hs, hj, hD, w64 (n := B.w) (by omega)]
  refine (in_Q _ _ _ _ _ _).A ?_
  by_cases hE : 0 ≤ B.w ∧ B.w ≤ 200
  rotate_left
  · have hV : ¬ BrV B := fun h => hE h.2.2.1
    simp only [go_sem, Nat.reduceBEq, Nat.reduceLT, Nat.reduceLeDiff, Nat.reduceAdd, Nat.reduceMul, Nat.reduceSub, Nat.reduceMod, Nat.reduceDiv, Nat.reduceEqDiff, Int.reduceToNat, reduceIte, reduceCtorEq, Int.reduceLE, Int.reduceLT, Int.reduceEq, Int.reduceNeg, Int.reduceAdd, Int.reduceSub, Int.reduceMul, hE, hV]
  simp only [go_sem, Nat.reduceBEq, Nat.reduceLT, Nat.reduceLeDiff, Nat.reduceAdd, Nat.reduceMul, Nat.reduceSub, Nat.reduceMod, Nat.reduceDiv, Nat.reduceEqDiff, Int.reduceToNat, reduceIte, reduceCtorEq, Int.reduceLE, Int.reduceLT, Int.reduceEq, Int.reduceNeg, Int.reduceAdd, Int.reduceSub, Int.reduceMul, hs, hj, hE, w64 (n := B.s) (by omega)]
  refine (in_Q _ _ _ _ _ _).A ?_
  have hV : BrV B = (1 ≤ B.s ∧ B.s ≤ 16) := propext ⟨fun h => h.2.2.2, fun h => ⟨⟨hA, hB, hC⟩, hD, hE, h⟩⟩
  simp only [go_sem, Nat.reduceBEq, Nat.reduceLT, Nat.reduceLeDiff, Nat.reduceAdd, Nat.reduceMul, Nat.reduceSub, Nat.reduceMod, Nat.reduceDiv, Nat.reduceEqDiff, Int.reduceToNat, reduceIte, reduceCtorEq, Int.reduceLE, Int.reduceLT, Int.reduceEq, Int.reduceNeg, Int.reduceAdd, Int.reduceSub, Int.reduceMul, hV]
theorem validBrush_Q (B : Br) (hR : BrR B) : CallQ Try.prog cx 89 [.agg 5 (brC B)] h n (.bool (decide (BrV B))) := by
  have ha := hR.a; have hb := hR.b; have hc := hR.c; have hw := hR.w; have hS := hR.s
  refine callQ_of_T (P := Try.prog) hti (nt := 32) (rs := [.tmp 2]) rfl rfl Try.call89 Try.func89 rfl _ (by simp only [go_sem, and_self]) (Nat.le_of_ble_eq_true rfl) _ (by first | exact trivial | (refine lt_flat rfl ?_; simp [SV.flat]; done) | simp only [go_sem]) fun hok => ?_
  simp only [go_sem, Nat.reduceBEq, Nat.reduceLT, Nat.reduceLeDiff, Nat.reduceAdd, Nat.reduceMul, Nat.reduceSub, Nat.reduceMod, Nat.reduceDiv, Nat.reduceEqDiff, Int.reduceToNat, reduceIte, reduceCtorEq, Int.reduceLE, Int.reduceLT, Int.reduceEq, Int.reduceNeg, Int.reduceAdd, Int.reduceSub, Int.reduceMul]
  refine T_unroll 3 ?_
  by_cases hA : 0 ≤ B.a ∧ B.a ≤ 900
  rotate_left
  · have hV : ¬ BrV B := fun h => hA h.1.1
    rcases (by omega : B.a < 0 ∨ ¬ B.a < 0 ∧ 900 < B.a) with h1 | ⟨h1, h2⟩
    · simp only [go_sem, Nat.reduceBEq, Nat.reduceLT, Nat.reduceLeDiff, Nat.reduceAdd, Nat.reduceMul, Nat.reduceSub, Nat.reduceMod, Nat.reduceDiv, Nat.reduceEqDiff, Int.reduceToNat, reduceIte, reduceCtorEq, Int.reduceLE, Int.reduceLT, Int.reduceEq, Int.reduceNeg, Int.reduceAdd, Int.reduceSub, Int.reduceMul, h1, hV]
    · simp only [go_sem, Nat.reduceBEq, Nat.reduceLT, Nat.reduceLeDiff, Nat.reduceAdd, Nat.reduceMul, Nat.reduceSub, Nat.reduceMod, Nat.reduceDiv, Nat.reduceEqDiff, Int.reduceToNat, reduceIte, reduceCtorEq, Int.reduceLE, Int.reduceLT, Int.reduceEq, Int.reduceNeg, Int.reduceAdd, Int.reduceSub, Int.reduceMul, h1, h2, hV]
  have hA1 : ¬ B.a < 0 := by omega
  have hA2 : ¬ 900 < B.a := by omega
  simp only [go_sem, Nat.reduceBEq, Nat.reduceLT, Nat.reduceLeDiff, Nat.reduceAdd, Nat.reduceMul, Nat.reduceSub, Nat.reduceMod, Nat.reduceDiv, Nat.reduceEqDiff, Int.reduceToNat, reduceIte, reduceCtorEq, Int.reduceLE, Int.reduceLT, Int.reduceEq, Int.reduceNeg, Int.reduceAdd, Int.reduceSub, Int.reduceMul, hA1, hA2]
  refine U_step ?_
  by_cases hB : 0 ≤ B.b ∧ B.b ≤ 900
  rotate_left
  · have hV : ¬ BrV B := fun h => hB h.1.2.1
    rcases (by omega : B.b < 0 ∨ ¬ B.b < 0 ∧ 900 < B.b) with h1 | ⟨h1, h2⟩
    · simp only [go_sem, Nat.reduceBEq, Nat.reduceLT, Nat.reduceLeDiff, Nat.reduceAdd, Nat.reduceMul, Nat.reduceSub, Nat.reduceMod, Nat.reduceDiv, Nat.reduceEqDiff, Int.reduceToNat, reduceIte, reduceCtorEq, Int.reduceLE, Int.reduceLT, Int.reduceEq, Int.reduceNeg, Int.reduceAdd, Int.reduceSub, Int.reduceMul, h1, hV]
    · simp only [go_sem, Nat.reduceBEq, Nat.reduceLT, Nat.reduceLeDiff, Nat.reduceAdd, Nat.reduceMul, Nat.reduceSub, Nat.reduceMod, Nat.reduceDiv, Nat.reduceEqDiff, Int.reduceToNat, reduceIte, reduceCtorEq, Int.reduceLE, Int.reduceLT, Int.reduceEq, Int.reduceNeg, Int.reduceAdd, Int.reduceSub, Int.reduceMul, h1, h2, hV]
  have hB1 : ¬ B.b < 0 := by omega
  have hB2 : ¬ 900 < B.b := by omega
  simp only [go_sem, Nat.reduceBEq, Nat.reduceLT, Nat.reduceLeDiff, Nat.reduceAdd, Nat.reduceMul, Nat.reduceSub, Nat.reduceMod, Nat.reduceDiv, Nat.reduceEqDiff, Int.reduceToNat, reduceIte, reduceCtorEq, Int.reduceLE, Int.reduceLT, Int.reduceEq, Int.reduceNeg, Int.reduceAdd, Int.reduceSub, Int.reduceMul, hB1, hB2]
  refine U_step ?_
  by_cases hC : 0 ≤ B.c ∧ B.c ≤ 900
  rotate_left
  · have hV : ¬ BrV B := fun h => hC h.1.2.2
    rcases (by omega : B.c < 0 ∨ ¬ B.c < 0 ∧ 900 < B.c) with h1 | ⟨h1, h2⟩
    · simp only [go_sem, Nat.reduceBEq, Nat.reduceLT, Nat.reduceLeDiff, Nat.reduceAdd, Nat.reduceMul, Nat.reduceSub, Nat.reduceMod, Nat.reduceDiv, Nat.reduceEqDiff, Int.reduceToNat, reduceIte, reduceCtorEq, Int.reduceLE, Int.reduceLT, Int.reduceEq, Int.reduceNeg, Int.reduceAdd, Int.reduceSub, Int.reduceMul, h1, hV]
    · simp only [go_sem, Nat.reduceBEq, Nat.reduceLT, Nat.reduceLeDiff, Nat.reduceAdd, Nat.reduceMul, Nat.reduceSub, Nat.reduceMod, Nat.reduceDiv, Nat.reduceEqDiff, Int.reduceToNat, reduceIte, reduceCtorEq, Int.reduceLE, Int.reduceLT, Int.reduceEq, Int.reduceNeg, Int.reduceAdd, Int.reduceSub, Int.reduceMul, h1, h2, hV]
  have hC1 : ¬ B.c < 0 := by omega
  have hC2 : ¬ 900 < B.c := by omega
  simp only [go_sem, Nat.reduceBEq, Nat.reduceLT, Nat.reduceLeDiff, Nat.reduceAdd, Nat.reduceMul, Nat.reduceSub, Nat.reduceMod, Nat.reduceDiv, Nat.reduceEqDiff, Int.reduceToNat, reduceIte, reduceCtorEq, Int.reduceLE, Int.reduceLT, Int.reduceEq, Int.reduceNeg, Int.reduceAdd, Int.reduceSub, Int.reduceMul, hC1, hC2]
  refine U_step ?_
  simp only [go_sem, Nat.reduceBEq, Nat.reduceLT, Nat.reduceLeDiff, Nat.reduceAdd, Nat.reduceMul, Nat.reduceSub, Nat.reduceMod, Nat.reduceDiv, Nat.reduceEqDiff, Int.reduceToNat, reduceIte, reduceCtorEq, Int.reduceLE, Int.reduceLT, Int.reduceEq, Int.reduceNeg, Int.reduceAdd, Int.reduceSub, Int.reduceMul]
  refine (loadOf_Q _ _ _ B hR).A ?_
  by_cases hD : B.a + B.b + B.c ≤ 900
  rotate_left
  · have hV : ¬ BrV B := fun h => hD h.2.1
    simp only [go_sem, Nat.reduceBEq, Nat.reduceLT, Nat.reduceLeDiff, Nat.reduceAdd, Nat.reduceMul, Nat.reduceSub, Nat.reduceMod, Nat.reduceDiv, Nat.reduceEqDiff, Int.reduceToNat, reduceIte, reduceCtorEq, Int.reduceLE, Int.reduceLT, Int.reduceEq, Int.reduceNeg, Int.reduceAdd, Int.reduceSub, Int.reduceMul, hD, hV]
  simp only [go_sem, Nat.reduceBEq, Nat.reduceLT, Nat.reduceLeDiff, Nat.reduceAdd, Nat.reduceMul, Nat.reduceSub, Nat.reduceMod, Nat.reduceDiv, Nat.reduceEqDiff, Int.reduceToNat, reduceIte, reduceCtorEq, Int.reduceLE, Int.reduceLT, Int.reduceEq, Int.reduceNeg, Int.reduceAdd, Int.reduceSub, Int.reduceMul, hD, w64 (n := B.w) (by omega)]
  refine (within_Q _ _ _ _ _ _).A ?_
  by_cases hE : 0 ≤ B.w ∧ B.w ≤ 200
  rotate_left
  · have hV : ¬ BrV B := fun h => hE h.2.2.1
    simp only [go_sem, Nat.reduceBEq, Nat.reduceLT, Nat.reduceLeDiff, Nat.reduceAdd, Nat.reduceMul, Nat.reduceSub, Nat.reduceMod, Nat.reduceDiv, Nat.reduceEqDiff, Int.reduceToNat, reduceIte, reduceCtorEq, Int.reduceLE, Int.reduceLT, Int.reduceEq, Int.reduceNeg, Int.reduceAdd, Int.reduceSub, Int.reduceMul, hE, hV]
  simp only [go_sem, Nat.reduceBEq, Nat.reduceLT, Nat.reduceLeDiff, Nat.reduceAdd, Nat.reduceMul, Nat.reduceSub, Nat.reduceMod, Nat.reduceDiv, Nat.reduceEqDiff, Int.reduceToNat, reduceIte, reduceCtorEq, Int.reduceLE, Int.reduceLT, Int.reduceEq, Int.reduceNeg, Int.reduceAdd, Int.reduceSub, Int.reduceMul, hE, w64 (n := B.s) (by omega)]
  refine (within_Q _ _ _ _ _ _).A ?_
  have hV : BrV B = (1 ≤ B.s ∧ B.s ≤ 16) := propext ⟨fun h => h.2.2.2, fun h => ⟨⟨hA, hB, hC⟩, hD, hE, h⟩⟩
  simp only [go_sem, Nat.reduceBEq, Nat.reduceLT, Nat.reduceLeDiff, Nat.reduceAdd, Nat.reduceMul, Nat.reduceSub, Nat.reduceMod, Nat.reduceDiv, Nat.reduceEqDiff, Int.reduceToNat, reduceIte, reduceCtorEq, Int.reduceLE, Int.reduceLT, Int.reduceEq, Int.reduceNeg, Int.reduceAdd, Int.reduceSub, Int.reduceMul, hV]
theorem left_Q (B : Br) (own most has : Int) (h1 : 0 ≤ own) (h2 : own ≤ 1000) (hs : 1 ≤ B.s) (hs2 : B.s ≤ 16) (h3 : 0 ≤ has) (h4 : has ≤ most) (h5 : most ≤ 1000) :
    CallQ Try.prog cx 96 [.agg 5 (brC B), .int .i16 own, .int .i16 most, .int .i16 has] h n (.int .i16 (min ((own * B.s + 15).tdiv 16) (most - has))) := by
  have hm : 0 ≤ own * B.s ∧ own * B.s ≤ 16000 := ⟨Int.mul_nonneg h1 (by omega), Int.le_trans (Int.mul_le_mul h2 hs2 (by omega) (by omega)) (by omega)⟩
  have ht := tdiv16 hm.1
  refine callQ_of_T (P := Try.prog) hti (nt := 25) (rs := [.tmp 8]) rfl rfl Try.call96 Try.func96 rfl _ (by simp only [go_sem, and_self]) (Nat.le_of_ble_eq_true rfl) _ (by first | exact trivial | (refine lt_flat rfl ?_; simp [SV.flat]; done) | simp only [go_sem]) fun hok => ?_
  simp only [go_sem, Nat.reduceBEq, Nat.reduceLT, Nat.reduceLeDiff, Nat.reduceAdd, Nat.reduceMul, Nat.reduceSub, Nat.reduceMod, Nat.reduceDiv, Nat.reduceEqDiff, Int.reduceToNat, reduceIte, reduceCtorEq, Int.reduceLE, Int.reduceLT, Int.reduceEq, Int.reduceNeg, Int.reduceAdd, Int.reduceSub, Int.reduceMul, w64 (n := B.s) (by omega), w64 (n := own) (by omega), w64 (n := own * B.s) (by omega), w64 (n := own * B.s + 15) (by omega), w64 (n := (own * B.s + 15).tdiv 16) (by omega), w16 (n := most - has) (by omega), w64 (n := most - has) (by omega), w16 (n := min ((own * B.s + 15).tdiv 16) (most - has)) (by omega)]
end
end Go.Proofs.Ytebpkdolmlloaaa.V

/- A brush leaves ink, and touches a cell. -/
namespace Go.Proofs.Ytebpkdolmlloaaa.V

/-- What a brush leaves of one thing. -/
def lvOf (s own most has : Int) : Int := min ((own * s + 15).tdiv 16) (most - has)
def lvA (S : Sh) (B : Br) (y x : Int) : Int := if waxB S x y then 0 else lvOf B.s B.a 1000 (S.dye y x 0)
def lvB (S : Sh) (B : Br) (y x : Int) : Int := if waxB S x y then 0 else lvOf B.s B.b 1000 (S.dye y x 1)
def lvC (S : Sh) (B : Br) (y x : Int) : Int := if waxB S x y then 0 else lvOf B.s B.c 1000 (S.dye y x 2)
def lvW (S : Sh) (B : Br) (y x : Int) : Int := if waxB S x y then 0 else lvOf B.s B.w 200 (S.wet y x)
theorem lvOf_in {s own most has : Int} (hs : 1 ≤ s) (hs2 : s ≤ 16) (h1 : 0 ≤ own) (h3 : 0 ≤ has) (h4 : has ≤ most) : 0 ≤ lvOf s own most has ∧ lvOf s own most has ≤ own ∧ lvOf s own most has + has ≤ most := by
  have hm : 0 ≤ own * s := Int.mul_nonneg h1 (by omega)
  have hm2 : own * s ≤ own * 16 := Int.mul_le_mul_of_nonneg_left hs2 h1
  have h : (own * s + 15).tdiv 16 ≤ own ∧ 0 ≤ (own * s + 15).tdiv 16 := by rw [Int.tdiv_eq_ediv_of_nonneg (by omega)]; omega
  unfold lvOf
  omega
section
variable {S : Sh} {B : Br} {y x : Int} (hG : Good S) (hB : BrV B) (hx : 0 ≤ x) (hx8 : x < 8) (hy : 0 ≤ y) (hy8 : y < 8)
include hG hB hx hx8 hy hy8
theorem lvA_in : 0 ≤ lvA S B y x ∧ lvA S B y x ≤ B.a ∧ lvA S B y x + S.dye y x 0 ≤ 1000 := by
  have h1 := hG.dye y x 0 hy hy8 hx hx8 (by omega) (by omega)
  unfold lvA; split
  · exact ⟨by omega, hB.1.1.1, by omega⟩
  · exact lvOf_in hB.2.2.2.1 hB.2.2.2.2 hB.1.1.1 h1.1 h1.2
theorem lvB_in : 0 ≤ lvB S B y x ∧ lvB S B y x ≤ B.b ∧ lvB S B y x + S.dye y x 1 ≤ 1000 := by
  have h1 := hG.dye y x 1 hy hy8 hx hx8 (by omega) (by omega)
  unfold lvB; split
  · exact ⟨by omega, hB.1.2.1.1, by omega⟩
  · exact lvOf_in hB.2.2.2.1 hB.2.2.2.2 hB.1.2.1.1 h1.1 h1.2
theorem lvC_in : 0 ≤ lvC S B y x ∧ lvC S B y x ≤ B.c ∧ lvC S B y x + S.dye y x 2 ≤ 1000 := by
  have h1 := hG.dye y x 2 hy hy8 hx hx8 (by omega) (by omega)
  unfold lvC; split
  · exact ⟨by omega, hB.1.2.2.1, by omega⟩
  · exact lvOf_in hB.2.2.2.1 hB.2.2.2.2 hB.1.2.2.1 h1.1 h1.2
theorem lvW_in : 0 ≤ lvW S B y x ∧ lvW S B y x ≤ B.w ∧ lvW S B y x + S.wet y x ≤ 200 := by
  have h1 := hG.wet y x hy hy8 hx hx8
  unfold lvW; split
  · exact ⟨by omega, hB.2.2.1.1, by omega⟩
  · exact lvOf_in hB.2.2.2.1 hB.2.2.2.2 hB.2.2.1.1 h1.1 h1.2
end
def touchB (S : Sh) (B : Br) (y x : Int) : Br := ⟨B.a - lvA S B y x, B.b - lvB S B y x, B.c - lvC S B y x, B.w - lvW S B y x, B.s⟩
def touchS (S : Sh) (B : Br) (y x : Int) : Sh :=
  (((S.setDye y x 0 (S.dye y x 0 + lvA S B y x)).setDye y x 1 (S.dye y x 1 + lvB S B y x)).setDye y x 2 (S.dye y x 2 + lvC S B y x)).setWet y x (S.wet y x + lvW S B y x)

section
variable (cx : Cx) (h : List (Nat × Seg)) (n : Nat)
variable (i : Nat) (S : Sh) (B : Br) (x y : Int) (hs : hget h i = some (shS S)) (hi : i < n) (hR : ShR S) (hG : Good S) (hB : BrV B) (hx : 0 ≤ x) (hx8 : x < 8) (hy : 0 ≤ y) (hy8 : y < 8)
theorem BrV.R {B : Br} (h : BrV B) : BrR B := by
  obtain ⟨⟨h1, h2, h3⟩, h4, h5, h6⟩ := h
  exact ⟨by omega, by omega, by omega, by omega, by omega⟩
include hs hi hR hG hB hx hx8 hy hy8 in
theorem leave_Q : CallQ Try.prog cx 54 [.ptr i 0, .agg 5 (brC B), spot x y] h n (.tup 2 (cl [.agg 3 (cl [.int .i16 (lvA S B y x), .int .i16 (lvB S B y x), .int .i16 (lvC S B y x)]), .int .i16 (lvW S B y x)])) := by
  have hA := shAt_shC hR
  have d0 := hG.dye y x 0 hy hy8 hx hx8 (by omega) (by omega)
  have d1 := hG.dye y x 1 hy hy8 hx hx8 (by omega) (by omega)
  have d2 := hG.dye y x 2 hy hy8 hx hx8 (by omega) (by omega)
  have hw := hG.wet y x hy hy8 hx hx8
  obtain ⟨⟨b1, b2, b3⟩, b4, b5, b6⟩ := id hB
  refine callQ_of_T (P := Try.prog) hti (nt := 48) (rs := [.cell 6 26, .tmp 7]) rfl rfl Try.call54 Try.func54 rfl _ (by simp only [go_sem, and_self]) (Nat.le_of_ble_eq_true rfl) _ (by first | exact trivial | (refine lt_flat rfl ?_; simp [SV.flat]; done) | simp only [go_sem]) fun hok => ?_
  simp only [go_sem, Nat.reduceBEq, Nat.reduceLT, Nat.reduceLeDiff, Nat.reduceAdd, Nat.reduceMul, Nat.reduceSub, Nat.reduceMod, Nat.reduceDiv, Nat.reduceEqDiff, Int.reduceToNat, reduceIte, reduceCtorEq, Int.reduceLE, Int.reduceLT, Int.reduceEq, Int.reduceNeg, Int.reduceAdd, Int.reduceSub, Int.reduceMul]
  refine (waxed_Q _ _ _ i 0 _ S x y (by simp only [go_sem, Nat.reduceBEq, Nat.reduceLT, Nat.reduceLeDiff, Nat.reduceAdd, Nat.reduceMul, Nat.reduceSub, Nat.reduceMod, Nat.reduceDiv, Nat.reduceEqDiff, Int.reduceToNat, reduceIte, reduceCtorEq, Int.reduceLE, Int.reduceLT, Int.reduceEq, Int.reduceNeg, Int.reduceAdd, Int.reduceSub, Int.reduceMul, hs, hi]) (by omega) hA hx hy hy8).A ?_
  by_cases hwx : waxB S x y = true
  · simp only [go_sem, Nat.reduceBEq, Nat.reduceLT, Nat.reduceLeDiff, Nat.reduceAdd, Nat.reduceMul, Nat.reduceSub, Nat.reduceMod, Nat.reduceDiv, Nat.reduceEqDiff, Int.reduceToNat, reduceIte, reduceCtorEq, Int.reduceLE, Int.reduceLT, Int.reduceEq, Int.reduceNeg, Int.reduceAdd, Int.reduceSub, Int.reduceMul, hwx, lvA, lvB, lvC, lvW]
  · simp only [go_sem, Nat.reduceBEq, Nat.reduceLT, Nat.reduceLeDiff, Nat.reduceAdd, Nat.reduceMul, Nat.reduceSub, Nat.reduceMod, Nat.reduceDiv, Nat.reduceEqDiff, Int.reduceToNat, reduceIte, reduceCtorEq, Int.reduceLE, Int.reduceLT, Int.reduceEq, Int.reduceNeg, Int.reduceAdd, Int.reduceSub, Int.reduceMul, hwx]
    refine (dye_Q _ _ _ i 0 _ S x y (by simp only [go_sem, Nat.reduceBEq, Nat.reduceLT, Nat.reduceLeDiff, Nat.reduceAdd, Nat.reduceMul, Nat.reduceSub, Nat.reduceMod, Nat.reduceDiv, Nat.reduceEqDiff, Int.reduceToNat, reduceIte, reduceCtorEq, Int.reduceLE, Int.reduceLT, Int.reduceEq, Int.reduceNeg, Int.reduceAdd, Int.reduceSub, Int.reduceMul, hs, hi]) (by omega) hA hx hx8 hy hy8).A ?_
    simp only [go_sem, Nat.reduceBEq, Nat.reduceLT, Nat.reduceLeDiff, Nat.reduceAdd, Nat.reduceMul, Nat.reduceSub, Nat.reduceMod, Nat.reduceDiv, Nat.reduceEqDiff, Int.reduceToNat, reduceIte, reduceCtorEq, Int.reduceLE, Int.reduceLT, Int.reduceEq, Int.reduceNeg, Int.reduceAdd, Int.reduceSub, Int.reduceMul]
    refine T_unroll 3 ?_
    simp only [go_sem, Nat.reduceBEq, Nat.reduceLT, Nat.reduceLeDiff, Nat.reduceAdd, Nat.reduceMul, Nat.reduceSub, Nat.reduceMod, Nat.reduceDiv, Nat.reduceEqDiff, Int.reduceToNat, reduceIte, reduceCtorEq, Int.reduceLE, Int.reduceLT, Int.reduceEq, Int.reduceNeg, Int.reduceAdd, Int.reduceSub, Int.reduceMul]
    refine T_drawT hti 9 _ _ (by kernel_rfl) (by kernel_rfl) ?_
    simp only [go_sem, Nat.reduceBEq, Nat.reduceLT, Nat.reduceLeDiff, Nat.reduceAdd, Nat.reduceMul, Nat.reduceSub, Nat.reduceMod, Nat.reduceDiv, Nat.reduceEqDiff, Int.reduceToNat, reduceIte, reduceCtorEq, Int.reduceLE, Int.reduceLT, Int.reduceEq, Int.reduceNeg, Int.reduceAdd, Int.reduceSub, Int.reduceMul]
    refine (left_Q _ _ _ B B.a 1000 (S.dye y x 0) (by omega) (by omega) (by omega) (by omega) (by omega) (by omega) (by omega)).A ?_
    simp only [go_sem, Nat.reduceBEq, Nat.reduceLT, Nat.reduceLeDiff, Nat.reduceAdd, Nat.reduceMul, Nat.reduceSub, Nat.reduceMod, Nat.reduceDiv, Nat.reduceEqDiff, Int.reduceToNat, reduceIte, reduceCtorEq, Int.reduceLE, Int.reduceLT, Int.reduceEq, Int.reduceNeg, Int.reduceAdd, Int.reduceSub, Int.reduceMul]
    refine U_step ?_
    simp only [go_sem, Nat.reduceBEq, Nat.reduceLT, Nat.reduceLeDiff, Nat.reduceAdd, Nat.reduceMul, Nat.reduceSub, Nat.reduceMod, Nat.reduceDiv, Nat.reduceEqDiff, Int.reduceToNat, reduceIte, reduceCtorEq, Int.reduceLE, Int.reduceLT, Int.reduceEq, Int.reduceNeg, Int.reduceAdd, Int.reduceSub, Int.reduceMul]
    refine T_drawT hti 9 _ _ (by kernel_rfl) (by kernel_rfl) ?_
    simp only [go_sem, Nat.reduceBEq, Nat.reduceLT, Nat.reduceLeDiff, Nat.reduceAdd, Nat.reduceMul, Nat.reduceSub, Nat.reduceMod, Nat.reduceDiv, Nat.reduceEqDiff, Int.reduceToNat, reduceIte, reduceCtorEq, Int.reduceLE, Int.reduceLT, Int.reduceEq, Int.reduceNeg, Int.reduceAdd, Int.reduceSub, Int.reduceMul]
    refine (left_Q _ _ _ B B.b 1000 (S.dye y x 1) (by omega) (by omega) (by omega) (by omega) (by omega) (by omega) (by omega)).A ?_
    simp only [go_sem, Nat.reduceBEq, Nat.reduceLT, Nat.reduceLeDiff, Nat.reduceAdd, Nat.reduceMul, Nat.reduceSub, Nat.reduceMod, Nat.reduceDiv, Nat.reduceEqDiff, Int.reduceToNat, reduceIte, reduceCtorEq, Int.reduceLE, Int.reduceLT, Int.reduceEq, Int.reduceNeg, Int.reduceAdd, Int.reduceSub, Int.reduceMul]
    refine U_step ?_
    simp only [go_sem, Nat.reduceBEq, Nat.reduceLT, Nat.reduceLeDiff, Nat.reduceAdd, Nat.reduceMul, Nat.reduceSub, Nat.reduceMod, Nat.reduceDiv, Nat.reduceEqDiff, Int.reduceToNat, reduceIte, reduceCtorEq, Int.reduceLE, Int.reduceLT, Int.reduceEq, Int.reduceNeg, Int.reduceAdd, Int.reduceSub, Int.reduceMul]
    refine T_drawT hti 9 _ _ (by kernel_rfl) (by kernel_rfl) ?_
    simp only [go_sem, Nat.reduceBEq, Nat.reduceLT, Nat.reduceLeDiff, Nat.reduceAdd, Nat.reduceMul, Nat.reduceSub, Nat.reduceMod, Nat.reduceDiv, Nat.reduceEqDiff, Int.reduceToNat, reduceIte, reduceCtorEq, Int.reduceLE, Int.reduceLT, Int.reduceEq, Int.reduceNeg, Int.reduceAdd, Int.reduceSub, Int.reduceMul]
    refine (left_Q _ _ _ B B.c 1000 (S.dye y x 2) (by omega) (by omega) (by omega) (by omega) (by omega) (by omega) (by omega)).A ?_
    simp only [go_sem, Nat.reduceBEq, Nat.reduceLT, Nat.reduceLeDiff, Nat.reduceAdd, Nat.reduceMul, Nat.reduceSub, Nat.reduceMod, Nat.reduceDiv, Nat.reduceEqDiff, Int.reduceToNat, reduceIte, reduceCtorEq, Int.reduceLE, Int.reduceLT, Int.reduceEq, Int.reduceNeg, Int.reduceAdd, Int.reduceSub, Int.reduceMul]
    refine U_step ?_
    simp only [go_sem, Nat.reduceBEq, Nat.reduceLT, Nat.reduceLeDiff, Nat.reduceAdd, Nat.reduceMul, Nat.reduceSub, Nat.reduceMod, Nat.reduceDiv, Nat.reduceEqDiff, Int.reduceToNat, reduceIte, reduceCtorEq, Int.reduceLE, Int.reduceLT, Int.reduceEq, Int.reduceNeg, Int.reduceAdd, Int.reduceSub, Int.reduceMul]
    refine T_drawT hti 15 _ _ (by kernel_rfl) (by kernel_rfl) ?_
    simp only [go_sem, Nat.reduceBEq, Nat.reduceLT, Nat.reduceLeDiff, Nat.reduceAdd, Nat.reduceMul, Nat.reduceSub, Nat.reduceMod, Nat.reduceDiv, Nat.reduceEqDiff, Int.reduceToNat, reduceIte, reduceCtorEq, Int.reduceLE, Int.reduceLT, Int.reduceEq, Int.reduceNeg, Int.reduceAdd, Int.reduceSub, Int.reduceMul, hs, hi, hx, hx8, hy, hy8]
    refine (left_Q _ _ _ B B.w 200 (S.wet y x) (by omega) (by omega) (by omega) (by omega) (by omega) (by omega) (by omega)).A ?_
    simp only [go_sem, Nat.reduceBEq, Nat.reduceLT, Nat.reduceLeDiff, Nat.reduceAdd, Nat.reduceMul, Nat.reduceSub, Nat.reduceMod, Nat.reduceDiv, Nat.reduceEqDiff, Int.reduceToNat, reduceIte, reduceCtorEq, Int.reduceLE, Int.reduceLT, Int.reduceEq, Int.reduceNeg, Int.reduceAdd, Int.reduceSub, Int.reduceMul, hwx, lvA, lvB, lvC, lvW, lvOf]
variable (j : Nat) (ht : hget h j = some (brS B)) (hj : j < n) (hij : (i == j) = false)
theorem touchB_V {S : Sh} {B : Br} {x y : Int} (hG : Good S) (hB : BrV B) (hx : 0 ≤ x) (hx8 : x < 8) (hy : 0 ≤ y) (hy8 : y < 8) : BrV (touchB S B y x) := by
  have l0 := lvA_in hG hB hx hx8 hy hy8
  have l1 := lvB_in hG hB hx hx8 hy hy8
  have l2 := lvC_in hG hB hx hx8 hy hy8
  have l3 := lvW_in hG hB hx hx8 hy hy8
  obtain ⟨⟨b1, b2, b3⟩, b4, b5, b6⟩ := id hB
  unfold touchB BrV
  simp only
  omega
theorem touchS_good {S : Sh} {B : Br} {x y : Int} (hG : Good S) (hB : BrV B) (hx : 0 ≤ x) (hx8 : x < 8) (hy : 0 ≤ y) (hy8 : y < 8) : Good (touchS S B y x) := by
  have l0 := lvA_in hG hB hx hx8 hy hy8
  have l1 := lvB_in hG hB hx hx8 hy hy8
  have l2 := lvC_in hG hB hx hx8 hy hy8
  have l3 := lvW_in hG hB hx hx8 hy hy8
  refine ⟨hG.small, fun y' x' a b c d => ?_, fun y' x' i' a b c d e f => ?_⟩
  · have g := hG.wet y' x' a b c d
    have g1 := hG.wet y x hy hy8 hx hx8
    simp only [touchS, setWet_wet, setDye_wet]
    split <;> omega
  · have g := hG.dye y' x' i' a b c d e f
    have g0 := hG.dye y x 0 hy hy8 hx hx8 (by omega) (by omega)
    have g1 := hG.dye y x 1 hy hy8 hx hx8 (by omega) (by omega)
    have g2 := hG.dye y x 2 hy hy8 hx hx8 (by omega) (by omega)
    simp only [touchS, setWet_dye, setDye_dye]
    (repeat' split) <;> omega
theorem touchS_R {S : Sh} {B : Br} {x y : Int} (hR : ShR S) (hG : Good S) (hB : BrV B) (hx : 0 ≤ x) (hx8 : x < 8) (hy : 0 ≤ y) (hy8 : y < 8) : ShR (touchS S B y x) := by
  have l0 := lvA_in hG hB hx hx8 hy hy8
  have l1 := lvB_in hG hB hx hx8 hy hy8
  have l2 := lvC_in hG hB hx hx8 hy hy8
  have l3 := lvW_in hG hB hx hx8 hy hy8
  have g0 := hG.dye y x 0 hy hy8 hx hx8 (by omega) (by omega)
  have g1 := hG.dye y x 1 hy hy8 hx hx8 (by omega) (by omega)
  have g2 := hG.dye y x 2 hy hy8 hx hx8 (by omega) (by omega)
  have g3 := hG.wet y x hy hy8 hx hx8
  exact (((hR.setDye (by omega)).setDye (by omega)).setDye (by omega)).setWet (by omega)
theorem hok_brS {m : Nat} {h0 : List (Nat × Seg)} {j : Nat} {B : Br} (hok : HOk m h0) : HOk m (hset h0 j (brS B)) := hok_set hok fun k hk => brC_flat B hk
theorem hok_shS {m : Nat} {h0 : List (Nat × Seg)} {j : Nat} {S : Sh} (hok : HOk m h0) : HOk m (hset h0 j (shS S)) := hok_set hok fun k hk => shC_flat S k
include hs hi hR hG hB hx hx8 hy hy8 ht hj hij in
theorem touch_E (K : HK) (hK : K (.tup 0 (cl [])) (hset (hset h j (brS (touchB S B y x))) i (shS (touchS S B y x))) n) :
    CallE Try.prog cx 57 [.ptr i 0, .ptr j 0, spot x y] h n K := by
  have l0 := lvA_in hG hB hx hx8 hy hy8
  have l1 := lvB_in hG hB hx hx8 hy hy8
  have l2 := lvC_in hG hB hx hx8 hy hy8
  have l3 := lvW_in hG hB hx hx8 hy hy8
  have g0 := hG.dye y x 0 hy hy8 hx hx8 (by omega) (by omega)
  have g1 := hG.dye y x 1 hy hy8 hx hx8 (by omega) (by omega)
  have g2 := hG.dye y x 2 hy hy8 hx hx8 (by omega) (by omega)
  have g3 := hG.wet y x hy hy8 hx hx8
  obtain ⟨⟨b1, b2, b3⟩, b4, b5, b6⟩ := id hB
  have hji : (j == i) = false := by simp at hij ⊢; omega
  refine CallE.to (.tup 0 (cl [])) _ (fun _ h => by omega) (fun hok => hok_shS (hok_brS hok)) hK ?_
  refine callE_of_T (P := Try.prog) hti (nt := 79) (rs := []) rfl rfl Try.call57 Try.func57 rfl _ (by simp only [go_sem, and_self]) (Nat.le_of_ble_eq_true rfl) _ fun hok => ?_
  simp only [go_sem, Nat.reduceBEq, Nat.reduceLT, Nat.reduceLeDiff, Nat.reduceAdd, Nat.reduceMul, Nat.reduceSub, Nat.reduceMod, Nat.reduceDiv, Nat.reduceEqDiff, Int.reduceToNat, reduceIte, reduceCtorEq, Int.reduceLE, Int.reduceLT, Int.reduceEq, Int.reduceNeg, Int.reduceAdd, Int.reduceSub, Int.reduceMul]
  refine T_drawG hti 12 [10] (.b 0 0 (.b 0 1 (.b 0 2 (.b 0 3 (.b 0 4 (.b 1 5 (.b 0 6 (.b 0 7 (.b 0 8 (.b 2 9 (.b 4 10 (.b 0 11 (.f) .o) .o) .o) .o) .o) .o) .o) .o) .o) .o) .o) .o) _ _ (by kernel_rfl) (by kernel_rfl) ?_
  simp only [go_sem, Nat.reduceBEq, Nat.reduceLT, Nat.reduceLeDiff, Nat.reduceAdd, Nat.reduceMul, Nat.reduceSub, Nat.reduceMod, Nat.reduceDiv, Nat.reduceEqDiff, Int.reduceToNat, reduceIte, reduceCtorEq, Int.reduceLE, Int.reduceLT, Int.reduceEq, Int.reduceNeg, Int.reduceAdd, Int.reduceSub, Int.reduceMul, ht, hj]
  refine CallQ.F _ (fun h' n' hn hx' => leave_Q _ h' n' i S B x y (hx' i (by omega) _ (by simp only [go_sem, Nat.reduceBEq, Nat.reduceLT, Nat.reduceLeDiff, Nat.reduceAdd, Nat.reduceMul, Nat.reduceSub, Nat.reduceMod, Nat.reduceDiv, Nat.reduceEqDiff, Int.reduceToNat, reduceIte, reduceCtorEq, Int.reduceLE, Int.reduceLT, Int.reduceEq, Int.reduceNeg, Int.reduceAdd, Int.reduceSub, Int.reduceMul, hs, hi])) (by omega) hR hG hB hx hx8 hy hy8) ?_
  simp only [go_sem, Nat.reduceBEq, Nat.reduceLT, Nat.reduceLeDiff, Nat.reduceAdd, Nat.reduceMul, Nat.reduceSub, Nat.reduceMod, Nat.reduceDiv, Nat.reduceEqDiff, Int.reduceToNat, reduceIte, reduceCtorEq, Int.reduceLE, Int.reduceLT, Int.reduceEq, Int.reduceNeg, Int.reduceAdd, Int.reduceSub, Int.reduceMul]
  refine T_unroll 3 ?_
  simp only [go_sem, Nat.reduceBEq, Nat.reduceLT, Nat.reduceLeDiff, Nat.reduceAdd, Nat.reduceMul, Nat.reduceSub, Nat.reduceMod, Nat.reduceDiv, Nat.reduceEqDiff, Int.reduceToNat, reduceIte, reduceCtorEq, Int.reduceLE, Int.reduceLT, Int.reduceEq, Int.reduceNeg, Int.reduceAdd, Int.reduceSub, Int.reduceMul]
  refine T_drawT hti 11 _ _ (by kernel_rfl) (by kernel_rfl) ?_
  simp only [go_sem, Nat.reduceBEq, Nat.reduceLT, Nat.reduceLeDiff, Nat.reduceAdd, Nat.reduceMul, Nat.reduceSub, Nat.reduceMod, Nat.reduceDiv, Nat.reduceEqDiff, Int.reduceToNat, reduceIte, reduceCtorEq, Int.reduceLE, Int.reduceLT, Int.reduceEq, Int.reduceNeg, Int.reduceAdd, Int.reduceSub, Int.reduceMul, ht, hj, hij, hji, w16 (n := B.a - lvA S B y x) (by omega)]
  refine T_drawT hti 19 _ _ (by kernel_rfl) (by kernel_rfl) ?_
  simp only [go_sem, Nat.reduceBEq, Nat.reduceLT, Nat.reduceLeDiff, Nat.reduceAdd, Nat.reduceMul, Nat.reduceSub, Nat.reduceMod, Nat.reduceDiv, Nat.reduceEqDiff, Int.reduceToNat, reduceIte, reduceCtorEq, Int.reduceLE, Int.reduceLT, Int.reduceEq, Int.reduceNeg, Int.reduceAdd, Int.reduceSub, Int.reduceMul, hs, hi, hij, hji, hx, hx8, hy, hy8, w16 (n := S.dye y x 0 + lvA S B y x) (by omega)]
  refine U_step ?_
  simp only [go_sem, Nat.reduceBEq, Nat.reduceLT, Nat.reduceLeDiff, Nat.reduceAdd, Nat.reduceMul, Nat.reduceSub, Nat.reduceMod, Nat.reduceDiv, Nat.reduceEqDiff, Int.reduceToNat, reduceIte, reduceCtorEq, Int.reduceLE, Int.reduceLT, Int.reduceEq, Int.reduceNeg, Int.reduceAdd, Int.reduceSub, Int.reduceMul]
  refine T_drawT hti 11 _ _ (by kernel_rfl) (by kernel_rfl) ?_
  simp only [go_sem, Nat.reduceBEq, Nat.reduceLT, Nat.reduceLeDiff, Nat.reduceAdd, Nat.reduceMul, Nat.reduceSub, Nat.reduceMod, Nat.reduceDiv, Nat.reduceEqDiff, Int.reduceToNat, reduceIte, reduceCtorEq, Int.reduceLE, Int.reduceLT, Int.reduceEq, Int.reduceNeg, Int.reduceAdd, Int.reduceSub, Int.reduceMul, ht, hj, hij, hji, w16 (n := B.b - lvB S B y x) (by omega)]
  refine T_drawT hti 19 _ _ (by kernel_rfl) (by kernel_rfl) ?_
  simp only [go_sem, Nat.reduceBEq, Nat.reduceLT, Nat.reduceLeDiff, Nat.reduceAdd, Nat.reduceMul, Nat.reduceSub, Nat.reduceMod, Nat.reduceDiv, Nat.reduceEqDiff, Int.reduceToNat, reduceIte, reduceCtorEq, Int.reduceLE, Int.reduceLT, Int.reduceEq, Int.reduceNeg, Int.reduceAdd, Int.reduceSub, Int.reduceMul, hs, hi, hij, hji, hx, hx8, hy, hy8, w16 (n := S.dye y x 1 + lvB S B y x) (by omega)]
  refine U_step ?_
  simp only [go_sem, Nat.reduceBEq, Nat.reduceLT, Nat.reduceLeDiff, Nat.reduceAdd, Nat.reduceMul, Nat.reduceSub, Nat.reduceMod, Nat.reduceDiv, Nat.reduceEqDiff, Int.reduceToNat, reduceIte, reduceCtorEq, Int.reduceLE, Int.reduceLT, Int.reduceEq, Int.reduceNeg, Int.reduceAdd, Int.reduceSub, Int.reduceMul]
  refine T_drawT hti 11 _ _ (by kernel_rfl) (by kernel_rfl) ?_
  simp only [go_sem, Nat.reduceBEq, Nat.reduceLT, Nat.reduceLeDiff, Nat.reduceAdd, Nat.reduceMul, Nat.reduceSub, Nat.reduceMod, Nat.reduceDiv, Nat.reduceEqDiff, Int.reduceToNat, reduceIte, reduceCtorEq, Int.reduceLE, Int.reduceLT, Int.reduceEq, Int.reduceNeg, Int.reduceAdd, Int.reduceSub, Int.reduceMul, ht, hj, hij, hji, w16 (n := B.c - lvC S B y x) (by omega)]
  refine T_drawT hti 19 _ _ (by kernel_rfl) (by kernel_rfl) ?_
  simp only [go_sem, Nat.reduceBEq, Nat.reduceLT, Nat.reduceLeDiff, Nat.reduceAdd, Nat.reduceMul, Nat.reduceSub, Nat.reduceMod, Nat.reduceDiv, Nat.reduceEqDiff, Int.reduceToNat, reduceIte, reduceCtorEq, Int.reduceLE, Int.reduceLT, Int.reduceEq, Int.reduceNeg, Int.reduceAdd, Int.reduceSub, Int.reduceMul, hs, hi, hij, hji, hx, hx8, hy, hy8, w16 (n := S.dye y x 2 + lvC S B y x) (by omega)]
  refine U_step ?_
  simp only [go_sem, Nat.reduceBEq, Nat.reduceLT, Nat.reduceLeDiff, Nat.reduceAdd, Nat.reduceMul, Nat.reduceSub, Nat.reduceMod, Nat.reduceDiv, Nat.reduceEqDiff, Int.reduceToNat, reduceIte, reduceCtorEq, Int.reduceLE, Int.reduceLT, Int.reduceEq, Int.reduceNeg, Int.reduceAdd, Int.reduceSub, Int.reduceMul, ht, hj, hs, hi, hij, hji, w16 (n := B.w - lvW S B y x) (by omega)]
  refine T_drawT hti 16 _ _ (by kernel_rfl) (by kernel_rfl) ?_
  simp only [go_sem, Nat.reduceBEq, Nat.reduceLT, Nat.reduceLeDiff, Nat.reduceAdd, Nat.reduceMul, Nat.reduceSub, Nat.reduceMod, Nat.reduceDiv, Nat.reduceEqDiff, Int.reduceToNat, reduceIte, reduceCtorEq, Int.reduceLE, Int.reduceLT, Int.reduceEq, Int.reduceNeg, Int.reduceAdd, Int.reduceSub, Int.reduceMul, hs, hi, hij, hji, hx, hx8, hy, hy8, w16 (n := S.wet y x + lvW S B y x) (by omega)]
  exact HExt.rfl
end
end Go.Proofs.Ytebpkdolmlloaaa.V

/- A brush leaves ink, and touches a cell: the reference's code. -/
namespace Go.Proofs.Ytebpkdolmlloaaa.V
section
variable (cx : Cx) (h : List (Nat × Seg)) (n : Nat)
variable (i j : Nat) (S : Sh) (B : Br) (x y : Int) (hs : hget h i = some (shS S)) (hi : i < n) (ht : hget h j = some (brS B)) (hj : j < n) (hR : ShR S) (hG : Good S) (hB : BrV B) (hx : 0 ≤ x) (hx8 : x < 8) (hy : 0 ≤ y) (hy8 : y < 8)
include hs hi ht hj hR hG hB hx hx8 hy hy8 in
theorem leave2_Q : CallQ Try.prog cx 88 [.ptr i 0, .ptr j 0, spot x y] h n (.tup 2 (cl [.agg 3 (cl [.int .i64 (lvA S B y x), .int .i64 (lvB S B y x), .int .i64 (lvC S B y x)]), .int .i64 (lvW S B y x)])) := by
  have hA := shAt_shC hR
  have d0 := hG.dye y x 0 hy hy8 hx hx8 (by omega) (by omega)
  have d1 := hG.dye y x 1 hy hy8 hx hx8 (by omega) (by omega)
  have d2 := hG.dye y x 2 hy hy8 hx hx8 (by omega) (by omega)
  have hw := hG.wet y x hy hy8 hx hx8
  obtain ⟨⟨b1, b2, b3⟩, b4, b5, b6⟩ := id hB
  have mul : ∀ {o : Int}, 0 ≤ o → o ≤ 900 → 0 ≤ o * B.s ∧ o * B.s ≤ 8388608 := fun h1 h2 => ⟨Int.mul_nonneg h1 (by omega), Int.le_trans (Int.mul_le_mul h2 b6.2 (by omega) (by omega)) (by omega)⟩
  refine callQ_of_T (P := Try.prog) hti (nt := 74) (rs := [.cell 6 127, .tmp 7]) rfl rfl Try.call88 Try.func88 rfl _ (by simp only [go_sem, and_self]) (Nat.le_of_ble_eq_true rfl) _ (by first | exact trivial | (refine lt_flat rfl ?_; simp [SV.flat]; done) | simp only [go_sem]) fun hok => ?_
  simp only [go_sem, Nat.reduceBEq, Nat.reduceLT, Nat.reduceLeDiff, Nat.reduceAdd, Nat.reduceMul, Nat.reduceSub, Nat.reduceMod, Nat.reduceDiv, Nat.reduceEqDiff, Int.reduceToNat, reduceIte, reduceCtorEq, Int.reduceLE, Int.reduceLT, Int.reduceEq, Int.reduceNeg, Int.reduceAdd, Int.reduceSub, Int.reduceMul]
  refine (waxed2_Q _ _ _ i 0 _ S x y (by simp only [go_sem, Nat.reduceBEq, Nat.reduceLT, Nat.reduceLeDiff, Nat.reduceAdd, Nat.reduceMul, Nat.reduceSub, Nat.reduceMod, Nat.reduceDiv, Nat.reduceEqDiff, Int.reduceToNat, reduceIte, reduceCtorEq, Int.reduceLE, Int.reduceLT, Int.reduceEq, Int.reduceNeg, Int.reduceAdd, Int.reduceSub, Int.reduceMul, hs, hi]) (by omega) hA hx (by omega) hy hy8).A ?_
  by_cases hwx : waxB S x y = true
  · simp only [go_sem, Nat.reduceBEq, Nat.reduceLT, Nat.reduceLeDiff, Nat.reduceAdd, Nat.reduceMul, Nat.reduceSub, Nat.reduceMod, Nat.reduceDiv, Nat.reduceEqDiff, Int.reduceToNat, reduceIte, reduceCtorEq, Int.reduceLE, Int.reduceLT, Int.reduceEq, Int.reduceNeg, Int.reduceAdd, Int.reduceSub, Int.reduceMul, hwx, lvA, lvB, lvC, lvW]
  · simp only [go_sem, Nat.reduceBEq, Nat.reduceLT, Nat.reduceLeDiff, Nat.reduceAdd, Nat.reduceMul, Nat.reduceSub, Nat.reduceMod, Nat.reduceDiv, Nat.reduceEqDiff, Int.reduceToNat, reduceIte, reduceCtorEq, Int.reduceLE, Int.reduceLT, Int.reduceEq, Int.reduceNeg, Int.reduceAdd, Int.reduceSub, Int.reduceMul, hwx]
    refine T_unroll 3 ?_
    simp only [go_sem, Nat.reduceBEq, Nat.reduceLT, Nat.reduceLeDiff, Nat.reduceAdd, Nat.reduceMul, Nat.reduceSub, Nat.reduceMod, Nat.reduceDiv, Nat.reduceEqDiff, Int.reduceToNat, reduceIte, reduceCtorEq, Int.reduceLE, Int.reduceLT, Int.reduceEq, Int.reduceNeg, Int.reduceAdd, Int.reduceSub, Int.reduceMul]
    refine T_drawT hti 30 _ _ (by kernel_rfl) (by kernel_rfl) ?_
    simp only [go_sem, Nat.reduceBEq, Nat.reduceLT, Nat.reduceLeDiff, Nat.reduceAdd, Nat.reduceMul, Nat.reduceSub, Nat.reduceMod, Nat.reduceDiv, Nat.reduceEqDiff, Int.reduceToNat, reduceIte, reduceCtorEq, Int.reduceLE, Int.reduceLT, Int.reduceEq, Int.reduceNeg, Int.reduceAdd, Int.reduceSub, Int.reduceMul, ht, hj, w64 (n := B.a) (by omega), w64 (n := B.s) (by omega)]
    refine (part2_Q _ _ _ B.a B.s (mul (by omega) (by omega)).1 (mul (by omega) (by omega)).2).A ?_
    simp only [go_sem, Nat.reduceBEq, Nat.reduceLT, Nat.reduceLeDiff, Nat.reduceAdd, Nat.reduceMul, Nat.reduceSub, Nat.reduceMod, Nat.reduceDiv, Nat.reduceEqDiff, Int.reduceToNat, reduceIte, reduceCtorEq, Int.reduceLE, Int.reduceLT, Int.reduceEq, Int.reduceNeg, Int.reduceAdd, Int.reduceSub, Int.reduceMul, hs, hi, hx, hx8, hy, hy8, w64 (n := S.dye y x 0) (by omega), w64 (n := 1000 - S.dye y x 0) (by omega)]
    refine (min_Q _ _ _ _ _).A ?_
    simp only [go_sem, Nat.reduceBEq, Nat.reduceLT, Nat.reduceLeDiff, Nat.reduceAdd, Nat.reduceMul, Nat.reduceSub, Nat.reduceMod, Nat.reduceDiv, Nat.reduceEqDiff, Int.reduceToNat, reduceIte, reduceCtorEq, Int.reduceLE, Int.reduceLT, Int.reduceEq, Int.reduceNeg, Int.reduceAdd, Int.reduceSub, Int.reduceMul]
    refine U_step ?_
    simp only [go_sem, Nat.reduceBEq, Nat.reduceLT, Nat.reduceLeDiff, Nat.reduceAdd, Nat.reduceMul, Nat.reduceSub, Nat.reduceMod, Nat.reduceDiv, Nat.reduceEqDiff, Int.reduceToNat, reduceIte, reduceCtorEq, Int.reduceLE, Int.reduceLT, Int.reduceEq, Int.reduceNeg, Int.reduceAdd, Int.reduceSub, Int.reduceMul]
    refine T_drawT hti 30 _ _ (by kernel_rfl) (by kernel_rfl) ?_
    simp only [go_sem, Nat.reduceBEq, Nat.reduceLT, Nat.reduceLeDiff, Nat.reduceAdd, Nat.reduceMul, Nat.reduceSub, Nat.reduceMod, Nat.reduceDiv, Nat.reduceEqDiff, Int.reduceToNat, reduceIte, reduceCtorEq, Int.reduceLE, Int.reduceLT, Int.reduceEq, Int.reduceNeg, Int.reduceAdd, Int.reduceSub, Int.reduceMul, ht, hj, w64 (n := B.b) (by omega), w64 (n := B.s) (by omega)]
    refine (part2_Q _ _ _ B.b B.s (mul (by omega) (by omega)).1 (mul (by omega) (by omega)).2).A ?_
    simp only [go_sem, Nat.reduceBEq, Nat.reduceLT, Nat.reduceLeDiff, Nat.reduceAdd, Nat.reduceMul, Nat.reduceSub, Nat.reduceMod, Nat.reduceDiv, Nat.reduceEqDiff, Int.reduceToNat, reduceIte, reduceCtorEq, Int.reduceLE, Int.reduceLT, Int.reduceEq, Int.reduceNeg, Int.reduceAdd, Int.reduceSub, Int.reduceMul, hs, hi, hx, hx8, hy, hy8, w64 (n := S.dye y x 1) (by omega), w64 (n := 1000 - S.dye y x 1) (by omega)]
    refine (min_Q _ _ _ _ _).A ?_
    simp only [go_sem, Nat.reduceBEq, Nat.reduceLT, Nat.reduceLeDiff, Nat.reduceAdd, Nat.reduceMul, Nat.reduceSub, Nat.reduceMod, Nat.reduceDiv, Nat.reduceEqDiff, Int.reduceToNat, reduceIte, reduceCtorEq, Int.reduceLE, Int.reduceLT, Int.reduceEq, Int.reduceNeg, Int.reduceAdd, Int.reduceSub, Int.reduceMul]
    refine U_step ?_
    simp only [go_sem, Nat.reduceBEq, Nat.reduceLT, Nat.reduceLeDiff, Nat.reduceAdd, Nat.reduceMul, Nat.reduceSub, Nat.reduceMod, Nat.reduceDiv, Nat.reduceEqDiff, Int.reduceToNat, reduceIte, reduceCtorEq, Int.reduceLE, Int.reduceLT, Int.reduceEq, Int.reduceNeg, Int.reduceAdd, Int.reduceSub, Int.reduceMul]
    refine T_drawT hti 30 _ _ (by kernel_rfl) (by kernel_rfl) ?_
    simp only [go_sem, Nat.reduceBEq, Nat.reduceLT, Nat.reduceLeDiff, Nat.reduceAdd, Nat.reduceMul, Nat.reduceSub, Nat.reduceMod, Nat.reduceDiv, Nat.reduceEqDiff, Int.reduceToNat, reduceIte, reduceCtorEq, Int.reduceLE, Int.reduceLT, Int.reduceEq, Int.reduceNeg, Int.reduceAdd, Int.reduceSub, Int.reduceMul, ht, hj, w64 (n := B.c) (by omega), w64 (n := B.s) (by omega)]
    refine (part2_Q _ _ _ B.c B.s (mul (by omega) (by omega)).1 (mul (by omega) (by omega)).2).A ?_
    simp only [go_sem, Nat.reduceBEq, Nat.reduceLT, Nat.reduceLeDiff, Nat.reduceAdd, Nat.reduceMul, Nat.reduceSub, Nat.reduceMod, Nat.reduceDiv, Nat.reduceEqDiff, Int.reduceToNat, reduceIte, reduceCtorEq, Int.reduceLE, Int.reduceLT, Int.reduceEq, Int.reduceNeg, Int.reduceAdd, Int.reduceSub, Int.reduceMul, hs, hi, hx, hx8, hy, hy8, w64 (n := S.dye y x 2) (by omega), w64 (n := 1000 - S.dye y x 2) (by omega)]
    refine (min_Q _ _ _ _ _).A ?_
    simp only [go_sem, Nat.reduceBEq, Nat.reduceLT, Nat.reduceLeDiff, Nat.reduceAdd, Nat.reduceMul, Nat.reduceSub, Nat.reduceMod, Nat.reduceDiv, Nat.reduceEqDiff, Int.reduceToNat, reduceIte, reduceCtorEq, Int.reduceLE, Int.reduceLT, Int.reduceEq, Int.reduceNeg, Int.reduceAdd, Int.reduceSub, Int.reduceMul]
    refine U_step ?_
    simp only [go_sem, Nat.reduceBEq, Nat.reduceLT, Nat.reduceLeDiff, Nat.reduceAdd, Nat.reduceMul, Nat.reduceSub, Nat.reduceMod, Nat.reduceDiv, Nat.reduceEqDiff, Int.reduceToNat, reduceIte, reduceCtorEq, Int.reduceLE, Int.reduceLT, Int.reduceEq, Int.reduceNeg, Int.reduceAdd, Int.reduceSub, Int.reduceMul]
    refine T_drawT hti 25 _ _ (by kernel_rfl) (by kernel_rfl) ?_
    simp only [go_sem, Nat.reduceBEq, Nat.reduceLT, Nat.reduceLeDiff, Nat.reduceAdd, Nat.reduceMul, Nat.reduceSub, Nat.reduceMod, Nat.reduceDiv, Nat.reduceEqDiff, Int.reduceToNat, reduceIte, reduceCtorEq, Int.reduceLE, Int.reduceLT, Int.reduceEq, Int.reduceNeg, Int.reduceAdd, Int.reduceSub, Int.reduceMul, ht, hj, w64 (n := B.w) (by omega), w64 (n := B.s) (by omega)]
    refine (part2_Q _ _ _ B.w B.s (mul (by omega) (by omega)).1 (mul (by omega) (by omega)).2).A ?_
    simp only [go_sem, Nat.reduceBEq, Nat.reduceLT, Nat.reduceLeDiff, Nat.reduceAdd, Nat.reduceMul, Nat.reduceSub, Nat.reduceMod, Nat.reduceDiv, Nat.reduceEqDiff, Int.reduceToNat, reduceIte, reduceCtorEq, Int.reduceLE, Int.reduceLT, Int.reduceEq, Int.reduceNeg, Int.reduceAdd, Int.reduceSub, Int.reduceMul, hs, hi, hx, hx8, hy, hy8, w64 (n := S.wet y x) (by omega), w64 (n := 200 - S.wet y x) (by omega)]
    refine (min_Q _ _ _ _ _).A ?_
    simp only [go_sem, Nat.reduceBEq, Nat.reduceLT, Nat.reduceLeDiff, Nat.reduceAdd, Nat.reduceMul, Nat.reduceSub, Nat.reduceMod, Nat.reduceDiv, Nat.reduceEqDiff, Int.reduceToNat, reduceIte, reduceCtorEq, Int.reduceLE, Int.reduceLT, Int.reduceEq, Int.reduceNeg, Int.reduceAdd, Int.reduceSub, Int.reduceMul, hwx, lvA, lvB, lvC, lvW, lvOf]
variable (hij : (i == j) = false)
include hs hi hR hG hB hx hx8 hy hy8 ht hj hij in
theorem touch2_E (K : HK) (hK : K (.tup 0 (cl [])) (hset (hset h j (brS (touchB S B y x))) i (shS (touchS S B y x))) n) :
    CallE Try.prog cx 47 [.ptr i 0, .ptr j 0, spot x y] h n K := by
  have l0 := lvA_in hG hB hx hx8 hy hy8
  have l1 := lvB_in hG hB hx hx8 hy hy8
  have l2 := lvC_in hG hB hx hx8 hy hy8
  have l3 := lvW_in hG hB hx hx8 hy hy8
  have g0 := hG.dye y x 0 hy hy8 hx hx8 (by omega) (by omega)
  have g1 := hG.dye y x 1 hy hy8 hx hx8 (by omega) (by omega)
  have g2 := hG.dye y x 2 hy hy8 hx hx8 (by omega) (by omega)
  have g3 := hG.wet y x hy hy8 hx hx8
  obtain ⟨⟨b1, b2, b3⟩, b4, b5, b6⟩ := id hB
  have hji : (j == i) = false := by simp at hij ⊢; omega
  refine CallE.to (.tup 0 (cl [])) _ (fun _ h => by omega) (fun hok => hok_shS (hok_brS hok)) hK ?_
  refine callE_of_T (P := Try.prog) hti (nt := 82) (rs := []) rfl rfl Try.call47 Try.func47 rfl _ (by simp only [go_sem, and_self]) (Nat.le_of_ble_eq_true rfl) _ fun hok => ?_
  simp only [go_sem, Nat.reduceBEq, Nat.reduceLT, Nat.reduceLeDiff, Nat.reduceAdd, Nat.reduceMul, Nat.reduceSub, Nat.reduceMod, Nat.reduceDiv, Nat.reduceEqDiff, Int.reduceToNat, reduceIte, reduceCtorEq, Int.reduceLE, Int.reduceLT, Int.reduceEq, Int.reduceNeg, Int.reduceAdd, Int.reduceSub, Int.reduceMul]
  refine (leave2_Q _ _ _ i j S B x y (by simp only [go_sem, Nat.reduceBEq, Nat.reduceLT, Nat.reduceLeDiff, Nat.reduceAdd, Nat.reduceMul, Nat.reduceSub, Nat.reduceMod, Nat.reduceDiv, Nat.reduceEqDiff, Int.reduceToNat, reduceIte, reduceCtorEq, Int.reduceLE, Int.reduceLT, Int.reduceEq, Int.reduceNeg, Int.reduceAdd, Int.reduceSub, Int.reduceMul, hs, hi]) (by omega) (by simp only [go_sem, Nat.reduceBEq, Nat.reduceLT, Nat.reduceLeDiff, Nat.reduceAdd, Nat.reduceMul, Nat.reduceSub, Nat.reduceMod, Nat.reduceDiv, Nat.reduceEqDiff, Int.reduceToNat, reduceIte, reduceCtorEq, Int.reduceLE, Int.reduceLT, Int.reduceEq, Int.reduceNeg, Int.reduceAdd, Int.reduceSub, Int.reduceMul, ht, hj]) (by omega) hR hG hB hx hx8 hy hy8).A ?_
  simp only [go_sem, Nat.reduceBEq, Nat.reduceLT, Nat.reduceLeDiff, Nat.reduceAdd, Nat.reduceMul, Nat.reduceSub, Nat.reduceMod, Nat.reduceDiv, Nat.reduceEqDiff, Int.reduceToNat, reduceIte, reduceCtorEq, Int.reduceLE, Int.reduceLT, Int.reduceEq, Int.reduceNeg, Int.reduceAdd, Int.reduceSub, Int.reduceMul]
  refine T_unroll 3 ?_
  simp only [go_sem, Nat.reduceBEq, Nat.reduceLT, Nat.reduceLeDiff, Nat.reduceAdd, Nat.reduceMul, Nat.reduceSub, Nat.reduceMod, Nat.reduceDiv, Nat.reduceEqDiff, Int.reduceToNat, reduceIte, reduceCtorEq, Int.reduceLE, Int.reduceLT, Int.reduceEq, Int.reduceNeg, Int.reduceAdd, Int.reduceSub, Int.reduceMul]
  refine T_drawT hti 14 _ _ (by kernel_rfl) (by kernel_rfl) ?_
  simp only [go_sem, Nat.reduceBEq, Nat.reduceLT, Nat.reduceLeDiff, Nat.reduceAdd, Nat.reduceMul, Nat.reduceSub, Nat.reduceMod, Nat.reduceDiv, Nat.reduceEqDiff, Int.reduceToNat, reduceIte, reduceCtorEq, Int.reduceLE, Int.reduceLT, Int.reduceEq, Int.reduceNeg, Int.reduceAdd, Int.reduceSub, Int.reduceMul, ht, hj, hij, hji, w16 (n := lvA S B y x) (by omega), w16 (n := B.a - lvA S B y x) (by omega)]
  refine T_drawT hti 22 _ _ (by kernel_rfl) (by kernel_rfl) ?_
  simp only [go_sem, Nat.reduceBEq, Nat.reduceLT, Nat.reduceLeDiff, Nat.reduceAdd, Nat.reduceMul, Nat.reduceSub, Nat.reduceMod, Nat.reduceDiv, Nat.reduceEqDiff, Int.reduceToNat, reduceIte, reduceCtorEq, Int.reduceLE, Int.reduceLT, Int.reduceEq, Int.reduceNeg, Int.reduceAdd, Int.reduceSub, Int.reduceMul, hs, hi, hij, hji, hx, hx8, hy, hy8, w16 (n := lvA S B y x) (by omega), w16 (n := S.dye y x 0 + lvA S B y x) (by omega)]
  refine U_step ?_
  simp only [go_sem, Nat.reduceBEq, Nat.reduceLT, Nat.reduceLeDiff, Nat.reduceAdd, Nat.reduceMul, Nat.reduceSub, Nat.reduceMod, Nat.reduceDiv, Nat.reduceEqDiff, Int.reduceToNat, reduceIte, reduceCtorEq, Int.reduceLE, Int.reduceLT, Int.reduceEq, Int.reduceNeg, Int.reduceAdd, Int.reduceSub, Int.reduceMul]
  refine T_drawT hti 14 _ _ (by kernel_rfl) (by kernel_rfl) ?_
  simp only [go_sem, Nat.reduceBEq, Nat.reduceLT, Nat.reduceLeDiff, Nat.reduceAdd, Nat.reduceMul, Nat.reduceSub, Nat.reduceMod, Nat.reduceDiv, Nat.reduceEqDiff, Int.reduceToNat, reduceIte, reduceCtorEq, Int.reduceLE, Int.reduceLT, Int.reduceEq, Int.reduceNeg, Int.reduceAdd, Int.reduceSub, Int.reduceMul, ht, hj, hij, hji, w16 (n := lvB S B y x) (by omega), w16 (n := B.b - lvB S B y x) (by omega)]
  refine T_drawT hti 22 _ _ (by kernel_rfl) (by kernel_rfl) ?_
  simp only [go_sem, Nat.reduceBEq, Nat.reduceLT, Nat.reduceLeDiff, Nat.reduceAdd, Nat.reduceMul, Nat.reduceSub, Nat.reduceMod, Nat.reduceDiv, Nat.reduceEqDiff, Int.reduceToNat, reduceIte, reduceCtorEq, Int.reduceLE, Int.reduceLT, Int.reduceEq, Int.reduceNeg, Int.reduceAdd, Int.reduceSub, Int.reduceMul, hs, hi, hij, hji, hx, hx8, hy, hy8, w16 (n := lvB S B y x) (by omega), w16 (n := S.dye y x 1 + lvB S B y x) (by omega)]
  refine U_step ?_
  simp only [go_sem, Nat.reduceBEq, Nat.reduceLT, Nat.reduceLeDiff, Nat.reduceAdd, Nat.reduceMul, Nat.reduceSub, Nat.reduceMod, Nat.reduceDiv, Nat.reduceEqDiff, Int.reduceToNat, reduceIte, reduceCtorEq, Int.reduceLE, Int.reduceLT, Int.reduceEq, Int.reduceNeg, Int.reduceAdd, Int.reduceSub, Int.reduceMul]
  refine T_drawT hti 14 _ _ (by kernel_rfl) (by kernel_rfl) ?_
  simp only [go_sem, Nat.reduceBEq, Nat.reduceLT, Nat.reduceLeDiff, Nat.reduceAdd, Nat.reduceMul, Nat.reduceSub, Nat.reduceMod, Nat.reduceDiv, Nat.reduceEqDiff, Int.reduceToNat, reduceIte, reduceCtorEq, Int.reduceLE, Int.reduceLT, Int.reduceEq, Int.reduceNeg, Int.reduceAdd, Int.reduceSub, Int.reduceMul, ht, hj, hij, hji, w16 (n := lvC S B y x) (by omega), w16 (n := B.c - lvC S B y x) (by omega)]
  refine T_drawT hti 22 _ _ (by kernel_rfl) (by kernel_rfl) ?_
  simp only [go_sem, Nat.reduceBEq, Nat.reduceLT, Nat.reduceLeDiff, Nat.reduceAdd, Nat.reduceMul, Nat.reduceSub, Nat.reduceMod, Nat.reduceDiv, Nat.reduceEqDiff, Int.reduceToNat, reduceIte, reduceCtorEq, Int.reduceLE, Int.reduceLT, Int.reduceEq, Int.reduceNeg, Int.reduceAdd, Int.reduceSub, Int.reduceMul, hs, hi, hij, hji, hx, hx8, hy, hy8, w16 (n := lvC S B y x) (by omega), w16 (n := S.dye y x 2 + lvC S B y x) (by omega)]
  refine U_step ?_
  simp only [go_sem, Nat.reduceBEq, Nat.reduceLT, Nat.reduceLeDiff, Nat.reduceAdd, Nat.reduceMul, Nat.reduceSub, Nat.reduceMod, Nat.reduceDiv, Nat.reduceEqDiff, Int.reduceToNat, reduceIte, reduceCtorEq, Int.reduceLE, Int.reduceLT, Int.reduceEq, Int.reduceNeg, Int.reduceAdd, Int.reduceSub, Int.reduceMul, ht, hj, hs, hi, hij, hji, w16 (n := lvW S B y x) (by omega), w16 (n := B.w - lvW S B y x) (by omega)]
  refine T_drawT hti 17 _ _ (by kernel_rfl) (by kernel_rfl) ?_
  simp only [go_sem, Nat.reduceBEq, Nat.reduceLT, Nat.reduceLeDiff, Nat.reduceAdd, Nat.reduceMul, Nat.reduceSub, Nat.reduceMod, Nat.reduceDiv, Nat.reduceEqDiff, Int.reduceToNat, reduceIte, reduceCtorEq, Int.reduceLE, Int.reduceLT, Int.reduceEq, Int.reduceNeg, Int.reduceAdd, Int.reduceSub, Int.reduceMul, hs, hi, hij, hji, hx, hx8, hy, hy8, w16 (n := lvW S B y x) (by omega), w16 (n := S.wet y x + lvW S B y x) (by omega)]
  exact HExt.rfl
end
end Go.Proofs.Ytebpkdolmlloaaa.V

/- Steps and paths: both codes. -/
namespace Go.Proofs.Ytebpkdolmlloaaa.V

open Classical in
noncomputable def boolOf (p : Prop) : Bool := decide p
theorem boolOf_t {p : Prop} (h : p) : boolOf p = true := by simp [boolOf, h]
theorem boolOf_f {p : Prop} (h : ¬ p) : boolOf p = false := by simp [boolOf, h]
theorem boolOf_eq {p q : Prop} (h : p ↔ q) : boolOf p = boolOf q := by rw [propext h]

/-- b stands beside a. -/
def StepP (a b : Int × Int) : Prop := ∃ k, k < 4 ∧ (besideL a.1 a.2).getD k (0, 0) = b
def StepsP (L : List (Int × Int)) : Prop := ∀ k, k + 1 < L.length → StepP (L.getD k (0, 0)) (L.getD (k + 1) (0, 0))
def LenP (L : List (Int × Int)) : Prop := 1 ≤ L.length ∧ L.length ≤ 80
def InP (S : Sh) (L : List (Int × Int)) : Prop := ∀ k, k < L.length → hasB S (L.getD k (0, 0)).1 (L.getD k (0, 0)).2 = true
/-- A path of a sheet. -/
def PathP (S : Sh) (L : List (Int × Int)) : Prop := StepsP L ∧ LenP L ∧ InP S L
def SpotR (a : Int × Int) : Prop := (-128 ≤ a.1 ∧ a.1 < 128) ∧ -128 ≤ a.2 ∧ a.2 < 128
def SpotsR (L : List (Int × Int)) : Prop := ∀ k, k < L.length → SpotR (L.getD k (0, 0))
/-- Cells that hold spots. -/
def SpsAt (s : Seg) (L : List (Int × Int)) : Prop := L.length * 2 ≤ s.n ∧ ∀ k, k < L.length * 2 → s.c k = spotsC L k
theorem SpsAt.x {s : Seg} {L : List (Int × Int)} (h : SpsAt s L) {j : Nat} (hj : j < L.length) : s.c (j * 2) = .int .i8 (L.getD j (0, 0)).1 := by rw [h.2 _ (by omega), spotsC_x]
theorem SpsAt.y {s : Seg} {L : List (Int × Int)} (h : SpsAt s L) {j : Nat} (hj : j < L.length) : s.c (j * 2 + 1) = .int .i8 (L.getD j (0, 0)).2 := by rw [h.2 _ (by omega), spotsC_y]

section
variable (cx : Cx) (h : List (Nat × Seg)) (n : Nat)
theorem index_Q (i cap : Nat) (L : List (Int × Int)) (s : Seg) (x y : Int) (hs : hget h i = some s) (hi : i < n) (hm9 : L.length ≤ 1000000000) (hL : SpsAt s L) :
    CallQ Try.prog cx 124 [.sl i 0 L.length cap, spot x y] h n (.int .i64 (fst4 (fun a b => decide (x = a) && decide (y = b)) L)) := by
  have hn := hL.1
  refine callQ_of_T (P := Try.prog) hti (nt := 19) (rs := [.tmp 4]) rfl rfl Try.call124 Try.func124 rfl _ (by simp only [go_sem, and_self]) (Nat.le_of_ble_eq_true rfl) _ (by first | exact trivial | (refine lt_flat rfl ?_; simp [SV.flat]; done) | simp only [go_sem]) fun hok => ?_
  simp only [go_sem, Nat.reduceBEq, Nat.reduceLT, Nat.reduceLeDiff, Nat.reduceAdd, Nat.reduceMul, Nat.reduceSub, Nat.reduceMod, Nat.reduceDiv, Nat.reduceEqDiff, Int.reduceToNat, reduceIte, reduceCtorEq, Int.reduceLE, Int.reduceLT, Int.reduceEq, Int.reduceNeg, Int.reduceAdd, Int.reduceSub, Int.reduceMul]
  refine T_lp (ι := { j : Nat // j ≤ L.length ∧ ∀ k, k < j → (decide (x = (L.getD k (0, 0)).1) && decide (y = (L.getD k (0, 0)).2)) = false })
    (fun j => ([(0, .sl i 0 L.length cap), (3, .ptr n 0), (7, .int .i64 L.length), (8, .int .i64 j.1)], (n, ⟨2, cl [.int .i8 x, .int .i8 y], true, none⟩) :: h, n + 1)) (fun j => L.length - j.1) ⟨0, by simp⟩ ?_ ?_
  · refine Imp.id (by simp) ?_ ?_
    · simp only [go_sem, Nat.reduceBEq, Nat.reduceLT, Nat.reduceLeDiff, Nat.reduceAdd, Nat.reduceMul, Nat.reduceSub, Nat.reduceMod, Nat.reduceDiv, Nat.reduceEqDiff, Int.reduceToNat, reduceIte, reduceCtorEq, Int.reduceLE, Int.reduceLT, Int.reduceEq, Int.reduceNeg, Int.reduceAdd, Int.reduceSub, Int.reduceMul]
      omega
    · exact impH.cons0 (hget_hit _ _ _) (by simp) (SegLe.flat (Nat.le_refl _) id (.inr rfl) fun z hz => ⟨rfl, pair_flat _ _ hz⟩) (impH.base0 hok (by simp) (HExt.rfl.cons (Nat.le_refl n)))
  · rintro ⟨j, hj, hall⟩
    simp only [go_sem, Nat.reduceBEq, Nat.reduceLT, Nat.reduceLeDiff, Nat.reduceAdd, Nat.reduceMul, Nat.reduceSub, Nat.reduceMod, Nat.reduceDiv, Nat.reduceEqDiff, Int.reduceToNat, reduceIte, reduceCtorEq, Int.reduceLE, Int.reduceLT, Int.reduceEq, Int.reduceNeg, Int.reduceAdd, Int.reduceSub, Int.reduceMul, decide_eq_true_eq, decide_eq_false_iff_not]
    refine ⟨fun h1 => ?_, fun h1 => ?_⟩
    · have hjr : (0 : Int) ≤ j ∧ (j : Int) < L.length := ⟨by omega, h1⟩
      have hjl : j < L.length := by omega
      refine T_draw hti _ _ (by kernel_rfl) (by kernel_rfl) ?_
      have hle : j * 2 ≤ s.n - 2 := by omega
      simp only [go_sem, Nat.reduceBEq, Nat.reduceLT, Nat.reduceLeDiff, Nat.reduceAdd, Nat.reduceMul, Nat.reduceSub, Nat.reduceMod, Nat.reduceDiv, Nat.reduceEqDiff, Int.reduceToNat, reduceIte, reduceCtorEq, Int.reduceLE, Int.reduceLT, Int.reduceEq, Int.reduceNeg, Int.reduceAdd, Int.reduceSub, Int.reduceMul, hs, hi, hjr, hL.x hjl, hL.y hjl]
      refine ⟨by omega, fun h2 => ?_, fun h2 => ⟨⟨j + 1, by omega, fun k hk => ?_⟩, by show L.length - (j + 1) < L.length - j; omega, ?_⟩⟩
      · rcases (by omega : fst4 (fun a b => decide (x = a) && decide (y = b)) L = -1 ∨ fst4 (fun a b => decide (x = a) && decide (y = b)) L ≠ -1) with hr | hr
        · have := fst4_none hr j hjl
          rw [this] at h2; cases h2
        · obtain ⟨r0, r1, r2, r3⟩ := fst4_some hr
          rcases (by omega : (j : Int) < fst4 (fun a b => decide (x = a) && decide (y = b)) L ∨ fst4 (fun a b => decide (x = a) && decide (y = b)) L < j ∨ fst4 (fun a b => decide (x = a) && decide (y = b)) L = j) with h | h | h
          · rw [r3 j h] at h2; cases h2
          · have := hall (fst4 (fun a b => decide (x = a) && decide (y = b)) L).toNat (by omega)
            rw [r2] at this; cases this
          · rw [h]
      · rcases (by omega : k < j ∨ k = j) with h | rfl
        · exact hall k h
        · exact h2
      · refine Imp.id (by simp) ?_ (impH.cons0 (hget_hit _ _ _) (by simp) (SegLe.flat (Nat.le_refl _) id (.inr rfl) fun z hz => ⟨rfl, pair_flat _ _ hz⟩) (impH.base0 hok (by simp) (HExt.rfl.cons (Nat.le_refl n))))
        simp only [go_sem, Nat.reduceBEq, Nat.reduceLT, Nat.reduceLeDiff, Nat.reduceAdd, Nat.reduceMul, Nat.reduceSub, Nat.reduceMod, Nat.reduceDiv, Nat.reduceEqDiff, Int.reduceToNat, reduceIte, reduceCtorEq, Int.reduceLE, Int.reduceLT, Int.reduceEq, Int.reduceNeg, Int.reduceAdd, Int.reduceSub, Int.reduceMul, w64 (n := (j : Int) + 1) (by omega), Int.natCast_add, Int.natCast_one]
        omega
    · rcases (by omega : fst4 (fun a b => decide (x = a) && decide (y = b)) L = -1 ∨ fst4 (fun a b => decide (x = a) && decide (y = b)) L ≠ -1) with hr | hr
      · rw [hr]
      · obtain ⟨r0, r1, r2, r3⟩ := fst4_some hr
        have := hall (fst4 (fun a b => decide (x = a) && decide (y = b)) L).toNat (by omega)
        rw [r2] at this; cases this
theorem contains_Q (i cap : Nat) (L : List (Int × Int)) (s : Seg) (x y : Int) (hs : hget h i = some s) (hi : i < n) (hm9 : L.length ≤ 1000000000) (hL : SpsAt s L) :
    CallQ Try.prog cx 120 [.sl i 0 L.length cap, spot x y] h n (.bool (boolOf (∃ k, k < L.length ∧ L.getD k (0, 0) = (x, y)))) := by
  refine callQ_of_T (P := Try.prog) hti (nt := 9) (rs := [.tmp 4]) rfl rfl Try.call120 Try.func120 rfl _ (by simp only [go_sem, and_self]) (Nat.le_of_ble_eq_true rfl) _ (by first | exact trivial | (refine lt_flat rfl ?_; simp [SV.flat]; done) | simp only [go_sem]) fun hok => ?_
  simp only [go_sem, Nat.reduceBEq, Nat.reduceLT, Nat.reduceLeDiff, Nat.reduceAdd, Nat.reduceMul, Nat.reduceSub, Nat.reduceMod, Nat.reduceDiv, Nat.reduceEqDiff, Int.reduceToNat, reduceIte, reduceCtorEq, Int.reduceLE, Int.reduceLT, Int.reduceEq, Int.reduceNeg, Int.reduceAdd, Int.reduceSub, Int.reduceMul]
  refine (index_Q _ _ _ i cap L s x y (by simp only [go_sem, Nat.reduceBEq, Nat.reduceLT, Nat.reduceLeDiff, Nat.reduceAdd, Nat.reduceMul, Nat.reduceSub, Nat.reduceMod, Nat.reduceDiv, Nat.reduceEqDiff, Int.reduceToNat, reduceIte, reduceCtorEq, Int.reduceLE, Int.reduceLT, Int.reduceEq, Int.reduceNeg, Int.reduceAdd, Int.reduceSub, Int.reduceMul, hs, hi]) (by omega) hm9 hL).A ?_
  by_cases hr : fst4 (fun a b => decide (x = a) && decide (y = b)) L = -1
  · have : ¬ ∃ k, k < L.length ∧ L.getD k (0, 0) = (x, y) := fun ⟨k, hk, e⟩ => by
      have := fst4_none hr k hk
      rw [e] at this; simp at this
    simp only [go_sem, Nat.reduceBEq, Nat.reduceLT, Nat.reduceLeDiff, Nat.reduceAdd, Nat.reduceMul, Nat.reduceSub, Nat.reduceMod, Nat.reduceDiv, Nat.reduceEqDiff, Int.reduceToNat, reduceIte, reduceCtorEq, Int.reduceLE, Int.reduceLT, Int.reduceEq, Int.reduceNeg, Int.reduceAdd, Int.reduceSub, Int.reduceMul, hr, boolOf_f this]
  · obtain ⟨r0, r1, r2, r3⟩ := fst4_some hr
    have : ∃ k, k < L.length ∧ L.getD k (0, 0) = (x, y) := ⟨(fst4 (fun a b => decide (x = a) && decide (y = b)) L).toNat, by omega, by
      simp only [Bool.and_eq_true, decide_eq_true_eq] at r2
      exact Prod.ext r2.1.symm r2.2.symm⟩
    simp only [go_sem, Nat.reduceBEq, Nat.reduceLT, Nat.reduceLeDiff, Nat.reduceAdd, Nat.reduceMul, Nat.reduceSub, Nat.reduceMod, Nat.reduceDiv, Nat.reduceEqDiff, Int.reduceToNat, reduceIte, reduceCtorEq, Int.reduceLE, Int.reduceLT, Int.reduceEq, Int.reduceNeg, Int.reduceAdd, Int.reduceSub, Int.reduceMul, r0, boolOf_t this]
theorem isStep_Q (ax ay bx by_ : Int) : CallQ Try.prog cx 111 [spot ax ay, spot bx by_] h n (.bool (boolOf (StepP (ax, ay) (bx, by_)))) := by
  refine callQ_of_T (P := Try.prog) hti (nt := 9) (rs := [.tmp 4]) rfl rfl Try.call111 Try.func111 rfl _ (by simp only [go_sem, and_self]) (Nat.le_of_ble_eq_true rfl) _ (by first | exact trivial | (refine lt_flat rfl ?_; simp [SV.flat]; done) | simp only [go_sem]) fun hok => ?_
  simp only [go_sem, Nat.reduceBEq, Nat.reduceLT, Nat.reduceLeDiff, Nat.reduceAdd, Nat.reduceMul, Nat.reduceSub, Nat.reduceMod, Nat.reduceDiv, Nat.reduceEqDiff, Int.reduceToNat, reduceIte, reduceCtorEq, Int.reduceLE, Int.reduceLT, Int.reduceEq, Int.reduceNeg, Int.reduceAdd, Int.reduceSub, Int.reduceMul]
  refine T_drawG hti 5 [] (.b 0 0 (.b 0 2 (.b 2 1 (.b 2 3 (.b 0 4 (.f) .o) .o) .o) .o) .o) _ _ (by kernel_rfl) (by kernel_rfl) ?_
  simp only [go_sem, Nat.reduceBEq, Nat.reduceLT, Nat.reduceLeDiff, Nat.reduceAdd, Nat.reduceMul, Nat.reduceSub, Nat.reduceMod, Nat.reduceDiv, Nat.reduceEqDiff, Int.reduceToNat, reduceIte, reduceCtorEq, Int.reduceLE, Int.reduceLT, Int.reduceEq, Int.reduceNeg, Int.reduceAdd, Int.reduceSub, Int.reduceMul]
  refine callA_false (beside_E _ _ _ ax ay _ ?_)
  simp only [go_sem, Nat.reduceBEq, Nat.reduceLT, Nat.reduceLeDiff, Nat.reduceAdd, Nat.reduceMul, Nat.reduceSub, Nat.reduceMod, Nat.reduceDiv, Nat.reduceEqDiff, Int.reduceToNat, reduceIte, reduceCtorEq, Int.reduceLE, Int.reduceLT, Int.reduceEq, Int.reduceNeg, Int.reduceAdd, Int.reduceSub, Int.reduceMul, HExt_cons]
  refine (contains_Q _ _ _ (n + 2) 4 (besideL ax ay) ⟨8, spotsC (besideL ax ay), true, some (86, 8)⟩ bx by_ (by simp only [go_sem, Nat.reduceBEq, Nat.reduceLT, Nat.reduceLeDiff, Nat.reduceAdd, Nat.reduceMul, Nat.reduceSub, Nat.reduceMod, Nat.reduceDiv, Nat.reduceEqDiff, Int.reduceToNat, reduceIte, reduceCtorEq, Int.reduceLE, Int.reduceLT, Int.reduceEq, Int.reduceNeg, Int.reduceAdd, Int.reduceSub, Int.reduceMul]) (by omega) (by simp [besideL]) ⟨by simp [besideL], fun k hk => rfl⟩).A ?_
  simp only [go_sem, Nat.reduceBEq, Nat.reduceLT, Nat.reduceLeDiff, Nat.reduceAdd, Nat.reduceMul, Nat.reduceSub, Nat.reduceMod, Nat.reduceDiv, Nat.reduceEqDiff, Int.reduceToNat, reduceIte, reduceCtorEq, Int.reduceLE, Int.reduceLT, Int.reduceEq, Int.reduceNeg, Int.reduceAdd, Int.reduceSub, Int.reduceMul]
  rfl
theorem step2_Q (ax ay bx by_ : Int) : CallQ Try.prog cx 109 [spot ax ay, spot bx by_] h n (.bool (boolOf (StepP (ax, ay) (bx, by_)))) := by
  refine callQ_of_T (P := Try.prog) hti (nt := 15) (rs := [.tmp 4]) rfl rfl Try.call109 Try.func109 rfl _ (by simp only [go_sem, and_self]) (Nat.le_of_ble_eq_true rfl) _ (by first | exact trivial | (refine lt_flat rfl ?_; simp [SV.flat]; done) | simp only [go_sem]) fun hok => ?_
  simp only [go_sem, Nat.reduceBEq, Nat.reduceLT, Nat.reduceLeDiff, Nat.reduceAdd, Nat.reduceMul, Nat.reduceSub, Nat.reduceMod, Nat.reduceDiv, Nat.reduceEqDiff, Int.reduceToNat, reduceIte, reduceCtorEq, Int.reduceLE, Int.reduceLT, Int.reduceEq, Int.reduceNeg, Int.reduceAdd, Int.reduceSub, Int.reduceMul]
  refine T_unroll 4 ?_
  simp only [go_sem, Nat.reduceBEq, Nat.reduceLT, Nat.reduceLeDiff, Nat.reduceAdd, Nat.reduceMul, Nat.reduceSub, Nat.reduceMod, Nat.reduceDiv, Nat.reduceEqDiff, Int.reduceToNat, reduceIte, reduceCtorEq, Int.reduceLE, Int.reduceLT, Int.reduceEq, Int.reduceNeg, Int.reduceAdd, Int.reduceSub, Int.reduceMul]
  refine T_draw hti _ _ (by kernel_rfl) (by kernel_rfl) ?_
  simp only [go_sem, Nat.reduceBEq, Nat.reduceLT, Nat.reduceLeDiff, Nat.reduceAdd, Nat.reduceMul, Nat.reduceSub, Nat.reduceMod, Nat.reduceDiv, Nat.reduceEqDiff, Int.reduceToNat, reduceIte, reduceCtorEq, Int.reduceLE, Int.reduceLT, Int.reduceEq, Int.reduceNeg, Int.reduceAdd, Int.reduceSub, Int.reduceMul]
  refine (next_Q _ _ _ ax ay 0 (by omega)).A ?_
  by_cases e0 : ((besideL ax ay).getD 0 (0, 0)).1 = bx ∧ ((besideL ax ay).getD 0 (0, 0)).2 = by_
  · have hp : StepP (ax, ay) (bx, by_) := ⟨0, by omega, Prod.ext e0.1 e0.2⟩
    simp only [go_sem, Nat.reduceBEq, Nat.reduceLT, Nat.reduceLeDiff, Nat.reduceAdd, Nat.reduceMul, Nat.reduceSub, Nat.reduceMod, Nat.reduceDiv, Nat.reduceEqDiff, Int.reduceToNat, reduceIte, reduceCtorEq, Int.reduceLE, Int.reduceLT, Int.reduceEq, Int.reduceNeg, Int.reduceAdd, Int.reduceSub, Int.reduceMul, e0.1, e0.2, boolOf_t hp]
  have f0 : (decide (((besideL ax ay).getD 0 (0, 0)).1 = bx) && decide (((besideL ax ay).getD 0 (0, 0)).2 = by_)) = false := by simpa using e0
  simp only [go_sem, Nat.reduceBEq, Nat.reduceLT, Nat.reduceLeDiff, Nat.reduceAdd, Nat.reduceMul, Nat.reduceSub, Nat.reduceMod, Nat.reduceDiv, Nat.reduceEqDiff, Int.reduceToNat, reduceIte, reduceCtorEq, Int.reduceLE, Int.reduceLT, Int.reduceEq, Int.reduceNeg, Int.reduceAdd, Int.reduceSub, Int.reduceMul, f0]
  refine U_step ?_
  simp only [go_sem, Nat.reduceBEq, Nat.reduceLT, Nat.reduceLeDiff, Nat.reduceAdd, Nat.reduceMul, Nat.reduceSub, Nat.reduceMod, Nat.reduceDiv, Nat.reduceEqDiff, Int.reduceToNat, reduceIte, reduceCtorEq, Int.reduceLE, Int.reduceLT, Int.reduceEq, Int.reduceNeg, Int.reduceAdd, Int.reduceSub, Int.reduceMul]
  refine T_draw hti _ _ (by kernel_rfl) (by kernel_rfl) ?_
  simp only [go_sem, Nat.reduceBEq, Nat.reduceLT, Nat.reduceLeDiff, Nat.reduceAdd, Nat.reduceMul, Nat.reduceSub, Nat.reduceMod, Nat.reduceDiv, Nat.reduceEqDiff, Int.reduceToNat, reduceIte, reduceCtorEq, Int.reduceLE, Int.reduceLT, Int.reduceEq, Int.reduceNeg, Int.reduceAdd, Int.reduceSub, Int.reduceMul]
  refine (next_Q _ _ _ ax ay 1 (by omega)).A ?_
  by_cases e1 : ((besideL ax ay).getD 1 (0, 0)).1 = bx ∧ ((besideL ax ay).getD 1 (0, 0)).2 = by_
  · have hp : StepP (ax, ay) (bx, by_) := ⟨1, by omega, Prod.ext e1.1 e1.2⟩
    simp only [go_sem, Nat.reduceBEq, Nat.reduceLT, Nat.reduceLeDiff, Nat.reduceAdd, Nat.reduceMul, Nat.reduceSub, Nat.reduceMod, Nat.reduceDiv, Nat.reduceEqDiff, Int.reduceToNat, reduceIte, reduceCtorEq, Int.reduceLE, Int.reduceLT, Int.reduceEq, Int.reduceNeg, Int.reduceAdd, Int.reduceSub, Int.reduceMul, e1.1, e1.2, boolOf_t hp]
  have f1 : (decide (((besideL ax ay).getD 1 (0, 0)).1 = bx) && decide (((besideL ax ay).getD 1 (0, 0)).2 = by_)) = false := by simpa using e1
  simp only [go_sem, Nat.reduceBEq, Nat.reduceLT, Nat.reduceLeDiff, Nat.reduceAdd, Nat.reduceMul, Nat.reduceSub, Nat.reduceMod, Nat.reduceDiv, Nat.reduceEqDiff, Int.reduceToNat, reduceIte, reduceCtorEq, Int.reduceLE, Int.reduceLT, Int.reduceEq, Int.reduceNeg, Int.reduceAdd, Int.reduceSub, Int.reduceMul, f1]
  refine U_step ?_
  simp only [go_sem, Nat.reduceBEq, Nat.reduceLT, Nat.reduceLeDiff, Nat.reduceAdd, Nat.reduceMul, Nat.reduceSub, Nat.reduceMod, Nat.reduceDiv, Nat.reduceEqDiff, Int.reduceToNat, reduceIte, reduceCtorEq, Int.reduceLE, Int.reduceLT, Int.reduceEq, Int.reduceNeg, Int.reduceAdd, Int.reduceSub, Int.reduceMul]
  refine T_draw hti _ _ (by kernel_rfl) (by kernel_rfl) ?_
  simp only [go_sem, Nat.reduceBEq, Nat.reduceLT, Nat.reduceLeDiff, Nat.reduceAdd, Nat.reduceMul, Nat.reduceSub, Nat.reduceMod, Nat.reduceDiv, Nat.reduceEqDiff, Int.reduceToNat, reduceIte, reduceCtorEq, Int.reduceLE, Int.reduceLT, Int.reduceEq, Int.reduceNeg, Int.reduceAdd, Int.reduceSub, Int.reduceMul]
  refine (next_Q _ _ _ ax ay 2 (by omega)).A ?_
  by_cases e2 : ((besideL ax ay).getD 2 (0, 0)).1 = bx ∧ ((besideL ax ay).getD 2 (0, 0)).2 = by_
  · have hp : StepP (ax, ay) (bx, by_) := ⟨2, by omega, Prod.ext e2.1 e2.2⟩
    simp only [go_sem, Nat.reduceBEq, Nat.reduceLT, Nat.reduceLeDiff, Nat.reduceAdd, Nat.reduceMul, Nat.reduceSub, Nat.reduceMod, Nat.reduceDiv, Nat.reduceEqDiff, Int.reduceToNat, reduceIte, reduceCtorEq, Int.reduceLE, Int.reduceLT, Int.reduceEq, Int.reduceNeg, Int.reduceAdd, Int.reduceSub, Int.reduceMul, e2.1, e2.2, boolOf_t hp]
  have f2 : (decide (((besideL ax ay).getD 2 (0, 0)).1 = bx) && decide (((besideL ax ay).getD 2 (0, 0)).2 = by_)) = false := by simpa using e2
  simp only [go_sem, Nat.reduceBEq, Nat.reduceLT, Nat.reduceLeDiff, Nat.reduceAdd, Nat.reduceMul, Nat.reduceSub, Nat.reduceMod, Nat.reduceDiv, Nat.reduceEqDiff, Int.reduceToNat, reduceIte, reduceCtorEq, Int.reduceLE, Int.reduceLT, Int.reduceEq, Int.reduceNeg, Int.reduceAdd, Int.reduceSub, Int.reduceMul, f2]
  refine U_step ?_
  simp only [go_sem, Nat.reduceBEq, Nat.reduceLT, Nat.reduceLeDiff, Nat.reduceAdd, Nat.reduceMul, Nat.reduceSub, Nat.reduceMod, Nat.reduceDiv, Nat.reduceEqDiff, Int.reduceToNat, reduceIte, reduceCtorEq, Int.reduceLE, Int.reduceLT, Int.reduceEq, Int.reduceNeg, Int.reduceAdd, Int.reduceSub, Int.reduceMul]
  refine T_draw hti _ _ (by kernel_rfl) (by kernel_rfl) ?_
  simp only [go_sem, Nat.reduceBEq, Nat.reduceLT, Nat.reduceLeDiff, Nat.reduceAdd, Nat.reduceMul, Nat.reduceSub, Nat.reduceMod, Nat.reduceDiv, Nat.reduceEqDiff, Int.reduceToNat, reduceIte, reduceCtorEq, Int.reduceLE, Int.reduceLT, Int.reduceEq, Int.reduceNeg, Int.reduceAdd, Int.reduceSub, Int.reduceMul]
  refine (next_Q _ _ _ ax ay 3 (by omega)).A ?_
  by_cases e3 : ((besideL ax ay).getD 3 (0, 0)).1 = bx ∧ ((besideL ax ay).getD 3 (0, 0)).2 = by_
  · have hp : StepP (ax, ay) (bx, by_) := ⟨3, by omega, Prod.ext e3.1 e3.2⟩
    simp only [go_sem, Nat.reduceBEq, Nat.reduceLT, Nat.reduceLeDiff, Nat.reduceAdd, Nat.reduceMul, Nat.reduceSub, Nat.reduceMod, Nat.reduceDiv, Nat.reduceEqDiff, Int.reduceToNat, reduceIte, reduceCtorEq, Int.reduceLE, Int.reduceLT, Int.reduceEq, Int.reduceNeg, Int.reduceAdd, Int.reduceSub, Int.reduceMul, e3.1, e3.2, boolOf_t hp]
  have f3 : (decide (((besideL ax ay).getD 3 (0, 0)).1 = bx) && decide (((besideL ax ay).getD 3 (0, 0)).2 = by_)) = false := by simpa using e3
  simp only [go_sem, Nat.reduceBEq, Nat.reduceLT, Nat.reduceLeDiff, Nat.reduceAdd, Nat.reduceMul, Nat.reduceSub, Nat.reduceMod, Nat.reduceDiv, Nat.reduceEqDiff, Int.reduceToNat, reduceIte, reduceCtorEq, Int.reduceLE, Int.reduceLT, Int.reduceEq, Int.reduceNeg, Int.reduceAdd, Int.reduceSub, Int.reduceMul, f3]
  refine U_step ?_
  have hp : ¬ StepP (ax, ay) (bx, by_) := fun ⟨k, hk, e⟩ => by
    rcases (by omega : k = 0 ∨ k = 1 ∨ k = 2 ∨ k = 3) with rfl | rfl | rfl | rfl
    · exact e0 ⟨by rw [e], by rw [e]⟩
    · exact e1 ⟨by rw [e], by rw [e]⟩
    · exact e2 ⟨by rw [e], by rw [e]⟩
    · exact e3 ⟨by rw [e], by rw [e]⟩
  simp only [go_sem, Nat.reduceBEq, Nat.reduceLT, Nat.reduceLeDiff, Nat.reduceAdd, Nat.reduceMul, Nat.reduceSub, Nat.reduceMod, Nat.reduceDiv, Nat.reduceEqDiff, Int.reduceToNat, reduceIte, reduceCtorEq, Int.reduceLE, Int.reduceLT, Int.reduceEq, Int.reduceNeg, Int.reduceAdd, Int.reduceSub, Int.reduceMul, boolOf_f hp]
end
end Go.Proofs.Ytebpkdolmlloaaa.V

/- Paths of a sheet, and what a sheet, a brush and a path are asked: both codes. -/
namespace Go.Proofs.Ytebpkdolmlloaaa.V
section
variable (cx : Cx) (h : List (Nat × Seg)) (n : Nat)
theorem size_Q (i o m cap : Nat) (hm9 : m ≤ 1000000000) : CallQ Try.prog cx 112 [.sl i o m cap] h n (.int .i64 m) := by
  refine callQ_of_T (P := Try.prog) hti (nt := 5) (rs := [.tmp 2]) rfl rfl Try.call112 Try.func112 rfl _ (by simp only [go_sem, and_self]) (Nat.le_of_ble_eq_true rfl) _ (by first | exact trivial | (refine lt_flat rfl ?_; simp [SV.flat]; done) | simp only [go_sem]) fun hok => ?_
  simp only [go_sem, Nat.reduceBEq, Nat.reduceLT, Nat.reduceLeDiff, Nat.reduceAdd, Nat.reduceMul, Nat.reduceSub, Nat.reduceMod, Nat.reduceDiv, Nat.reduceEqDiff, Int.reduceToNat, reduceIte, reduceCtorEq, Int.reduceLE, Int.reduceLT, Int.reduceEq, Int.reduceNeg, Int.reduceAdd, Int.reduceSub, Int.reduceMul]
/-- Does a list hold an element of which something is so? -/
def AnyP (p : Int → Int → Bool) (L : List (Int × Int)) : Prop := ∃ k, k < L.length ∧ p (L.getD k (0, 0)).1 (L.getD k (0, 0)).2 = true
theorem containsFunc_Q (i cap : Nat) (L : List (Int × Int)) (s : Seg) (f a b : Nat) (G F : Nat → SV) (p : Int → Int → Bool) (hs : hget h i = some s) (hi : i < n) (hm9 : L.length ≤ 1000000000) (hL : SpsAt s L) (hF : (SV.fn f a G b F).lt n)
    (hp : ∀ j, j < L.length → ∀ nt n0, CallQ Try.prog ⟨cx.w0, cx.W, nt, n0⟩ f (lst a G ++ [spot (L.getD j (0, 0)).1 (L.getD j (0, 0)).2] ++ lst b F) h n (.bool (p (L.getD j (0, 0)).1 (L.getD j (0, 0)).2))) :
    CallQ Try.prog cx 91 [.sl i 0 L.length cap, .fn f a G b F] h n (.bool (boolOf (AnyP p L))) := by
  refine callQ_of_T (P := Try.prog) hti (nt := 9) (rs := [.tmp 4]) rfl rfl Try.call91 Try.func91 rfl _ (by simp only [go_sem, and_self]) (Nat.le_of_ble_eq_true rfl) _ (by first | exact trivial | (refine lt_flat rfl ?_; simp [SV.flat]; done) | simp only [go_sem]) fun hok => ?_
  simp only [go_sem, Nat.reduceBEq, Nat.reduceLT, Nat.reduceLeDiff, Nat.reduceAdd, Nat.reduceMul, Nat.reduceSub, Nat.reduceMod, Nat.reduceDiv, Nat.reduceEqDiff, Int.reduceToNat, reduceIte, reduceCtorEq, Int.reduceLE, Int.reduceLT, Int.reduceEq, Int.reduceNeg, Int.reduceAdd, Int.reduceSub, Int.reduceMul]
  refine (indexFunc_Q ⟨cx.w0, cx.W, 9, n⟩ h n i L.length cap L s f a b G F p (fst4 p L) hs hi rfl hm9 hL.1 hL.2 hF (fun hr => fst4_none hr) (fun hr => fst4_some hr) (fun j hj nt n0 => hp j hj nt n0)).A ?_
  by_cases hr : fst4 p L = -1
  · have : ¬ AnyP p L := fun ⟨k, hk, e⟩ => by rw [fst4_none hr k hk] at e; cases e
    simp only [go_sem, Nat.reduceBEq, Nat.reduceLT, Nat.reduceLeDiff, Nat.reduceAdd, Nat.reduceMul, Nat.reduceSub, Nat.reduceMod, Nat.reduceDiv, Nat.reduceEqDiff, Int.reduceToNat, reduceIte, reduceCtorEq, Int.reduceLE, Int.reduceLT, Int.reduceEq, Int.reduceNeg, Int.reduceAdd, Int.reduceSub, Int.reduceMul, hr, boolOf_f this]
  · obtain ⟨r0, r1, r2, r3⟩ := fst4_some hr
    have : AnyP p L := ⟨(fst4 p L).toNat, by omega, r2⟩
    simp only [go_sem, Nat.reduceBEq, Nat.reduceLT, Nat.reduceLeDiff, Nat.reduceAdd, Nat.reduceMul, Nat.reduceSub, Nat.reduceMod, Nat.reduceDiv, Nat.reduceEqDiff, Int.reduceToNat, reduceIte, reduceCtorEq, Int.reduceLE, Int.reduceLT, Int.reduceEq, Int.reduceNeg, Int.reduceAdd, Int.reduceSub, Int.reduceMul, r0, boolOf_t this]
variable (i cap : Nat) (L : List (Int × Int)) (s : Seg) (hs : hget h i = some s) (hi : i < n) (hL : SpsAt s L) (hm9 : L.length ≤ 1000000000)
include hs hi hL hm9 in
theorem isPath_Q : CallQ Try.prog cx 90 [.sl i 0 L.length cap] h n (.bool (boolOf (StepsP L ∧ LenP L))) := by
  have hn := hL.1
  refine callQ_of_T (P := Try.prog) hti (nt := 24) (rs := [.tmp 2]) rfl rfl Try.call90 Try.func90 rfl _ (by simp only [go_sem, and_self]) (Nat.le_of_ble_eq_true rfl) _ (by first | exact trivial | (refine lt_flat rfl ?_; simp [SV.flat]; done) | simp only [go_sem]) fun hok => ?_
  simp only [go_sem, Nat.reduceBEq, Nat.reduceLT, Nat.reduceLeDiff, Nat.reduceAdd, Nat.reduceMul, Nat.reduceSub, Nat.reduceMod, Nat.reduceDiv, Nat.reduceEqDiff, Int.reduceToNat, reduceIte, reduceCtorEq, Int.reduceLE, Int.reduceLT, Int.reduceEq, Int.reduceNeg, Int.reduceAdd, Int.reduceSub, Int.reduceMul]
  refine T_lp (ι := { q : Nat // (q + 1 ≤ L.length ∨ q = 0) ∧ ∀ k, k < q → StepP (L.getD k (0, 0)) (L.getD (k + 1) (0, 0)) })
    (fun q => ([(0, .sl i 0 L.length cap), (3, .int .i64 ((q.1 : Int) + 1))], h, n)) (fun q => L.length - q.1) ⟨0, by simp, fun k hk => by omega⟩ ?_ ?_
  · refine Imp.id (by simp) ?_ (impH.base0 hok (by simp) HExt.rfl)
    simp only [go_sem, Nat.reduceBEq, Nat.reduceLT, Nat.reduceLeDiff, Nat.reduceAdd, Nat.reduceMul, Nat.reduceSub, Nat.reduceMod, Nat.reduceDiv, Nat.reduceEqDiff, Int.reduceToNat, reduceIte, reduceCtorEq, Int.reduceLE, Int.reduceLT, Int.reduceEq, Int.reduceNeg, Int.reduceAdd, Int.reduceSub, Int.reduceMul]
    exact hi
  · rintro ⟨q, hq, hall⟩
    simp only [go_sem, Nat.reduceBEq, Nat.reduceLT, Nat.reduceLeDiff, Nat.reduceAdd, Nat.reduceMul, Nat.reduceSub, Nat.reduceMod, Nat.reduceDiv, Nat.reduceEqDiff, Int.reduceToNat, reduceIte, reduceCtorEq, Int.reduceLE, Int.reduceLT, Int.reduceEq, Int.reduceNeg, Int.reduceAdd, Int.reduceSub, Int.reduceMul, decide_eq_true_eq, decide_eq_false_iff_not]
    refine ⟨fun h1 => ?_, fun h1 => ?_⟩
    · have e1 : (q : Int) + 1 - 1 = q := by omega
      have e2 : ((q : Int) + 1).toNat = q + 1 := by omega
      have r1 : (0 : Int) ≤ q ∧ (q : Int) < L.length := ⟨by omega, by omega⟩
      have r2 : (0 : Int) ≤ (q : Int) + 1 ∧ (q : Int) + 1 < L.length := ⟨by omega, by omega⟩
      have b1 : q * 2 ≤ s.n - 2 := by omega
      have b2 : (q + 1) * 2 ≤ s.n - 2 := by omega
      have b3 : 2 ≤ s.n := by omega
      refine T_draw hti _ _ (by kernel_rfl) (by kernel_rfl) ?_
      simp only [go_sem, Nat.reduceBEq, Nat.reduceLT, Nat.reduceLeDiff, Nat.reduceAdd, Nat.reduceMul, Nat.reduceSub, Nat.reduceMod, Nat.reduceDiv, Nat.reduceEqDiff, Int.reduceToNat, reduceIte, reduceCtorEq, Int.reduceLE, Int.reduceLT, Int.reduceEq, Int.reduceNeg, Int.reduceAdd, Int.reduceSub, Int.reduceMul, hs, hi, e1, e2, r1, r2, b1, b2, b3, hL.x (j := q) (by omega), hL.y (j := q) (by omega), hL.x (j := q + 1) (by omega), hL.y (j := q + 1) (by omega), w64 (n := (q : Int)) (by omega)]
      refine ⟨by omega, by omega, (isStep_Q _ _ _ _ _ _ _).A ?_⟩
      by_cases hp : StepP (L.getD q (0, 0)) (L.getD (q + 1) (0, 0))
      · simp only [go_sem, Nat.reduceBEq, Nat.reduceLT, Nat.reduceLeDiff, Nat.reduceAdd, Nat.reduceMul, Nat.reduceSub, Nat.reduceMod, Nat.reduceDiv, Nat.reduceEqDiff, Int.reduceToNat, reduceIte, reduceCtorEq, Int.reduceLE, Int.reduceLT, Int.reduceEq, Int.reduceNeg, Int.reduceAdd, Int.reduceSub, Int.reduceMul, boolOf_t hp]
        refine ⟨⟨q + 1, .inl (by omega), fun k hk => ?_⟩, by show L.length - (q + 1) < L.length - q; omega, ?_⟩
        · rcases (by omega : k < q ∨ k = q) with h | rfl
          · exact hall k h
          · exact hp
        · refine Imp.id (by simp) ?_ (impH.base0 hok (by simp) HExt.rfl)
          simp only [go_sem, Nat.reduceBEq, Nat.reduceLT, Nat.reduceLeDiff, Nat.reduceAdd, Nat.reduceMul, Nat.reduceSub, Nat.reduceMod, Nat.reduceDiv, Nat.reduceEqDiff, Int.reduceToNat, reduceIte, reduceCtorEq, Int.reduceLE, Int.reduceLT, Int.reduceEq, Int.reduceNeg, Int.reduceAdd, Int.reduceSub, Int.reduceMul, w64 (n := (q : Int) + 1 + 1) (by omega), Int.natCast_add, Int.natCast_one]
          exact hi
      · have hf : ¬ (StepsP L ∧ LenP L) := fun h => hp (h.1 q (by omega))
        simp only [go_sem, Nat.reduceBEq, Nat.reduceLT, Nat.reduceLeDiff, Nat.reduceAdd, Nat.reduceMul, Nat.reduceSub, Nat.reduceMod, Nat.reduceDiv, Nat.reduceEqDiff, Int.reduceToNat, reduceIte, reduceCtorEq, Int.reduceLE, Int.reduceLT, Int.reduceEq, Int.reduceNeg, Int.reduceAdd, Int.reduceSub, Int.reduceMul, boolOf_f hp, boolOf_f hf]
    · have hst : StepsP L := fun k hk => hall k (by omega)
      refine (size_Q _ _ _ i 0 L.length cap hm9).A ?_
      simp only [go_sem, Nat.reduceBEq, Nat.reduceLT, Nat.reduceLeDiff, Nat.reduceAdd, Nat.reduceMul, Nat.reduceSub, Nat.reduceMod, Nat.reduceDiv, Nat.reduceEqDiff, Int.reduceToNat, reduceIte, reduceCtorEq, Int.reduceLE, Int.reduceLT, Int.reduceEq, Int.reduceNeg, Int.reduceAdd, Int.reduceSub, Int.reduceMul]
      refine (within_Q _ _ _ _ _ _).A ?_
      simp only [go_sem, Nat.reduceBEq, Nat.reduceLT, Nat.reduceLeDiff, Nat.reduceAdd, Nat.reduceMul, Nat.reduceSub, Nat.reduceMod, Nat.reduceDiv, Nat.reduceEqDiff, Int.reduceToNat, reduceIte, reduceCtorEq, Int.reduceLE, Int.reduceLT, Int.reduceEq, Int.reduceNeg, Int.reduceAdd, Int.reduceSub, Int.reduceMul]
      congr 1
      by_cases hl : LenP L
      · rw [boolOf_t ⟨hst, hl⟩]; have := hl.1; have := hl.2; simp; omega
      · rw [boolOf_f fun h => hl h.2]; unfold LenP at hl; simp; omega
theorem validPath1_Q (iv : Nat) (S : Sh) (x y : Int) (hv : hget h iv = some (shS S)) (hvi : iv < n) (hR : ShR S) : CallQ Try.prog cx 92 [spot x y, .ptr iv 0] h n (.bool (!hasB S x y)) := by
  refine callQ_of_T (P := Try.prog) hti (nt := 7) (rs := [.tmp 3]) rfl rfl Try.call92 Try.func92 rfl _ (by simp only [go_sem, and_self]) (Nat.le_of_ble_eq_true rfl) _ (by first | exact trivial | (refine lt_flat rfl ?_; simp [SV.flat]; done) | simp only [go_sem]) fun hok => ?_
  simp only [go_sem, Nat.reduceBEq, Nat.reduceLT, Nat.reduceLeDiff, Nat.reduceAdd, Nat.reduceMul, Nat.reduceSub, Nat.reduceMod, Nat.reduceDiv, Nat.reduceEqDiff, Int.reduceToNat, reduceIte, reduceCtorEq, Int.reduceLE, Int.reduceLT, Int.reduceEq, Int.reduceNeg, Int.reduceAdd, Int.reduceSub, Int.reduceMul]
  refine (has_Q _ _ _ iv 0 _ S x y (by simp only [go_sem, Nat.reduceBEq, Nat.reduceLT, Nat.reduceLeDiff, Nat.reduceAdd, Nat.reduceMul, Nat.reduceSub, Nat.reduceMod, Nat.reduceDiv, Nat.reduceEqDiff, Int.reduceToNat, reduceIte, reduceCtorEq, Int.reduceLE, Int.reduceLT, Int.reduceEq, Int.reduceNeg, Int.reduceAdd, Int.reduceSub, Int.reduceMul, hv, hvi]) (by omega) (shAt_shC hR)).A ?_
  simp only [go_sem, Nat.reduceBEq, Nat.reduceLT, Nat.reduceLeDiff, Nat.reduceAdd, Nat.reduceMul, Nat.reduceSub, Nat.reduceMod, Nat.reduceDiv, Nat.reduceEqDiff, Int.reduceToNat, reduceIte, reduceCtorEq, Int.reduceLE, Int.reduceLT, Int.reduceEq, Int.reduceNeg, Int.reduceAdd, Int.reduceSub, Int.reduceMul]
include hs hi hL hm9 in
theorem validPath_Q (S : Sh) (hR : ShR S) : CallQ Try.prog cx 51 [.agg 266 (shC S), .sl i 0 L.length cap] h n (.bool (boolOf (Valid S ∧ PathP S L))) := by
  refine callQ_of_T (P := Try.prog) hti (nt := 17) (rs := [.tmp 4]) rfl rfl Try.call51 Try.func51 rfl _ (by simp only [go_sem, and_self]) (Nat.le_of_ble_eq_true rfl) _ (by first | exact trivial | (refine lt_flat rfl ?_; simp [SV.flat]; done) | simp only [go_sem]) fun hok => ?_
  simp only [go_sem, Nat.reduceBEq, Nat.reduceLT, Nat.reduceLeDiff, Nat.reduceAdd, Nat.reduceMul, Nat.reduceSub, Nat.reduceMod, Nat.reduceDiv, Nat.reduceEqDiff, Int.reduceToNat, reduceIte, reduceCtorEq, Int.reduceLE, Int.reduceLT, Int.reduceEq, Int.reduceNeg, Int.reduceAdd, Int.reduceSub, Int.reduceMul]
  refine (valid_Q _ _ _ _ S (shF_shC hR)).A ?_
  by_cases hV : Valid S
  · rw [validB_true hV]
    simp only [go_sem, Nat.reduceBEq, Nat.reduceLT, Nat.reduceLeDiff, Nat.reduceAdd, Nat.reduceMul, Nat.reduceSub, Nat.reduceMod, Nat.reduceDiv, Nat.reduceEqDiff, Int.reduceToNat, reduceIte, reduceCtorEq, Int.reduceLE, Int.reduceLT, Int.reduceEq, Int.reduceNeg, Int.reduceAdd, Int.reduceSub, Int.reduceMul]
    refine (isPath_Q _ _ _ i cap L s (by simp only [go_sem, Nat.reduceBEq, Nat.reduceLT, Nat.reduceLeDiff, Nat.reduceAdd, Nat.reduceMul, Nat.reduceSub, Nat.reduceMod, Nat.reduceDiv, Nat.reduceEqDiff, Int.reduceToNat, reduceIte, reduceCtorEq, Int.reduceLE, Int.reduceLT, Int.reduceEq, Int.reduceNeg, Int.reduceAdd, Int.reduceSub, Int.reduceMul, hs, hi]) (by omega) hL hm9).A ?_
    by_cases hP : StepsP L ∧ LenP L
    · rw [boolOf_t hP]
      simp only [go_sem, Nat.reduceBEq, Nat.reduceLT, Nat.reduceLeDiff, Nat.reduceAdd, Nat.reduceMul, Nat.reduceSub, Nat.reduceMod, Nat.reduceDiv, Nat.reduceEqDiff, Int.reduceToNat, reduceIte, reduceCtorEq, Int.reduceLE, Int.reduceLT, Int.reduceEq, Int.reduceNeg, Int.reduceAdd, Int.reduceSub, Int.reduceMul]
      refine (containsFunc_Q _ _ _ i cap L s _ _ _ _ _ (fun x y => !hasB S x y) (by simp only [go_sem, Nat.reduceBEq, Nat.reduceLT, Nat.reduceLeDiff, Nat.reduceAdd, Nat.reduceMul, Nat.reduceSub, Nat.reduceMod, Nat.reduceDiv, Nat.reduceEqDiff, Int.reduceToNat, reduceIte, reduceCtorEq, Int.reduceLE, Int.reduceLT, Int.reduceEq, Int.reduceNeg, Int.reduceAdd, Int.reduceSub, Int.reduceMul, hs, hi]) (by omega) hm9 hL (by simp [SV.lt, cl]) (fun j hj nt n0 => validPath1_Q _ _ _ n S _ _ (by simp only [go_sem, Nat.reduceBEq, Nat.reduceLT, Nat.reduceLeDiff, Nat.reduceAdd, Nat.reduceMul, Nat.reduceSub, Nat.reduceMod, Nat.reduceDiv, Nat.reduceEqDiff, Int.reduceToNat, reduceIte, reduceCtorEq, Int.reduceLE, Int.reduceLT, Int.reduceEq, Int.reduceNeg, Int.reduceAdd, Int.reduceSub, Int.reduceMul]) (by omega) hR)).A ?_
      by_cases hI : InP S L
      · have h1 : ¬ AnyP (fun x y => !hasB S x y) L := fun ⟨k, hk, e⟩ => by have e' : (!hasB S (L.getD k (0, 0)).1 (L.getD k (0, 0)).2) = true := e; rw [hI k hk] at e'; cases e'
        simp only [go_sem, Nat.reduceBEq, Nat.reduceLT, Nat.reduceLeDiff, Nat.reduceAdd, Nat.reduceMul, Nat.reduceSub, Nat.reduceMod, Nat.reduceDiv, Nat.reduceEqDiff, Int.reduceToNat, reduceIte, reduceCtorEq, Int.reduceLE, Int.reduceLT, Int.reduceEq, Int.reduceNeg, Int.reduceAdd, Int.reduceSub, Int.reduceMul, boolOf_f h1, boolOf_t (show Valid S ∧ PathP S L from ⟨hV, hP.1, hP.2, hI⟩)]
      · have h1 : AnyP (fun x y => !hasB S x y) L := by
          refine Classical.byContradiction fun hn => hI fun k hk => ?_
          cases e : hasB S (L.getD k (0, 0)).1 (L.getD k (0, 0)).2 with
          | true => rfl
          | false => exact absurd ⟨k, hk, by show (!hasB S (L.getD k (0, 0)).1 (L.getD k (0, 0)).2) = true; rw [e]; rfl⟩ hn
        simp only [go_sem, Nat.reduceBEq, Nat.reduceLT, Nat.reduceLeDiff, Nat.reduceAdd, Nat.reduceMul, Nat.reduceSub, Nat.reduceMod, Nat.reduceDiv, Nat.reduceEqDiff, Int.reduceToNat, reduceIte, reduceCtorEq, Int.reduceLE, Int.reduceLT, Int.reduceEq, Int.reduceNeg, Int.reduceAdd, Int.reduceSub, Int.reduceMul, boolOf_t h1, boolOf_f (show ¬ (Valid S ∧ PathP S L) from fun h => hI h.2.2.2)]
    · rw [boolOf_f hP]
      simp only [go_sem, Nat.reduceBEq, Nat.reduceLT, Nat.reduceLeDiff, Nat.reduceAdd, Nat.reduceMul, Nat.reduceSub, Nat.reduceMod, Nat.reduceDiv, Nat.reduceEqDiff, Int.reduceToNat, reduceIte, reduceCtorEq, Int.reduceLE, Int.reduceLT, Int.reduceEq, Int.reduceNeg, Int.reduceAdd, Int.reduceSub, Int.reduceMul, boolOf_f (show ¬ (Valid S ∧ PathP S L) from fun h => hP ⟨h.2.1, h.2.2.1⟩)]
  · rw [validB_false hV]
    simp only [go_sem, Nat.reduceBEq, Nat.reduceLT, Nat.reduceLeDiff, Nat.reduceAdd, Nat.reduceMul, Nat.reduceSub, Nat.reduceMod, Nat.reduceDiv, Nat.reduceEqDiff, Int.reduceToNat, reduceIte, reduceCtorEq, Int.reduceLE, Int.reduceLT, Int.reduceEq, Int.reduceNeg, Int.reduceAdd, Int.reduceSub, Int.reduceMul, boolOf_f (show ¬ (Valid S ∧ PathP S L) from fun h => hV h.1)]
/-- What brushCode tells. -/
noncomputable def bCode (S : Sh) (B : Br) (ok : Bool) : Int := if boolOf (Valid S ∧ BrV B) then (if ok then 0 else 2) else 1
theorem bCode_ok {S : Sh} {B : Br} {ok : Bool} (h : Valid S ∧ BrV B) : bCode S B ok = if ok then 0 else 2 := by simp [bCode, boolOf_t h]
theorem bCode_bad {S : Sh} {B : Br} {ok : Bool} (h : ¬ (Valid S ∧ BrV B)) : bCode S B ok = 1 := by simp [bCode, boolOf_f h]
theorem brushCode_Q (S : Sh) (B : Br) (ok : Bool) (hR : ShR S) (hB : BrR B) : CallQ Try.prog cx 50 [.agg 266 (shC S), .agg 5 (brC B), .bool ok] h n (.int .i64 (bCode S B ok)) := by
  refine callQ_of_T (P := Try.prog) hti (nt := 19) (rs := [.tmp 6]) rfl rfl Try.call50 Try.func50 rfl _ (by simp only [go_sem, and_self]) (Nat.le_of_ble_eq_true rfl) _ (by first | exact trivial | (refine lt_flat rfl ?_; simp [SV.flat]; done) | simp only [go_sem]) fun hok => ?_
  simp only [go_sem, Nat.reduceBEq, Nat.reduceLT, Nat.reduceLeDiff, Nat.reduceAdd, Nat.reduceMul, Nat.reduceSub, Nat.reduceMod, Nat.reduceDiv, Nat.reduceEqDiff, Int.reduceToNat, reduceIte, reduceCtorEq, Int.reduceLE, Int.reduceLT, Int.reduceEq, Int.reduceNeg, Int.reduceAdd, Int.reduceSub, Int.reduceMul]
  refine (valid_Q _ _ _ _ S (shF_shC hR)).A ?_
  by_cases hV : Valid S
  · rw [validB_true hV]
    simp only [go_sem, Nat.reduceBEq, Nat.reduceLT, Nat.reduceLeDiff, Nat.reduceAdd, Nat.reduceMul, Nat.reduceSub, Nat.reduceMod, Nat.reduceDiv, Nat.reduceEqDiff, Int.reduceToNat, reduceIte, reduceCtorEq, Int.reduceLE, Int.reduceLT, Int.reduceEq, Int.reduceNeg, Int.reduceAdd, Int.reduceSub, Int.reduceMul]
    refine (validBrush_Q _ _ _ B hB).A ?_
    by_cases hb : BrV B
    · cases ok <;> simp only [go_sem, Nat.reduceBEq, Nat.reduceLT, Nat.reduceLeDiff, Nat.reduceAdd, Nat.reduceMul, Nat.reduceSub, Nat.reduceMod, Nat.reduceDiv, Nat.reduceEqDiff, Int.reduceToNat, reduceIte, reduceCtorEq, Int.reduceLE, Int.reduceLT, Int.reduceEq, Int.reduceNeg, Int.reduceAdd, Int.reduceSub, Int.reduceMul, hb, bCode_ok ⟨hV, hb⟩]
    · cases ok <;> simp only [go_sem, Nat.reduceBEq, Nat.reduceLT, Nat.reduceLeDiff, Nat.reduceAdd, Nat.reduceMul, Nat.reduceSub, Nat.reduceMod, Nat.reduceDiv, Nat.reduceEqDiff, Int.reduceToNat, reduceIte, reduceCtorEq, Int.reduceLE, Int.reduceLT, Int.reduceEq, Int.reduceNeg, Int.reduceAdd, Int.reduceSub, Int.reduceMul, hb, bCode_bad (show ¬ (Valid S ∧ BrV B) from fun h => hb h.2)]
  · rw [validB_false hV]
    cases ok <;> simp only [go_sem, Nat.reduceBEq, Nat.reduceLT, Nat.reduceLeDiff, Nat.reduceAdd, Nat.reduceMul, Nat.reduceSub, Nat.reduceMod, Nat.reduceDiv, Nat.reduceEqDiff, Int.reduceToNat, reduceIte, reduceCtorEq, Int.reduceLE, Int.reduceLT, Int.reduceEq, Int.reduceNeg, Int.reduceAdd, Int.reduceSub, Int.reduceMul, bCode_bad (show ¬ (Valid S ∧ BrV B) from fun h => hV h.1)]
end
end Go.Proofs.Ytebpkdolmlloaaa.V

/- Strokes along paths: both codes. -/
namespace Go.Proofs.Ytebpkdolmlloaaa.V

/-- Behind so many cells of a path. -/
def strokeN (S : Sh) (B : Br) (L : List (Int × Int)) : Nat → Sh × Br
  | 0 => (S, B)
  | q + 1 => (touchS (strokeN S B L q).1 (strokeN S B L q).2 (L.getD q (0, 0)).2 (L.getD q (0, 0)).1, touchB (strokeN S B L q).1 (strokeN S B L q).2 (L.getD q (0, 0)).2 (L.getD q (0, 0)).1)
structure OkSB (S0 : Sh) (p : Sh × Br) : Prop where
  R : ShR p.1
  G : Good p.1
  B : BrV p.2
  wide : p.1.wide = S0.wide
  high : p.1.high = S0.high
  wax : p.1.wax = S0.wax
theorem touch_ok {S0 : Sh} {p : Sh × Br} {x y : Int} (h : OkSB S0 p) (hx : 0 ≤ x) (hx8 : x < 8) (hy : 0 ≤ y) (hy8 : y < 8) : OkSB S0 (touchS p.1 p.2 y x, touchB p.1 p.2 y x) :=
  ⟨touchS_R h.R h.G h.B hx hx8 hy hy8, touchS_good h.G h.B hx hx8 hy hy8, touchB_V h.G h.B hx hx8 hy hy8, h.wide, h.high, h.wax⟩
theorem InP.at {S : Sh} {L : List (Int × Int)} (h : InP S L) (hS : Small S) {q : Nat} (hq : q < L.length) : 0 ≤ (L.getD q (0, 0)).1 ∧ (L.getD q (0, 0)).1 < 8 ∧ 0 ≤ (L.getD q (0, 0)).2 ∧ (L.getD q (0, 0)).2 < 8 := hasB_in hS (h q hq)
theorem strokeN_ok {S : Sh} {B : Br} {L : List (Int × Int)} (hI : InP S L) (hS : Small S) (h : OkSB S (S, B)) : ∀ q, q ≤ L.length → OkSB S (strokeN S B L q)
  | 0, _ => h
  | q + 1, hq => by
    obtain ⟨a, b, c, d⟩ := hI.at hS (q := q) (by omega)
    exact touch_ok (strokeN_ok hI hS h q (by omega)) a b c d

section
variable (cx : Cx) (h : List (Nat × Seg)) (n : Nat)
variable (i cap : Nat) (L : List (Int × Int)) (s : Seg) (hs : hget h i = some s) (hi : i < n) (hL : SpsAt s L) (hm9 : L.length ≤ 1000000000)
include hs hi hL hm9 in
theorem path2_Q (p : Nat) (S : Sh) (hp : hget h p = some (shS S)) (hpn : p < n) (hR : ShR S) (hLR : SpotsR L) : CallQ Try.prog cx 87 [.ptr p 0, .sl i 0 L.length cap] h n (.bool (boolOf (PathP S L))) := by
  have hn := hL.1
  refine callQ_of_T (P := Try.prog) hti (nt := 39) (rs := [.tmp 4]) rfl rfl Try.call87 Try.func87 rfl _ (by simp only [go_sem, and_self]) (Nat.le_of_ble_eq_true rfl) _ (by first | exact trivial | (refine lt_flat rfl ?_; simp [SV.flat]; done) | simp only [go_sem]) fun hok => ?_
  simp only [go_sem, Nat.reduceBEq, Nat.reduceLT, Nat.reduceLeDiff, Nat.reduceAdd, Nat.reduceMul, Nat.reduceSub, Nat.reduceMod, Nat.reduceDiv, Nat.reduceEqDiff, Int.reduceToNat, reduceIte, reduceCtorEq, Int.reduceLE, Int.reduceLT, Int.reduceEq, Int.reduceNeg, Int.reduceAdd, Int.reduceSub, Int.reduceMul]
  refine T_lp (ι := { q : Nat // q ≤ L.length ∧ (∀ k, k < q → hasB S (L.getD k (0, 0)).1 (L.getD k (0, 0)).2 = true) ∧ ∀ k, k + 1 < q → StepP (L.getD k (0, 0)) (L.getD (k + 1) (0, 0)) })
    (fun q => ([(0, .ptr p 0), (1, .sl i 0 L.length cap), (5, .int .i64 q.1)], h, n)) (fun q => L.length - q.1) ⟨0, by simp, fun k hk => by omega, fun k hk => by omega⟩ ?_ ?_
  · refine Imp.id (by simp) ?_ (impH.base0 hok (by simp) HExt.rfl)
    simp only [go_sem, Nat.reduceBEq, Nat.reduceLT, Nat.reduceLeDiff, Nat.reduceAdd, Nat.reduceMul, Nat.reduceSub, Nat.reduceMod, Nat.reduceDiv, Nat.reduceEqDiff, Int.reduceToNat, reduceIte, reduceCtorEq, Int.reduceLE, Int.reduceLT, Int.reduceEq, Int.reduceNeg, Int.reduceAdd, Int.reduceSub, Int.reduceMul]
    exact ⟨hpn, hi⟩
  · rintro ⟨q, hq, hall, hst⟩
    simp only [go_sem, Nat.reduceBEq, Nat.reduceLT, Nat.reduceLeDiff, Nat.reduceAdd, Nat.reduceMul, Nat.reduceSub, Nat.reduceMod, Nat.reduceDiv, Nat.reduceEqDiff, Int.reduceToNat, reduceIte, reduceCtorEq, Int.reduceLE, Int.reduceLT, Int.reduceEq, Int.reduceNeg, Int.reduceAdd, Int.reduceSub, Int.reduceMul, decide_eq_true_eq, decide_eq_false_iff_not]
    refine ⟨fun h1 => ?_, fun h1 => ?_⟩
    · have r1 : (0 : Int) ≤ q ∧ (q : Int) < L.length := ⟨by omega, by omega⟩
      have b1 : q * 2 ≤ s.n - 2 := by omega
      have b3 : 2 ≤ s.n := by omega
      have hr := hLR q (by omega)
      have next : hasB S (L.getD q (0, 0)).1 (L.getD q (0, 0)).2 = true → (∀ k, k + 1 < q + 1 → StepP (L.getD k (0, 0)) (L.getD (k + 1) (0, 0))) →
          ∃ j : { q : Nat // q ≤ L.length ∧ (∀ k, k < q → hasB S (L.getD k (0, 0)).1 (L.getD k (0, 0)).2 = true) ∧ ∀ k, k + 1 < q → StepP (L.getD k (0, 0)) (L.getD (k + 1) (0, 0)) }, L.length - j.1 < L.length - q ∧ j.1 = q + 1 := fun ha hb =>
        ⟨⟨q + 1, by omega, fun k hk => by rcases (by omega : k < q ∨ k = q) with h | rfl; exact hall k h; exact ha, hb⟩, by show L.length - (q + 1) < L.length - q; omega, rfl⟩
      refine T_draw hti _ _ (by kernel_rfl) (by kernel_rfl) ?_
      simp only [go_sem, Nat.reduceBEq, Nat.reduceLT, Nat.reduceLeDiff, Nat.reduceAdd, Nat.reduceMul, Nat.reduceSub, Nat.reduceMod, Nat.reduceDiv, Nat.reduceEqDiff, Int.reduceToNat, reduceIte, reduceCtorEq, Int.reduceLE, Int.reduceLT, Int.reduceEq, Int.reduceNeg, Int.reduceAdd, Int.reduceSub, Int.reduceMul, hs, hi, r1, b1, b3, hL.x (j := q) (by omega), hL.y (j := q) (by omega)]
      refine ⟨by omega, (is_Q _ _ _ p 0 _ S _ _ hp (by omega) (shAt_shC hR) hr.1 hr.2).A ?_⟩
      by_cases hh : hasB S (L.getD q (0, 0)).1 (L.getD q (0, 0)).2 = true
      rotate_left
      · have hf : ¬ PathP S L := fun h => hh (h.2.2 q (by omega))
        simp only [go_sem, Nat.reduceBEq, Nat.reduceLT, Nat.reduceLeDiff, Nat.reduceAdd, Nat.reduceMul, Nat.reduceSub, Nat.reduceMod, Nat.reduceDiv, Nat.reduceEqDiff, Int.reduceToNat, reduceIte, reduceCtorEq, Int.reduceLE, Int.reduceLT, Int.reduceEq, Int.reduceNeg, Int.reduceAdd, Int.reduceSub, Int.reduceMul, hh, boolOf_f hf]
      have hcont : ∀ (w : List (Nat × SV)), True := fun _ => trivial
      cases q with
      | zero =>
        simp only [go_sem, Nat.reduceBEq, Nat.reduceLT, Nat.reduceLeDiff, Nat.reduceAdd, Nat.reduceMul, Nat.reduceSub, Nat.reduceMod, Nat.reduceDiv, Nat.reduceEqDiff, Int.reduceToNat, reduceIte, reduceCtorEq, Int.reduceLE, Int.reduceLT, Int.reduceEq, Int.reduceNeg, Int.reduceAdd, Int.reduceSub, Int.reduceMul, hh]
        obtain ⟨j, hj1, hj2⟩ := next hh (fun k hk => by omega)
        refine ⟨j, hj1, ?_⟩
        refine Imp.id (by simp) ?_ (impH.base0 hok (by simp) HExt.rfl)
        rw [hj2]
        simp only [go_sem, Nat.reduceBEq, Nat.reduceLT, Nat.reduceLeDiff, Nat.reduceAdd, Nat.reduceMul, Nat.reduceSub, Nat.reduceMod, Nat.reduceDiv, Nat.reduceEqDiff, Int.reduceToNat, reduceIte, reduceCtorEq, Int.reduceLE, Int.reduceLT, Int.reduceEq, Int.reduceNeg, Int.reduceAdd, Int.reduceSub, Int.reduceMul]
        exact ⟨hpn, hi⟩
      | succ r =>
        have e1 : ((r + 1 : Nat) : Int) - 1 = r := by omega
        have r0 : (0 : Int) < ((r + 1 : Nat) : Int) := by omega
        have r2 : (0 : Int) ≤ r ∧ (r : Int) < L.length := ⟨by omega, by omega⟩
        have b2 : r * 2 ≤ s.n - 2 := by omega
        simp only [go_sem, Nat.reduceBEq, Nat.reduceLT, Nat.reduceLeDiff, Nat.reduceAdd, Nat.reduceMul, Nat.reduceSub, Nat.reduceMod, Nat.reduceDiv, Nat.reduceEqDiff, Int.reduceToNat, reduceIte, reduceCtorEq, Int.reduceLE, Int.reduceLT, Int.reduceEq, Int.reduceNeg, Int.reduceAdd, Int.reduceSub, Int.reduceMul, hh, r0, hs, hi, e1, r1, r2, b1, b2, b3, hL.x (j := r) (by omega), hL.y (j := r) (by omega), hL.x (j := r + 1) (by omega), hL.y (j := r + 1) (by omega), w64 (n := (r : Int)) (by omega)]
        refine ⟨by omega, by omega, (step2_Q _ _ _ _ _ _ _).A ?_⟩
        by_cases hp' : StepP (L.getD r (0, 0)) (L.getD (r + 1) (0, 0))
        · simp only [go_sem, Nat.reduceBEq, Nat.reduceLT, Nat.reduceLeDiff, Nat.reduceAdd, Nat.reduceMul, Nat.reduceSub, Nat.reduceMod, Nat.reduceDiv, Nat.reduceEqDiff, Int.reduceToNat, reduceIte, reduceCtorEq, Int.reduceLE, Int.reduceLT, Int.reduceEq, Int.reduceNeg, Int.reduceAdd, Int.reduceSub, Int.reduceMul, boolOf_t hp']
          obtain ⟨j, hj1, hj2⟩ := next hh (fun k hk => by rcases (by omega : k + 1 < r + 1 ∨ k = r) with h | rfl; exact hst k h; exact hp')
          refine ⟨j, hj1, ?_⟩
          refine Imp.id (by simp) ?_ (impH.base0 hok (by simp) HExt.rfl)
          rw [hj2]
          simp only [go_sem, Nat.reduceBEq, Nat.reduceLT, Nat.reduceLeDiff, Nat.reduceAdd, Nat.reduceMul, Nat.reduceSub, Nat.reduceMod, Nat.reduceDiv, Nat.reduceEqDiff, Int.reduceToNat, reduceIte, reduceCtorEq, Int.reduceLE, Int.reduceLT, Int.reduceEq, Int.reduceNeg, Int.reduceAdd, Int.reduceSub, Int.reduceMul, w64 (n := (r : Int) + 1 + 1) (by omega), Int.natCast_add, Int.natCast_one]
          exact ⟨hpn, hi, by rw [Int.add_assoc]; rfl⟩
        · have hf : ¬ PathP S L := fun h => hp' (h.1 r (by omega))
          simp only [go_sem, Nat.reduceBEq, Nat.reduceLT, Nat.reduceLeDiff, Nat.reduceAdd, Nat.reduceMul, Nat.reduceSub, Nat.reduceMod, Nat.reduceDiv, Nat.reduceEqDiff, Int.reduceToNat, reduceIte, reduceCtorEq, Int.reduceLE, Int.reduceLT, Int.reduceEq, Int.reduceNeg, Int.reduceAdd, Int.reduceSub, Int.reduceMul, boolOf_f hp', boolOf_f hf]
    · have hst' : StepsP L := fun k hk => hst k (by omega)
      have hI : InP S L := fun k hk => hall k (by omega)
      refine (in_Q _ _ _ _ _ _).A ?_
      simp only [go_sem, Nat.reduceBEq, Nat.reduceLT, Nat.reduceLeDiff, Nat.reduceAdd, Nat.reduceMul, Nat.reduceSub, Nat.reduceMod, Nat.reduceDiv, Nat.reduceEqDiff, Int.reduceToNat, reduceIte, reduceCtorEq, Int.reduceLE, Int.reduceLT, Int.reduceEq, Int.reduceNeg, Int.reduceAdd, Int.reduceSub, Int.reduceMul]
      congr 1
      by_cases hl : LenP L
      · rw [boolOf_t (show PathP S L from ⟨hst', hl, hI⟩)]; have := hl.1; have := hl.2; simp; omega
      · rw [boolOf_f fun h => hl h.2.1]; unfold LenP at hl; simp; omega
include hs hi hL hm9 in
theorem along_Q (p j : Nat) (S : Sh) (B : Br) (hp : hget h p = some (shS S)) (hpn : p < n) (hj : hget h j = some (brS B)) (hjn : j < n) (hR : ShR S) (hB : BrR B) (hLR : SpotsR L) :
    CallQ Try.prog cx 43 [.ptr p 0, .ptr j 0, .sl i 0 L.length cap] h n (.int .i64 (bCode S B (boolOf (Valid S ∧ PathP S L)))) := by
  refine callQ_of_T (P := Try.prog) hti (nt := 19) (rs := [.tmp 6]) rfl rfl Try.call43 Try.func43 rfl _ (by simp only [go_sem, and_self]) (Nat.le_of_ble_eq_true rfl) _ (by first | exact trivial | (refine lt_flat rfl ?_; simp [SV.flat]; done) | simp only [go_sem]) fun hok => ?_
  simp only [go_sem, Nat.reduceBEq, Nat.reduceLT, Nat.reduceLeDiff, Nat.reduceAdd, Nat.reduceMul, Nat.reduceSub, Nat.reduceMod, Nat.reduceDiv, Nat.reduceEqDiff, Int.reduceToNat, reduceIte, reduceCtorEq, Int.reduceLE, Int.reduceLT, Int.reduceEq, Int.reduceNeg, Int.reduceAdd, Int.reduceSub, Int.reduceMul]
  refine (ok2_Q _ _ _ p 0 _ S hp hpn (shAt_shC hR)).A ?_
  by_cases hV : Valid S
  · rw [validB_true hV]
    simp only [go_sem, Nat.reduceBEq, Nat.reduceLT, Nat.reduceLeDiff, Nat.reduceAdd, Nat.reduceMul, Nat.reduceSub, Nat.reduceMod, Nat.reduceDiv, Nat.reduceEqDiff, Int.reduceToNat, reduceIte, reduceCtorEq, Int.reduceLE, Int.reduceLT, Int.reduceEq, Int.reduceNeg, Int.reduceAdd, Int.reduceSub, Int.reduceMul]
    refine (ok4_Q _ _ _ j B hj hjn hB).A ?_
    by_cases hb : BrV B
    · simp only [go_sem, Nat.reduceBEq, Nat.reduceLT, Nat.reduceLeDiff, Nat.reduceAdd, Nat.reduceMul, Nat.reduceSub, Nat.reduceMod, Nat.reduceDiv, Nat.reduceEqDiff, Int.reduceToNat, reduceIte, reduceCtorEq, Int.reduceLE, Int.reduceLT, Int.reduceEq, Int.reduceNeg, Int.reduceAdd, Int.reduceSub, Int.reduceMul, hb]
      refine (path2_Q _ _ _ i cap L s hs hi hL hm9 p S hp hpn hR hLR).A ?_
      by_cases hP : PathP S L
      · rw [boolOf_t hP, boolOf_t (show Valid S ∧ PathP S L from ⟨hV, hP⟩)]
        simp only [go_sem, Nat.reduceBEq, Nat.reduceLT, Nat.reduceLeDiff, Nat.reduceAdd, Nat.reduceMul, Nat.reduceSub, Nat.reduceMod, Nat.reduceDiv, Nat.reduceEqDiff, Int.reduceToNat, reduceIte, reduceCtorEq, Int.reduceLE, Int.reduceLT, Int.reduceEq, Int.reduceNeg, Int.reduceAdd, Int.reduceSub, Int.reduceMul, bCode_ok ⟨hV, hb⟩]
      · rw [boolOf_f hP, boolOf_f (show ¬ (Valid S ∧ PathP S L) from fun h => hP h.2)]
        simp only [go_sem, Nat.reduceBEq, Nat.reduceLT, Nat.reduceLeDiff, Nat.reduceAdd, Nat.reduceMul, Nat.reduceSub, Nat.reduceMod, Nat.reduceDiv, Nat.reduceEqDiff, Int.reduceToNat, reduceIte, reduceCtorEq, Int.reduceLE, Int.reduceLT, Int.reduceEq, Int.reduceNeg, Int.reduceAdd, Int.reduceSub, Int.reduceMul, bCode_ok ⟨hV, hb⟩]
    · simp only [go_sem, Nat.reduceBEq, Nat.reduceLT, Nat.reduceLeDiff, Nat.reduceAdd, Nat.reduceMul, Nat.reduceSub, Nat.reduceMod, Nat.reduceDiv, Nat.reduceEqDiff, Int.reduceToNat, reduceIte, reduceCtorEq, Int.reduceLE, Int.reduceLT, Int.reduceEq, Int.reduceNeg, Int.reduceAdd, Int.reduceSub, Int.reduceMul, hb, bCode_bad (show ¬ (Valid S ∧ BrV B) from fun h => hb h.2)]
  · rw [validB_false hV]
    simp only [go_sem, Nat.reduceBEq, Nat.reduceLT, Nat.reduceLeDiff, Nat.reduceAdd, Nat.reduceMul, Nat.reduceSub, Nat.reduceMod, Nat.reduceDiv, Nat.reduceEqDiff, Int.reduceToNat, reduceIte, reduceCtorEq, Int.reduceLE, Int.reduceLT, Int.reduceEq, Int.reduceNeg, Int.reduceAdd, Int.reduceSub, Int.reduceMul, bCode_bad (show ¬ (Valid S ∧ BrV B) from fun h => hV h.1)]
end
end Go.Proofs.Ytebpkdolmlloaaa.V

/- Strokes along paths, and what StrokePath returns: both codes. -/
namespace Go.Proofs.Ytebpkdolmlloaaa.V
section
variable (cx : Cx) (h : List (Nat × Seg)) (n : Nat)
variable (i cap : Nat) (L : List (Int × Int)) (s : Seg) (hs : hget h i = some s) (hi : i < n) (hL : SpsAt s L) (hm9 : L.length ≤ 1000000000)
include hs hi hL hm9 in
theorem stroke_E (p j : Nat) (S : Sh) (B : Br) (hp : hget h p = some (shS S)) (hpn : p < n) (hj : hget h j = some (brS B)) (hjn : j < n) (hpj : (p == j) = false) (hpi : (p == i) = false) (hji : (j == i) = false)
    (hO : OkSB S (S, B)) (hI : InP S L) (K : HK) (hK : K (.tup 0 (cl [])) (hset (hset h j (brS (strokeN S B L L.length).2)) p (shS (strokeN S B L L.length).1)) n) :
    CallE Try.prog cx 67 [.ptr p 0, .ptr j 0, .sl i 0 L.length cap] h n K := by
  have hn := hL.1
  have hsm := hO.G.small
  have hjp : (j == p) = false := by simp at hpj ⊢; omega
  have hok' : HOk n h → ∀ S' B', HOk n (hset (hset h j (brS B')) p (shS S')) := fun hok S' B' => hok_shS (hok_brS hok)
  refine CallE.to (.tup 0 (cl [])) _ (fun _ h => by omega) (fun hok => hok' hok _ _) hK ?_
  refine callE_of_T (P := Try.prog) hti (nt := 19) (rs := []) rfl rfl Try.call67 Try.func67 rfl _ (by simp only [go_sem, and_self]) (Nat.le_of_ble_eq_true rfl) _ fun hok => ?_
  simp only [go_sem, Nat.reduceBEq, Nat.reduceLT, Nat.reduceLeDiff, Nat.reduceAdd, Nat.reduceMul, Nat.reduceSub, Nat.reduceMod, Nat.reduceDiv, Nat.reduceEqDiff, Int.reduceToNat, reduceIte, reduceCtorEq, Int.reduceLE, Int.reduceLT, Int.reduceEq, Int.reduceNeg, Int.reduceAdd, Int.reduceSub, Int.reduceMul]
  refine T_lp (ι := { q : Nat // q ≤ L.length })
    (fun q => ([(0, .ptr p 0), (1, .ptr j 0), (8, .sl i 0 L.length cap), (9, .int .i64 L.length), (10, .int .i64 q.1)], hset (hset h j (brS (strokeN S B L q.1).2)) p (shS (strokeN S B L q.1).1), n)) (fun q => L.length - q.1) ⟨0, by omega⟩ ?_ ?_
  · refine Imp.id (by simp) ?_ ?_
    · simp only [go_sem, Nat.reduceBEq, Nat.reduceLT, Nat.reduceLeDiff, Nat.reduceAdd, Nat.reduceMul, Nat.reduceSub, Nat.reduceMod, Nat.reduceDiv, Nat.reduceEqDiff, Int.reduceToNat, reduceIte, reduceCtorEq, Int.reduceLE, Int.reduceLT, Int.reduceEq, Int.reduceNeg, Int.reduceAdd, Int.reduceSub, Int.reduceMul]
      exact ⟨hpn, hjn, hi⟩
    · have e : hset (hset h j (brS (strokeN S B L 0).2)) p (shS (strokeN S B L 0).1) = h := by
        simp only [strokeN]
        rw [hset_self hj, hset_self hp]
      rw [e]
      exact impH.base0 hok (by simp) HExt.rfl
  · rintro ⟨q, hq⟩
    have hO' := strokeN_ok hI hsm hO q hq
    generalize hSq : (strokeN S B L q).1 = Sq at *
    generalize hBq : (strokeN S B L q).2 = Bq at *
    simp only [go_sem, Nat.reduceBEq, Nat.reduceLT, Nat.reduceLeDiff, Nat.reduceAdd, Nat.reduceMul, Nat.reduceSub, Nat.reduceMod, Nat.reduceDiv, Nat.reduceEqDiff, Int.reduceToNat, reduceIte, reduceCtorEq, Int.reduceLE, Int.reduceLT, Int.reduceEq, Int.reduceNeg, Int.reduceAdd, Int.reduceSub, Int.reduceMul, decide_eq_true_eq, decide_eq_false_iff_not]
    refine ⟨fun h1 => ?_, fun h1 => ?_⟩
    · have r1 : (0 : Int) ≤ q ∧ (q : Int) < L.length := ⟨by omega, by omega⟩
      have b1 : q * 2 ≤ s.n - 2 := by omega
      have b3 : 2 ≤ s.n := by omega
      obtain ⟨x0, x8, y0, y8⟩ := hI.at hsm (q := q) (by omega)
      have hR := hO'.R; have hG := hO'.G; have hB := hO'.B
      simp only [hSq, hBq] at hR hG hB
      simp only [go_sem, Nat.reduceBEq, Nat.reduceLT, Nat.reduceLeDiff, Nat.reduceAdd, Nat.reduceMul, Nat.reduceSub, Nat.reduceMod, Nat.reduceDiv, Nat.reduceEqDiff, Int.reduceToNat, reduceIte, reduceCtorEq, Int.reduceLE, Int.reduceLT, Int.reduceEq, Int.reduceNeg, Int.reduceAdd, Int.reduceSub, Int.reduceMul, hs, hi, hpi, hji, r1, b1, b3, hL.x (j := q) (by omega), hL.y (j := q) (by omega)]
      refine ⟨by omega, callA_false (touch_E _ _ _ p Sq Bq _ _ (by simp only [go_sem, Nat.reduceBEq, Nat.reduceLT, Nat.reduceLeDiff, Nat.reduceAdd, Nat.reduceMul, Nat.reduceSub, Nat.reduceMod, Nat.reduceDiv, Nat.reduceEqDiff, Int.reduceToNat, reduceIte, reduceCtorEq, Int.reduceLE, Int.reduceLT, Int.reduceEq, Int.reduceNeg, Int.reduceAdd, Int.reduceSub, Int.reduceMul, hp, hpn, hpj, hjp, hj]) (by omega) hR hG hB x0 x8 y0 y8 j (by simp only [go_sem, Nat.reduceBEq, Nat.reduceLT, Nat.reduceLeDiff, Nat.reduceAdd, Nat.reduceMul, Nat.reduceSub, Nat.reduceMod, Nat.reduceDiv, Nat.reduceEqDiff, Int.reduceToNat, reduceIte, reduceCtorEq, Int.reduceLE, Int.reduceLT, Int.reduceEq, Int.reduceNeg, Int.reduceAdd, Int.reduceSub, Int.reduceMul, hj, hjn, hpj, hjp, hp]) (by omega) hpj _ ?_)⟩
      simp only [go_sem, Nat.reduceBEq, Nat.reduceLT, Nat.reduceLeDiff, Nat.reduceAdd, Nat.reduceMul, Nat.reduceSub, Nat.reduceMod, Nat.reduceDiv, Nat.reduceEqDiff, Int.reduceToNat, reduceIte, reduceCtorEq, Int.reduceLE, Int.reduceLT, Int.reduceEq, Int.reduceNeg, Int.reduceAdd, Int.reduceSub, Int.reduceMul, hpn, hjn, hpj, hjp]
      refine ⟨⟨q + 1, by omega⟩, by show L.length - (q + 1) < L.length - q; omega, ?_⟩
      refine Imp.id (by simp) ?_ ?_
      · simp only [go_sem, Nat.reduceBEq, Nat.reduceLT, Nat.reduceLeDiff, Nat.reduceAdd, Nat.reduceMul, Nat.reduceSub, Nat.reduceMod, Nat.reduceDiv, Nat.reduceEqDiff, Int.reduceToNat, reduceIte, reduceCtorEq, Int.reduceLE, Int.reduceLT, Int.reduceEq, Int.reduceNeg, Int.reduceAdd, Int.reduceSub, Int.reduceMul, w64 (n := (q : Int) + 1) (by omega), Int.natCast_add, Int.natCast_one]
        exact ⟨hpn, hjn, hi⟩
      · subst hSq hBq
        exact impH.base0 (hok' hok (strokeN S B L (q + 1)).1 (strokeN S B L (q + 1)).2) (by simp) (HExt.rfl.cons (Nat.le_refl n))
    · have hq' : q = L.length := by omega
      subst hq'
      rw [hSq, hBq]
      exact HExt.rfl
end
end Go.Proofs.Ytebpkdolmlloaaa.V

/- What StrokePath returns: both codes. -/
namespace Go.Proofs.Ytebpkdolmlloaaa.V

def br0 : Br := ⟨0, 0, 0, 0, 0⟩
@[go_sem high] theorem brC_br0 : brC br0 = cl [.int .i16 0, .int .i16 0, .int .i16 0, .int .i16 0, .int .i8 0] := rfl
open Classical in
/-- What StrokePath returns. -/
noncomputable def spR (S : Sh) (B : Br) (L : List (Int × Int)) : SV :=
  if Valid S ∧ BrV B then (if PathP S L then .tup 3 (cl [.agg 266 (shC (strokeN S B L L.length).1), .agg 5 (brC (strokeN S B L L.length).2), .int .i64 0])
    else .tup 3 (cl [.agg 266 (shC sh0), .agg 5 (brC br0), .int .i64 2])) else .tup 3 (cl [.agg 266 (shC sh0), .agg 5 (brC br0), .int .i64 1])
theorem spR_ok {S : Sh} {B : Br} {L : List (Int × Int)} (h : Valid S ∧ BrV B) (hP : PathP S L) : spR S B L = .tup 3 (cl [.agg 266 (shC (strokeN S B L L.length).1), .agg 5 (brC (strokeN S B L L.length).2), .int .i64 0]) := by
  unfold spR; rw [if_pos h, if_pos hP]
theorem spR_path {S : Sh} {B : Br} {L : List (Int × Int)} (h : Valid S ∧ BrV B) (hP : ¬ PathP S L) : spR S B L = .tup 3 (cl [.agg 266 (shC sh0), .agg 5 (brC br0), .int .i64 2]) := by
  unfold spR; rw [if_pos h, if_neg hP]
theorem spR_bad {S : Sh} {B : Br} {L : List (Int × Int)} (h : ¬ (Valid S ∧ BrV B)) : spR S B L = .tup 3 (cl [.agg 266 (shC sh0), .agg 5 (brC br0), .int .i64 1]) := by
  unfold spR; rw [if_neg h]
theorem tup3_lt (S : Sh) (B : Br) (k m : Nat) (z : Int) : (SV.tup 3 (cl [.agg 266 (shC S), .agg 5 (brC B), .int .i64 z])).lt m := by
  rw [lt_tup3]; exact ⟨shC_lt _ _, brC_lt _ _, trivial⟩
theorem spR_lt (S : Sh) (B : Br) (L : List (Int × Int)) (m : Nat) : (spR S B L).lt m := by
  unfold spR; (repeat' split) <;> exact tup3_lt _ _ 0 _ _
theorem Valid.ok {S : Sh} {B : Br} (hV : Valid S) (hb : BrV B) (hR : ShR S) : OkSB S (S, B) := ⟨hR, hV.good, hb, rfl, rfl, rfl⟩

section
variable (cx : Cx) (h : List (Nat × Seg)) (n : Nat)
variable (i cap : Nat) (L : List (Int × Int)) (s : Seg) (hs : hget h i = some s) (hi : i < n) (hL : SpsAt s L) (hm9 : L.length ≤ 1000000000) (S : Sh) (B : Br) (hR : ShR S) (hB : BrR B)
include hs hi hL hm9 hR hB in
theorem strokePath_Q : CallQ Try.prog cx 27 [.agg 266 (shC S), .agg 5 (brC B), .sl i 0 L.length cap] h n (spR S B L) := by
  refine callQ_of_T (P := Try.prog) hti (nt := 25) (rs := [.cell 6 32, .cell 7 45, .tmp 8]) rfl rfl Try.call27 Try.func27 rfl _ (by simp only [go_sem, and_self]) (Nat.le_of_ble_eq_true rfl) _ (spR_lt _ _ _ _) fun hok => ?_
  simp only [go_sem, Nat.reduceBEq, Nat.reduceLT, Nat.reduceLeDiff, Nat.reduceAdd, Nat.reduceMul, Nat.reduceSub, Nat.reduceMod, Nat.reduceDiv, Nat.reduceEqDiff, Int.reduceToNat, reduceIte, reduceCtorEq, Int.reduceLE, Int.reduceLT, Int.reduceEq, Int.reduceNeg, Int.reduceAdd, Int.reduceSub, Int.reduceMul]
  refine T_draw hti _ _ (by kernel_rfl) (by kernel_rfl) ?_
  simp only [go_sem, Nat.reduceBEq, Nat.reduceLT, Nat.reduceLeDiff, Nat.reduceAdd, Nat.reduceMul, Nat.reduceSub, Nat.reduceMod, Nat.reduceDiv, Nat.reduceEqDiff, Int.reduceToNat, reduceIte, reduceCtorEq, Int.reduceLE, Int.reduceLT, Int.reduceEq, Int.reduceNeg, Int.reduceAdd, Int.reduceSub, Int.reduceMul]
  refine (validPath_Q _ _ _ i cap L s (by simp only [go_sem, Nat.reduceBEq, Nat.reduceLT, Nat.reduceLeDiff, Nat.reduceAdd, Nat.reduceMul, Nat.reduceSub, Nat.reduceMod, Nat.reduceDiv, Nat.reduceEqDiff, Int.reduceToNat, reduceIte, reduceCtorEq, Int.reduceLE, Int.reduceLT, Int.reduceEq, Int.reduceNeg, Int.reduceAdd, Int.reduceSub, Int.reduceMul, hs, hi]) (by omega) hL hm9 S hR).A ?_
  simp only [go_sem, Nat.reduceBEq, Nat.reduceLT, Nat.reduceLeDiff, Nat.reduceAdd, Nat.reduceMul, Nat.reduceSub, Nat.reduceMod, Nat.reduceDiv, Nat.reduceEqDiff, Int.reduceToNat, reduceIte, reduceCtorEq, Int.reduceLE, Int.reduceLT, Int.reduceEq, Int.reduceNeg, Int.reduceAdd, Int.reduceSub, Int.reduceMul]
  refine (brushCode_Q _ _ _ S B _ hR hB).A ?_
  by_cases hv : Valid S ∧ BrV B
  · by_cases hP : PathP S L
    · rw [boolOf_t (show Valid S ∧ PathP S L from ⟨hv.1, hP⟩), bCode_ok hv, spR_ok hv hP]
      simp only [go_sem, Nat.reduceBEq, Nat.reduceLT, Nat.reduceLeDiff, Nat.reduceAdd, Nat.reduceMul, Nat.reduceSub, Nat.reduceMod, Nat.reduceDiv, Nat.reduceEqDiff, Int.reduceToNat, reduceIte, reduceCtorEq, Int.reduceLE, Int.reduceLT, Int.reduceEq, Int.reduceNeg, Int.reduceAdd, Int.reduceSub, Int.reduceMul]
      refine callA_false (stroke_E _ _ _ i cap L s (by simp only [go_sem, Nat.reduceBEq, Nat.reduceLT, Nat.reduceLeDiff, Nat.reduceAdd, Nat.reduceMul, Nat.reduceSub, Nat.reduceMod, Nat.reduceDiv, Nat.reduceEqDiff, Int.reduceToNat, reduceIte, reduceCtorEq, Int.reduceLE, Int.reduceLT, Int.reduceEq, Int.reduceNeg, Int.reduceAdd, Int.reduceSub, Int.reduceMul, hs, hi]) (by omega) hL hm9 n (n + 1) S B (by simp only [go_sem, Nat.reduceBEq, Nat.reduceLT, Nat.reduceLeDiff, Nat.reduceAdd, Nat.reduceMul, Nat.reduceSub, Nat.reduceMod, Nat.reduceDiv, Nat.reduceEqDiff, Int.reduceToNat, reduceIte, reduceCtorEq, Int.reduceLE, Int.reduceLT, Int.reduceEq, Int.reduceNeg, Int.reduceAdd, Int.reduceSub, Int.reduceMul]) (by omega) (by simp only [go_sem, Nat.reduceBEq, Nat.reduceLT, Nat.reduceLeDiff, Nat.reduceAdd, Nat.reduceMul, Nat.reduceSub, Nat.reduceMod, Nat.reduceDiv, Nat.reduceEqDiff, Int.reduceToNat, reduceIte, reduceCtorEq, Int.reduceLE, Int.reduceLT, Int.reduceEq, Int.reduceNeg, Int.reduceAdd, Int.reduceSub, Int.reduceMul]) (by omega) (by simp only [go_sem, Nat.reduceBEq, Nat.reduceLT, Nat.reduceLeDiff, Nat.reduceAdd, Nat.reduceMul, Nat.reduceSub, Nat.reduceMod, Nat.reduceDiv, Nat.reduceEqDiff, Int.reduceToNat, reduceIte, reduceCtorEq, Int.reduceLE, Int.reduceLT, Int.reduceEq, Int.reduceNeg, Int.reduceAdd, Int.reduceSub, Int.reduceMul]) (by simp only [go_sem, Nat.reduceBEq, Nat.reduceLT, Nat.reduceLeDiff, Nat.reduceAdd, Nat.reduceMul, Nat.reduceSub, Nat.reduceMod, Nat.reduceDiv, Nat.reduceEqDiff, Int.reduceToNat, reduceIte, reduceCtorEq, Int.reduceLE, Int.reduceLT, Int.reduceEq, Int.reduceNeg, Int.reduceAdd, Int.reduceSub, Int.reduceMul, hi]) (by simp only [go_sem, Nat.reduceBEq, Nat.reduceLT, Nat.reduceLeDiff, Nat.reduceAdd, Nat.reduceMul, Nat.reduceSub, Nat.reduceMod, Nat.reduceDiv, Nat.reduceEqDiff, Int.reduceToNat, reduceIte, reduceCtorEq, Int.reduceLE, Int.reduceLT, Int.reduceEq, Int.reduceNeg, Int.reduceAdd, Int.reduceSub, Int.reduceMul, hi]) (hv.1.ok hv.2 hR) hP.2.2 _ ?_)
      simp only [go_sem, Nat.reduceBEq, Nat.reduceLT, Nat.reduceLeDiff, Nat.reduceAdd, Nat.reduceMul, Nat.reduceSub, Nat.reduceMod, Nat.reduceDiv, Nat.reduceEqDiff, Int.reduceToNat, reduceIte, reduceCtorEq, Int.reduceLE, Int.reduceLT, Int.reduceEq, Int.reduceNeg, Int.reduceAdd, Int.reduceSub, Int.reduceMul]
      refine T_drawG hti 5 [2, 3] (.b 0 0 (.b 2 1 (.b 4 2 (.b 4 3 (.b 0 4 (.f) .o) .o) .o) (.b 4 2 (.b 2 1 (.b 4 3 (.b 0 4 (.f) .o) .o) .o) .o)) .o) _ _ (by kernel_rfl) (by kernel_rfl) ?_
      simp only [go_sem, Nat.reduceBEq, Nat.reduceLT, Nat.reduceLeDiff, Nat.reduceAdd, Nat.reduceMul, Nat.reduceSub, Nat.reduceMod, Nat.reduceDiv, Nat.reduceEqDiff, Int.reduceToNat, reduceIte, reduceCtorEq, Int.reduceLE, Int.reduceLT, Int.reduceEq, Int.reduceNeg, Int.reduceAdd, Int.reduceSub, Int.reduceMul]
    · rw [boolOf_f (show ¬ (Valid S ∧ PathP S L) from fun h => hP h.2), bCode_ok hv, spR_path hv hP]
      simp only [go_sem, Nat.reduceBEq, Nat.reduceLT, Nat.reduceLeDiff, Nat.reduceAdd, Nat.reduceMul, Nat.reduceSub, Nat.reduceMod, Nat.reduceDiv, Nat.reduceEqDiff, Int.reduceToNat, reduceIte, reduceCtorEq, Int.reduceLE, Int.reduceLT, Int.reduceEq, Int.reduceNeg, Int.reduceAdd, Int.reduceSub, Int.reduceMul]
  · rw [bCode_bad hv, spR_bad hv]
    simp only [go_sem, Nat.reduceBEq, Nat.reduceLT, Nat.reduceLeDiff, Nat.reduceAdd, Nat.reduceMul, Nat.reduceSub, Nat.reduceMod, Nat.reduceDiv, Nat.reduceEqDiff, Int.reduceToNat, reduceIte, reduceCtorEq, Int.reduceLE, Int.reduceLT, Int.reduceEq, Int.reduceNeg, Int.reduceAdd, Int.reduceSub, Int.reduceMul]
include hs hi hL hm9 in
theorem stroke2_Q (hO : OkSB S (S, B)) (hI : InP S L) : CallQ Try.prog cx 66 [.agg 266 (shC S), .agg 5 (brC B), .sl i 0 L.length cap] h n (.tup 2 (cl [.agg 266 (shC (strokeN S B L L.length).1), .agg 5 (brC (strokeN S B L L.length).2)])) := by
  have hn := hL.1
  have hsm := hO.G.small
  refine callQ_of_T (P := Try.prog) hti (nt := 22) (rs := [.cell 6 32, .cell 7 45]) rfl rfl Try.call66 Try.func66 rfl _ (by simp only [go_sem, and_self]) (Nat.le_of_ble_eq_true rfl) _ (by rw [lt_tup2]; exact ⟨shC_lt _ _, brC_lt _ _⟩) fun hok => ?_
  simp only [go_sem, Nat.reduceBEq, Nat.reduceLT, Nat.reduceLeDiff, Nat.reduceAdd, Nat.reduceMul, Nat.reduceSub, Nat.reduceMod, Nat.reduceDiv, Nat.reduceEqDiff, Int.reduceToNat, reduceIte, reduceCtorEq, Int.reduceLE, Int.reduceLT, Int.reduceEq, Int.reduceNeg, Int.reduceAdd, Int.reduceSub, Int.reduceMul]
  refine T_lp (ι := { q : Nat // q ≤ L.length })
    (fun q => ([(2, .sl i 0 L.length cap), (3, .ptr n 0), (4, .ptr (n + 1) 0), (6, .ptr (n + 2) 0), (7, .ptr (n + 3) 0), (8, .int .i64 q.1)], (n + 3, brS br0) :: (n + 2, shS sh0) :: (n + 1, brS (strokeN S B L q.1).2) :: (n, shS (strokeN S B L q.1).1) :: h, n + 4)) (fun q => L.length - q.1) ⟨0, by omega⟩ ?_ ?_
  · refine Imp.id (by simp) ?_ ?_
    · simp only [go_sem, Nat.reduceBEq, Nat.reduceLT, Nat.reduceLeDiff, Nat.reduceAdd, Nat.reduceMul, Nat.reduceSub, Nat.reduceMod, Nat.reduceDiv, Nat.reduceEqDiff, Int.reduceToNat, reduceIte, reduceCtorEq, Int.reduceLE, Int.reduceLT, Int.reduceEq, Int.reduceNeg, Int.reduceAdd, Int.reduceSub, Int.reduceMul]
      omega
    · (repeat (refine impH.cons0 (by first | (simp only [go_sem, Nat.reduceBEq, Nat.reduceLT, Nat.reduceLeDiff, Nat.reduceAdd, Nat.reduceMul, Nat.reduceSub, Nat.reduceMod, Nat.reduceDiv, Nat.reduceEqDiff, Int.reduceToNat, reduceIte, reduceCtorEq, Int.reduceLE, Int.reduceLT, Int.reduceEq, Int.reduceNeg, Int.reduceAdd, Int.reduceSub, Int.reduceMul]; done) | (simp only [go_sem, Nat.reduceBEq, Nat.reduceLT, Nat.reduceLeDiff, Nat.reduceAdd, Nat.reduceMul, Nat.reduceSub, Nat.reduceMod, Nat.reduceDiv, Nat.reduceEqDiff, Int.reduceToNat, reduceIte, reduceCtorEq, Int.reduceLE, Int.reduceLT, Int.reduceEq, Int.reduceNeg, Int.reduceAdd, Int.reduceSub, Int.reduceMul]; rfl)) (by simp) (SegLe.flat (Nat.le_refl _) id (.inr rfl) fun z hz => ⟨rfl, by first | exact shC_flat _ _ | exact brC_flat _ hz | exact pair_flat _ _ hz | exact cl_flat (l := [_, _, _, _, _]) (by simp [SV.flat]) hz | exact cl_flat (l := [_, _, _]) (by simp [SV.flat]) hz | trivial⟩) ?_)); exact impH.base0 hok (by simp) (by simp only [go_sem, Nat.reduceBEq, Nat.reduceLT, Nat.reduceLeDiff, Nat.reduceAdd, Nat.reduceMul, Nat.reduceSub, Nat.reduceMod, Nat.reduceDiv, Nat.reduceEqDiff, Int.reduceToNat, reduceIte, reduceCtorEq, Int.reduceLE, Int.reduceLT, Int.reduceEq, Int.reduceNeg, Int.reduceAdd, Int.reduceSub, Int.reduceMul, HExt_cons])
  · rintro ⟨q, hq⟩
    have hO' := strokeN_ok hI hsm hO q hq
    simp only [go_sem, Nat.reduceBEq, Nat.reduceLT, Nat.reduceLeDiff, Nat.reduceAdd, Nat.reduceMul, Nat.reduceSub, Nat.reduceMod, Nat.reduceDiv, Nat.reduceEqDiff, Int.reduceToNat, reduceIte, reduceCtorEq, Int.reduceLE, Int.reduceLT, Int.reduceEq, Int.reduceNeg, Int.reduceAdd, Int.reduceSub, Int.reduceMul, decide_eq_true_eq, decide_eq_false_iff_not]
    refine ⟨fun h1 => ?_, fun h1 => ?_⟩
    · have r1 : (0 : Int) ≤ q ∧ (q : Int) < L.length := ⟨by omega, by omega⟩
      have b1 : q * 2 ≤ s.n - 2 := by omega
      have b3 : 2 ≤ s.n := by omega
      obtain ⟨x0, x8, y0, y8⟩ := hI.at hsm (q := q) (by omega)
      simp only [go_sem, Nat.reduceBEq, Nat.reduceLT, Nat.reduceLeDiff, Nat.reduceAdd, Nat.reduceMul, Nat.reduceSub, Nat.reduceMod, Nat.reduceDiv, Nat.reduceEqDiff, Int.reduceToNat, reduceIte, reduceCtorEq, Int.reduceLE, Int.reduceLT, Int.reduceEq, Int.reduceNeg, Int.reduceAdd, Int.reduceSub, Int.reduceMul, hs, hi, r1, b1, b3, hL.x (j := q) (by omega), hL.y (j := q) (by omega)]
      refine ⟨by omega, callA_false (touch2_E _ _ _ n (n + 1) (strokeN S B L q).1 (strokeN S B L q).2 _ _ (by simp only [go_sem, Nat.reduceBEq, Nat.reduceLT, Nat.reduceLeDiff, Nat.reduceAdd, Nat.reduceMul, Nat.reduceSub, Nat.reduceMod, Nat.reduceDiv, Nat.reduceEqDiff, Int.reduceToNat, reduceIte, reduceCtorEq, Int.reduceLE, Int.reduceLT, Int.reduceEq, Int.reduceNeg, Int.reduceAdd, Int.reduceSub, Int.reduceMul]) (by omega) (by simp only [go_sem, Nat.reduceBEq, Nat.reduceLT, Nat.reduceLeDiff, Nat.reduceAdd, Nat.reduceMul, Nat.reduceSub, Nat.reduceMod, Nat.reduceDiv, Nat.reduceEqDiff, Int.reduceToNat, reduceIte, reduceCtorEq, Int.reduceLE, Int.reduceLT, Int.reduceEq, Int.reduceNeg, Int.reduceAdd, Int.reduceSub, Int.reduceMul]) (by omega) hO'.R hO'.G hO'.B x0 x8 y0 y8 (by simp only [go_sem, Nat.reduceBEq, Nat.reduceLT, Nat.reduceLeDiff, Nat.reduceAdd, Nat.reduceMul, Nat.reduceSub, Nat.reduceMod, Nat.reduceDiv, Nat.reduceEqDiff, Int.reduceToNat, reduceIte, reduceCtorEq, Int.reduceLE, Int.reduceLT, Int.reduceEq, Int.reduceNeg, Int.reduceAdd, Int.reduceSub, Int.reduceMul]) _ ?_)⟩
      simp only [go_sem, Nat.reduceBEq, Nat.reduceLT, Nat.reduceLeDiff, Nat.reduceAdd, Nat.reduceMul, Nat.reduceSub, Nat.reduceMod, Nat.reduceDiv, Nat.reduceEqDiff, Int.reduceToNat, reduceIte, reduceCtorEq, Int.reduceLE, Int.reduceLT, Int.reduceEq, Int.reduceNeg, Int.reduceAdd, Int.reduceSub, Int.reduceMul]
      refine ⟨⟨q + 1, by omega⟩, by show L.length - (q + 1) < L.length - q; omega, ?_⟩
      refine Imp.id (by simp) ?_ ?_
      · simp only [go_sem, Nat.reduceBEq, Nat.reduceLT, Nat.reduceLeDiff, Nat.reduceAdd, Nat.reduceMul, Nat.reduceSub, Nat.reduceMod, Nat.reduceDiv, Nat.reduceEqDiff, Int.reduceToNat, reduceIte, reduceCtorEq, Int.reduceLE, Int.reduceLT, Int.reduceEq, Int.reduceNeg, Int.reduceAdd, Int.reduceSub, Int.reduceMul, w64 (n := (q : Int) + 1) (by omega), Int.natCast_add, Int.natCast_one]
        omega
      · (repeat (refine impH.cons0 (by first | (simp only [go_sem, Nat.reduceBEq, Nat.reduceLT, Nat.reduceLeDiff, Nat.reduceAdd, Nat.reduceMul, Nat.reduceSub, Nat.reduceMod, Nat.reduceDiv, Nat.reduceEqDiff, Int.reduceToNat, reduceIte, reduceCtorEq, Int.reduceLE, Int.reduceLT, Int.reduceEq, Int.reduceNeg, Int.reduceAdd, Int.reduceSub, Int.reduceMul]; done) | (simp only [go_sem, Nat.reduceBEq, Nat.reduceLT, Nat.reduceLeDiff, Nat.reduceAdd, Nat.reduceMul, Nat.reduceSub, Nat.reduceMod, Nat.reduceDiv, Nat.reduceEqDiff, Int.reduceToNat, reduceIte, reduceCtorEq, Int.reduceLE, Int.reduceLT, Int.reduceEq, Int.reduceNeg, Int.reduceAdd, Int.reduceSub, Int.reduceMul]; rfl)) (by simp) (SegLe.flat (Nat.le_refl _) id (.inr rfl) fun z hz => ⟨rfl, by first | exact shC_flat _ _ | exact brC_flat _ hz | exact pair_flat _ _ hz | exact cl_flat (l := [_, _, _, _, _]) (by simp [SV.flat]) hz | exact cl_flat (l := [_, _, _]) (by simp [SV.flat]) hz | trivial⟩) ?_)); exact impH.base0 hok (by simp) (by simp only [go_sem, Nat.reduceBEq, Nat.reduceLT, Nat.reduceLeDiff, Nat.reduceAdd, Nat.reduceMul, Nat.reduceSub, Nat.reduceMod, Nat.reduceDiv, Nat.reduceEqDiff, Int.reduceToNat, reduceIte, reduceCtorEq, Int.reduceLE, Int.reduceLT, Int.reduceEq, Int.reduceNeg, Int.reduceAdd, Int.reduceSub, Int.reduceMul, HExt_cons])
    · have hq' : q = L.length := by omega
      subst hq'
      refine T_drawG hti 4 [2, 3] (.b 0 0 (.b 2 1 (.b 4 2 (.b 4 3 (.f) .o) .o) (.b 4 2 (.b 2 1 (.b 4 3 (.f) .o) .o) .o)) .o) _ _ (by kernel_rfl) (by kernel_rfl) ?_
      simp only [go_sem, Nat.reduceBEq, Nat.reduceLT, Nat.reduceLeDiff, Nat.reduceAdd, Nat.reduceMul, Nat.reduceSub, Nat.reduceMod, Nat.reduceDiv, Nat.reduceEqDiff, Int.reduceToNat, reduceIte, reduceCtorEq, Int.reduceLE, Int.reduceLT, Int.reduceEq, Int.reduceNeg, Int.reduceAdd, Int.reduceSub, Int.reduceMul]
include hs hi hL hm9 hR hB in
theorem strokePath2_Q (hLR : SpotsR L) : CallQ Try.prog cx 26 [.agg 266 (shC S), .agg 5 (brC B), .sl i 0 L.length cap] h n (spR S B L) := by
  refine callQ_of_T (P := Try.prog) hti (nt := 28) (rs := [.cell 6 32, .cell 7 45, .tmp 8]) rfl rfl Try.call26 Try.func26 rfl _ (by simp only [go_sem, and_self]) (Nat.le_of_ble_eq_true rfl) _ (spR_lt _ _ _ _) fun hok => ?_
  simp only [go_sem, Nat.reduceBEq, Nat.reduceLT, Nat.reduceLeDiff, Nat.reduceAdd, Nat.reduceMul, Nat.reduceSub, Nat.reduceMod, Nat.reduceDiv, Nat.reduceEqDiff, Int.reduceToNat, reduceIte, reduceCtorEq, Int.reduceLE, Int.reduceLT, Int.reduceEq, Int.reduceNeg, Int.reduceAdd, Int.reduceSub, Int.reduceMul]
  refine (along_Q _ _ _ i cap L s (by simp only [go_sem, Nat.reduceBEq, Nat.reduceLT, Nat.reduceLeDiff, Nat.reduceAdd, Nat.reduceMul, Nat.reduceSub, Nat.reduceMod, Nat.reduceDiv, Nat.reduceEqDiff, Int.reduceToNat, reduceIte, reduceCtorEq, Int.reduceLE, Int.reduceLT, Int.reduceEq, Int.reduceNeg, Int.reduceAdd, Int.reduceSub, Int.reduceMul, hs, hi]) (by omega) hL hm9 n (n + 1) S B (by simp only [go_sem, Nat.reduceBEq, Nat.reduceLT, Nat.reduceLeDiff, Nat.reduceAdd, Nat.reduceMul, Nat.reduceSub, Nat.reduceMod, Nat.reduceDiv, Nat.reduceEqDiff, Int.reduceToNat, reduceIte, reduceCtorEq, Int.reduceLE, Int.reduceLT, Int.reduceEq, Int.reduceNeg, Int.reduceAdd, Int.reduceSub, Int.reduceMul]) (by omega) (by simp only [go_sem, Nat.reduceBEq, Nat.reduceLT, Nat.reduceLeDiff, Nat.reduceAdd, Nat.reduceMul, Nat.reduceSub, Nat.reduceMod, Nat.reduceDiv, Nat.reduceEqDiff, Int.reduceToNat, reduceIte, reduceCtorEq, Int.reduceLE, Int.reduceLT, Int.reduceEq, Int.reduceNeg, Int.reduceAdd, Int.reduceSub, Int.reduceMul]) (by omega) hR hB hLR).A ?_
  by_cases hv : Valid S ∧ BrV B
  · by_cases hP : PathP S L
    · rw [boolOf_t (show Valid S ∧ PathP S L from ⟨hv.1, hP⟩), bCode_ok hv, spR_ok hv hP]
      simp only [go_sem, Nat.reduceBEq, Nat.reduceLT, Nat.reduceLeDiff, Nat.reduceAdd, Nat.reduceMul, Nat.reduceSub, Nat.reduceMod, Nat.reduceDiv, Nat.reduceEqDiff, Int.reduceToNat, reduceIte, reduceCtorEq, Int.reduceLE, Int.reduceLT, Int.reduceEq, Int.reduceNeg, Int.reduceAdd, Int.reduceSub, Int.reduceMul]
      refine (stroke2_Q _ _ _ i cap L s (by simp only [go_sem, Nat.reduceBEq, Nat.reduceLT, Nat.reduceLeDiff, Nat.reduceAdd, Nat.reduceMul, Nat.reduceSub, Nat.reduceMod, Nat.reduceDiv, Nat.reduceEqDiff, Int.reduceToNat, reduceIte, reduceCtorEq, Int.reduceLE, Int.reduceLT, Int.reduceEq, Int.reduceNeg, Int.reduceAdd, Int.reduceSub, Int.reduceMul, hs, hi]) (by omega) hL hm9 S B (hv.1.ok hv.2 hR) hP.2.2).A ?_
      simp only [go_sem, Nat.reduceBEq, Nat.reduceLT, Nat.reduceLeDiff, Nat.reduceAdd, Nat.reduceMul, Nat.reduceSub, Nat.reduceMod, Nat.reduceDiv, Nat.reduceEqDiff, Int.reduceToNat, reduceIte, reduceCtorEq, Int.reduceLE, Int.reduceLT, Int.reduceEq, Int.reduceNeg, Int.reduceAdd, Int.reduceSub, Int.reduceMul]
      refine T_drawG hti 5 [2, 3] (.b 0 0 (.b 2 1 (.b 4 2 (.b 4 3 (.b 0 4 (.f) .o) .o) .o) (.b 4 2 (.b 2 1 (.b 4 3 (.b 0 4 (.f) .o) .o) .o) .o)) .o) _ _ (by kernel_rfl) (by kernel_rfl) ?_
      simp only [go_sem, Nat.reduceBEq, Nat.reduceLT, Nat.reduceLeDiff, Nat.reduceAdd, Nat.reduceMul, Nat.reduceSub, Nat.reduceMod, Nat.reduceDiv, Nat.reduceEqDiff, Int.reduceToNat, reduceIte, reduceCtorEq, Int.reduceLE, Int.reduceLT, Int.reduceEq, Int.reduceNeg, Int.reduceAdd, Int.reduceSub, Int.reduceMul]
    · rw [boolOf_f (show ¬ (Valid S ∧ PathP S L) from fun h => hP h.2), bCode_ok hv, spR_path hv hP]
      simp only [go_sem, Nat.reduceBEq, Nat.reduceLT, Nat.reduceLeDiff, Nat.reduceAdd, Nat.reduceMul, Nat.reduceSub, Nat.reduceMod, Nat.reduceDiv, Nat.reduceEqDiff, Int.reduceToNat, reduceIte, reduceCtorEq, Int.reduceLE, Int.reduceLT, Int.reduceEq, Int.reduceNeg, Int.reduceAdd, Int.reduceSub, Int.reduceMul]
  · rw [bCode_bad hv, spR_bad hv]
    simp only [go_sem, Nat.reduceBEq, Nat.reduceLT, Nat.reduceLeDiff, Nat.reduceAdd, Nat.reduceMul, Nat.reduceSub, Nat.reduceMod, Nat.reduceDiv, Nat.reduceEqDiff, Int.reduceToNat, reduceIte, reduceCtorEq, Int.reduceLE, Int.reduceLT, Int.reduceEq, Int.reduceNeg, Int.reduceAdd, Int.reduceSub, Int.reduceMul]
end
end Go.Proofs.Ytebpkdolmlloaaa.V
