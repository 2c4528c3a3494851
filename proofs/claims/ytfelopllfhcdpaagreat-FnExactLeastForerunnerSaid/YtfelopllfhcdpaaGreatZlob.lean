/- Part 2 of the texts that this proof stands on: a symbolic walk over the program, what its functions and the reference's do, plain laws. -/
import Derived.Test.YtfelopllfhcdpaaGreatZloa
import Derived.Test.YtfelopllfhcdpaaGreatV16
import Derived.Test.YtfelopllfhcdpaaGreatV14
set_option linter.all false

/- The law's copy of three numbers: the walk. -/
namespace Go.Proofs.YtfelopllfhcdpaaGreat.V
section
variable (cx : Cx) (h : List (Nat × Seg)) (n : Nat)
theorem toInt16A3_Q (a b d : Int) : CallQ Tryz.prog cx 94 [.agg 3 (cl [.int .i16 a, .int .i16 b, .int .i16 d])] h n (.agg 3 (cl [.int .i16 a, .int .i16 b, .int .i16 d])) := by
  refine callQ_of_T (P := Tryz.prog) hti (nt := 15) (rs := [.cell 2 26]) rfl rfl Tryz.call94 Tryz.func94 rfl _ (by simp only [go_sem, and_self]) (Nat.le_of_ble_eq_true rfl) _ (by first | exact trivial | (refine lt_flat rfl ?_; simp [SV.flat]; done) | simp only [go_sem]) fun hok => ?_
  simp only [go_sem, Nat.reduceLT, Nat.reduceEqDiff, reduceIte]
  refine T_unroll 3 ?_
  simp only [go_sem, Nat.reduceLT, Nat.reduceLeDiff, Nat.reduceEqDiff, Int.reduceToNat, reduceIte, Int.reduceLE, Int.reduceLT, Int.reduceNeg, Int.reduceAdd]
  refine U_step ?_
  simp only [go_sem, Nat.reduceLT, Nat.reduceLeDiff, Nat.reduceEqDiff, Int.reduceToNat, reduceIte, reduceCtorEq, Int.reduceLE, Int.reduceLT, Int.reduceNeg, Int.reduceAdd]
  refine U_step ?_
  simp only [go_sem, Nat.reduceLT, Nat.reduceEqDiff, Int.reduceToNat, reduceIte, reduceCtorEq, Int.reduceLE, Int.reduceLT, Int.reduceNeg, Int.reduceAdd]
  refine U_step ?_
  simp only [go_sem, Nat.reduceLT, reduceIte, Int.reduceLT]
end
end Go.Proofs.YtfelopllfhcdpaaGreat.V

/- The law's copies of arrays of three numbers: the walk. -/
namespace Go.Proofs.YtfelopllfhcdpaaGreat.V
section
variable (cx : Cx) (h : List (Nat × Seg)) (n : Nat)

theorem toInt16A3A8_E (F : Nat → SV) (hF : ∀ j, j < 24 → ∃ v, F j = .int .i16 v) (K : HK) (hK : ∀ F', (∀ j, j < 24 → F' j = F j) → K (.agg 24 F') h n) : CallE Tryz.prog cx 69 [.agg 24 F] h n K := by
  have hfl : Flat 24 F := fun j hj => by obtain ⟨v, hv⟩ := hF j hj; rw [hv]; trivial
  refine CallE.imp0 (K := fun r h' n' => n ≤ n' ∧ HExt n h h' ∧ ∃ F', (∀ j, j < 24 → F' j = F j) ∧ r = .agg 24 F') ?_ ?_
  rotate_left
  · rintro hok r h' n' ⟨h0, hx, F', hF', rfl⟩
    exact ⟨.agg 24 F', h, n, Nat.le_refl _, by simp only [ren_nil], lt_aggF fun j hj => by rw [hF' j hj]; exact hfl j hj, impH.base0 hok (Nat.le_refl n) hx, hK F' hF'⟩
  refine callE_of_T (P := Tryz.prog) hti (nt := 16) (rs := [.cell 2 27]) rfl rfl Tryz.call69 Tryz.func69 rfl _ (by simp only [go_sem, and_self]) (Nat.le_of_ble_eq_true rfl) _ fun hok => ?_
  simp only [go_sem, Nat.reduceLT, Nat.reduceEqDiff, reduceIte]
  refine T_lp (ι := { q : Nat × (Nat → SV) // q.1 ≤ 8 ∧ (∀ j, j < q.1 * 3 → q.2 j = F j) ∧ Flat 24 q.2 })
    (fun q => ([(1, .ptr n 0), (2, .ptr (n + 1) 0), (3, .ptr (n + 2) 0), (4, .int .i64 q.1.1)], (n + 2, ⟨24, q.1.2, true, none⟩) :: (n + 1, ⟨24, (ti 27).z, true, none⟩) :: (n, ⟨24, F, true, none⟩) :: h, n + 3)) (fun q => 8 - q.1.1) ⟨(0, (ti 27).z), by omega, fun _ hj => by omega, fun _ _ => trivial⟩ ?_ ?_
  · refine Imp.id (by simp) ?_ ?_
    · simp only [go_sem, Nat.reduceLT]
      omega
    · exact impH.cons0 (hget_hit _ _ _) (by simp) (SegLe.flat (Nat.le_refl _) id (.inr rfl) fun z hz => ⟨rfl, trivial⟩) (impH.cons0 ((hget_miss _ _ _ _ (by simp)).trans (hget_hit _ _ _)) (by simp) (SegLe.flat (Nat.le_refl _) id (.inr rfl) fun z hz => ⟨rfl, trivial⟩)
        (impH.cons0 (by simp only [go_sem]) (by simp) (SegLe.flat (Nat.le_refl _) id (.inr rfl) fun z hz => ⟨rfl, hfl z hz⟩) (impH.base0 hok (by simp) (((HExt.rfl.cons (Nat.le_refl n)).cons (by simp)).cons (by simp)))))
  · rintro ⟨⟨k, c⟩, hk, hc, hcf⟩
    simp only at hk hc hcf
    simp only [go_sem, Nat.reduceLT, Nat.reduceLeDiff, reduceIte, decide_eq_true_eq, decide_eq_false_iff_not]
    refine ⟨fun h1 => ⟨⟨by omega, h1⟩, by omega, ?_⟩, fun h1 => ?_⟩
    · have hkr : (0 : Int) ≤ k ∧ (k : Int) < 8 := ⟨by omega, h1⟩
      obtain ⟨a0, e0⟩ := hF (k * 3) (by omega)
      obtain ⟨a1, e1⟩ := hF (k * 3 + 1) (by omega)
      obtain ⟨a2, e2⟩ := hF (k * 3 + 2) (by omega)
      rw [e0, e1, e2]
      refine (toInt16A3_Q _ _ _ a0 a1 a2).A ?_
      simp only [go_sem, Nat.reduceLT, Nat.reduceLeDiff, Nat.reduceEqDiff, reduceIte, hkr]
      have hfl' : Flat 3 (cl [SV.int .i16 a0, SV.int .i16 a1, SV.int .i16 a2]) := fun j hj => cl_flat (l := [_, _, _]) (by simp [SV.flat]) hj
      have hF' : ∀ j, j < 3 → cl [SV.int .i16 a0, SV.int .i16 a1, SV.int .i16 a2] j = F (k * 3 + j) := by
        intro j hj
        rcases (by omega : j = 0 ∨ j = 1 ∨ j = 2) with rfl | rfl | rfl
        · exact e0.symm
        · exact e1.symm
        · exact e2.symm
      generalize cl [SV.int .i16 a0, SV.int .i16 a1, SV.int .i16 a2] = F' at *
      have hput : ∀ j, j < 24 → (if k * 3 ≤ j ∧ j < k * 3 + 3 then F' (j - k * 3) else c j).flat := fun j hj => by
        split
        · rename_i h; exact hfl' _ (by omega)
        · exact hcf j hj
      refine ⟨by omega, ⟨(k + 1, fun j => if k * 3 ≤ j ∧ j < k * 3 + 3 then F' (j - k * 3) else c j), by omega, fun j hj => ?_, hput⟩, by show 8 - (k + 1) < 8 - k; omega, ?_⟩
      · have hj : j < (k + 1) * 3 := hj
        show (if k * 3 ≤ j ∧ j < k * 3 + 3 then F' (j - k * 3) else c j) = F j
        split
        · rename_i h; rw [hF' _ (by omega), show k * 3 + (j - k * 3) = j by omega]
        · exact hc j (by omega)
      · refine Imp.id (by simp) ?_ ?_
        · simp only [go_sem, Nat.reduceLT, w64 (n := (k : Int) + 1) (by omega), Int.natCast_add, Int.natCast_one]
          omega
        · exact impH.cons0 (hget_hit _ _ _) (by simp) (SegLe.flat (Nat.le_refl _) id (.inr rfl) fun z hz => ⟨rfl, hput z hz⟩) (impH.cons0 ((hget_miss _ _ _ _ (by simp)).trans (hget_hit _ _ _)) (by simp) (SegLe.flat (Nat.le_refl _) id (.inr rfl) fun z hz => ⟨rfl, trivial⟩)
            (impH.cons0 (by simp only [go_sem]) (by simp) (SegLe.flat (Nat.le_refl _) id (.inr rfl) fun z hz => ⟨rfl, hfl z hz⟩) (impH.base0 hok (by simp) (((HExt.rfl.cons (Nat.le_refl n)).cons (by simp)).cons (by simp)))))
    · have hk8 : k = 8 := by omega
      subst hk8
      have hone : ones (.agg 24 fun j => c j) = True := hcf.ones
      simp only [go_sem, hone]
      exact ⟨c, hc, rfl⟩

theorem toInt16A3A8A8_E (F : Nat → SV) (hF : ∀ j, j < 192 → ∃ v, F j = .int .i16 v) (K : HK) (hK : ∀ F', (∀ j, j < 192 → F' j = F j) → K (.agg 192 F') h n) : CallE Tryz.prog cx 39 [.agg 192 F] h n K := by
  have hfl : Flat 192 F := fun j hj => by obtain ⟨v, hv⟩ := hF j hj; rw [hv]; trivial
  refine CallE.imp0 (K := fun r h' n' => n ≤ n' ∧ HExt n h h' ∧ ∃ F', (∀ j, j < 192 → F' j = F j) ∧ r = .agg 192 F') ?_ ?_
  rotate_left
  · rintro hok r h' n' ⟨h0, hx, F', hF', rfl⟩
    exact ⟨.agg 192 F', h, n, Nat.le_refl _, by simp only [ren_nil], lt_aggF fun j hj => by rw [hF' j hj]; exact hfl j hj, impH.base0 hok (Nat.le_refl n) hx, hK F' hF'⟩
  refine callE_of_T (P := Tryz.prog) hti (nt := 16) (rs := [.cell 2 28]) rfl rfl Tryz.call39 Tryz.func39 rfl _ (by simp only [go_sem, and_self]) (Nat.le_of_ble_eq_true rfl) _ fun hok => ?_
  simp only [go_sem, Nat.reduceLT, Nat.reduceEqDiff, reduceIte]
  refine T_lp (ι := { q : Nat × (Nat → SV) // q.1 ≤ 8 ∧ (∀ j, j < q.1 * 24 → q.2 j = F j) ∧ Flat 192 q.2 })
    (fun q => ([(1, .ptr n 0), (2, .ptr (n + 1) 0), (3, .ptr (n + 2) 0), (4, .int .i64 q.1.1)], (n + 2, ⟨192, q.1.2, true, none⟩) :: (n + 1, ⟨192, (ti 28).z, true, none⟩) :: (n, ⟨192, F, true, none⟩) :: h, n + 3)) (fun q => 8 - q.1.1) ⟨(0, (ti 28).z), by omega, fun _ hj => by omega, fun _ _ => trivial⟩ ?_ ?_
  · refine Imp.id (by simp) ?_ ?_
    · simp only [go_sem, Nat.reduceLT]
      omega
    · exact impH.cons0 (hget_hit _ _ _) (by simp) (SegLe.flat (Nat.le_refl _) id (.inr rfl) fun z hz => ⟨rfl, trivial⟩) (impH.cons0 ((hget_miss _ _ _ _ (by simp)).trans (hget_hit _ _ _)) (by simp) (SegLe.flat (Nat.le_refl _) id (.inr rfl) fun z hz => ⟨rfl, trivial⟩)
        (impH.cons0 (by simp only [go_sem]) (by simp) (SegLe.flat (Nat.le_refl _) id (.inr rfl) fun z hz => ⟨rfl, hfl z hz⟩) (impH.base0 hok (by simp) (((HExt.rfl.cons (Nat.le_refl n)).cons (by simp)).cons (by simp)))))
  · rintro ⟨⟨k, c⟩, hk, hc, hcf⟩
    simp only at hk hc hcf
    simp only [go_sem, Nat.reduceLT, Nat.reduceLeDiff, reduceIte, decide_eq_true_eq, decide_eq_false_iff_not]
    refine ⟨fun h1 => ⟨⟨by omega, h1⟩, by omega, ?_⟩, fun h1 => ?_⟩
    · have hkr : (0 : Int) ≤ k ∧ (k : Int) < 8 := ⟨by omega, h1⟩
      refine callA_false (toInt16A3A8_E _ _ _ (fun j => F (k * 24 + j)) (fun j hj => hF (k * 24 + j) (by omega)) _ fun F' hF' => ?_)
      have hfl' : Flat 24 F' := fun j hj => by rw [hF' j hj]; exact hfl _ (by omega)
      simp only [go_sem, Nat.reduceLT, Nat.reduceLeDiff, Nat.reduceEqDiff, reduceIte, hkr, hfl'.ones]
      have hput : ∀ j, j < 192 → (if k * 24 ≤ j ∧ j < k * 24 + 24 then F' (j - k * 24) else c j).flat := fun j hj => by
        split
        · rename_i h; exact hfl' _ (by omega)
        · exact hcf j hj
      refine ⟨by omega, ⟨(k + 1, fun j => if k * 24 ≤ j ∧ j < k * 24 + 24 then F' (j - k * 24) else c j), by omega, fun j hj => ?_, hput⟩, by show 8 - (k + 1) < 8 - k; omega, ?_⟩
      · have hj : j < (k + 1) * 24 := hj
        show (if k * 24 ≤ j ∧ j < k * 24 + 24 then F' (j - k * 24) else c j) = F j
        split
        · rename_i h; rw [hF' _ (by omega), show k * 24 + (j - k * 24) = j by omega]
        · exact hc j (by omega)
      · refine Imp.id (by simp) ?_ ?_
        · simp only [go_sem, Nat.reduceLT, w64 (n := (k : Int) + 1) (by omega), Int.natCast_add, Int.natCast_one]
          omega
        · exact impH.cons0 (hget_hit _ _ _) (by simp) (SegLe.flat (Nat.le_refl _) id (.inr rfl) fun z hz => ⟨rfl, hput z hz⟩) (impH.cons0 ((hget_miss _ _ _ _ (by simp)).trans (hget_hit _ _ _)) (by simp) (SegLe.flat (Nat.le_refl _) id (.inr rfl) fun z hz => ⟨rfl, trivial⟩)
            (impH.cons0 (by simp only [go_sem]) (by simp) (SegLe.flat (Nat.le_refl _) id (.inr rfl) fun z hz => ⟨rfl, hfl z hz⟩) (impH.base0 hok (by simp) (((HExt.rfl.cons (Nat.le_refl n)).cons (by simp)).cons (by simp)))))
    · have hk8 : k = 8 := by omega
      subst hk8
      have hone : ones (.agg 192 fun j => c j) = True := hcf.ones
      simp only [go_sem, hone]
      exact ⟨c, hc, rfl⟩

end
end Go.Proofs.YtfelopllfhcdpaaGreat.V

/- The law's copy of a sheet: the walk. -/
namespace Go.Proofs.YtfelopllfhcdpaaGreat.V
theorem ShF.congr {F F' : Nat → SV} {S : Sh} (h : ShF F S) (he : ∀ j, j < 266 → F' j = F j) : ShF F' S :=
  ⟨h.R, (he 0 (by omega)).trans h.wide, (he 1 (by omega)).trans h.high, fun y x a b c d => (he _ (by omega)).trans (h.wet y x a b c d), fun y x i a b c d e f => (he _ (by omega)).trans (h.dye y x i a b c d e f), fun y a b => (he _ (by omega)).trans (h.wax y a b)⟩
theorem ShF.wetC {F : Nat → SV} {S : Sh} (h : ShF F S) (j : Nat) (hj : j < 64) : ∃ v, F (2 + j) = .int .i16 v := by
  have := h.wet ((j / 8 : Nat) : Int) ((j % 8 : Nat) : Int) (by omega) (by omega) (by omega) (by omega)
  simp only [Int.toNat_natCast] at this
  exact ⟨_, by rw [show 2 + j = 2 + j / 8 * 8 + j % 8 by omega]; exact this⟩
theorem ShF.dyeC {F : Nat → SV} {S : Sh} (h : ShF F S) (j : Nat) (hj : j < 192) : ∃ v, F (66 + j) = .int .i16 v := by
  have := h.dye ((j / 24 : Nat) : Int) ((j % 24 / 3 : Nat) : Int) ((j % 3 : Nat) : Int) (by omega) (by omega) (by omega) (by omega) (by omega) (by omega)
  simp only [Int.toNat_natCast] at this
  exact ⟨_, by rw [show 66 + j = 66 + j / 24 * 24 + j % 24 / 3 * 3 + j % 3 by omega]; exact this⟩
theorem ShF.waxC {F : Nat → SV} {S : Sh} (h : ShF F S) (j : Nat) (hj : j < 8) : ∃ v, F (258 + j) = .int .u8 v := by
  have := h.wax (j : Int) (by omega) (by omega)
  simp only [Int.toNat_natCast] at this
  exact ⟨_, this⟩
def sh0 : Sh := ⟨0, 0, fun _ _ => 0, fun _ _ _ => 0, fun _ => 0⟩
theorem ShF.zero {F : Nat → SV} (h : ∀ j, F j = zeroC j) : ShF F sh0 where
  R := ⟨by simp [sh0], by simp [sh0], fun y x => by simp [sh0], fun y x i => by simp [sh0], fun y => by simp [sh0]⟩
  wide := h 0
  high := h 1
  wet := fun y x a b c d => by rw [h]; unfold zeroC; rw [if_neg (by omega), if_pos (by omega)]; rfl
  dye := fun y x i a b c d e f => by rw [h]; unfold zeroC; rw [if_neg (by omega), if_pos (by omega)]; rfl
  wax := fun y a b => by rw [h]; unfold zeroC; rw [if_neg (by omega), if_neg (by omega)]; rfl
section
variable (cx : Cx) (h : List (Nat × Seg)) (n : Nat)
theorem toSheet_E (F : Nat → SV) (S : Sh) (hF : ShF F S) (K : HK) (hK : ∀ F', ShF F' S → K (.agg 266 F') h n) : CallE Tryz.prog cx 8 [.agg 266 F] h n K := by
  refine CallE.imp0 (K := fun r h' n' => n ≤ n' ∧ HExt n h h' ∧ ∃ F', ShF F' S ∧ r = .agg 266 F') ?_ ?_
  rotate_left
  · rintro hok r h' n' ⟨h0, hx, F', hF', rfl⟩
    exact ⟨.agg 266 F', h, n, Nat.le_refl _, by simp only [ren_nil], lt_aggF fun j hj => hF'.flat hj, impH.base0 hok (Nat.le_refl n) hx, hK F' hF'⟩
  refine callE_of_T (P := Tryz.prog) hti (nt := 23) (rs := [.cell 2 37]) rfl rfl Tryz.call8 Tryz.func8 rfl _ (by simp only [go_sem, and_self]) (Nat.le_of_ble_eq_true rfl) _ fun hok => ?_
  simp only [go_sem, Nat.reduceLT, Nat.reduceLeDiff, Nat.reduceAdd, Nat.reduceEqDiff, reduceIte, reduceCtorEq, hF.wide, hF.high]
  refine callA_false (toInt16A8A8_E _ _ _ (fun j => F (2 + j)) (fun j hj => hF.wetC j hj) _ fun F1 hF1 => ?_)
  have f1 : Flat 64 F1 := fun j hj => by rw [hF1 j hj]; obtain ⟨v, hv⟩ := hF.wetC j hj; rw [hv]; trivial
  simp only [go_sem, Nat.reduceLT, Nat.reduceLeDiff, Nat.reduceAdd, Nat.reduceEqDiff, reduceIte, reduceCtorEq, f1.ones]
  refine callA_false (toInt16A3A8A8_E _ _ _ (fun j => F (66 + j)) (fun j hj => hF.dyeC j hj) _ fun F2 hF2 => ?_)
  have f2 : Flat 192 F2 := fun j hj => by rw [hF2 j hj]; obtain ⟨v, hv⟩ := hF.dyeC j hj; rw [hv]; trivial
  simp only [go_sem, Nat.reduceLT, Nat.reduceLeDiff, Nat.reduceAdd, Nat.reduceEqDiff, reduceIte, reduceCtorEq, f2.ones]
  refine callA_false (toByteA8_E _ _ _ (fun j => F (258 + j)) (fun j hj => hF.waxC j hj) _ fun F3 hF3 => ?_)
  have f3 : Flat 8 F3 := fun j hj => by rw [hF3 j hj]; obtain ⟨v, hv⟩ := hF.waxC j hj; rw [hv]; trivial
  simp only [go_sem, Nat.reduceLT, Nat.reduceAdd, Nat.reduceEqDiff, reduceIte, reduceCtorEq, f3.ones]
  have hR : ShF (fun j => if 258 ≤ j ∧ j < 266 then F3 (j - 258) else if 66 ≤ j ∧ j < 258 then F2 (j - 66) else if 2 ≤ j ∧ j < 66 then F1 (j - 2) else upd (upd zz_873988 0 (.int .i8 S.wide)) 1 (.int .i8 S.high) j) S := by
    refine hF.congr fun j hj => ?_
    by_cases c1 : 258 ≤ j
    · rw [if_pos ⟨c1, hj⟩, hF3 _ (by omega), show 258 + (j - 258) = j by omega]
    rw [if_neg (by omega)]
    by_cases c2 : 66 ≤ j
    · rw [if_pos ⟨c2, by omega⟩, hF2 _ (by omega), show 66 + (j - 66) = j by omega]
    rw [if_neg (by omega)]
    by_cases c3 : 2 ≤ j
    · rw [if_pos ⟨c3, by omega⟩, hF1 _ (by omega), show 2 + (j - 2) = j by omega]
    rw [if_neg (by omega)]
    rcases (by omega : j = 0 ∨ j = 1) with rfl | rfl
    · rw [hF.wide]; rfl
    · rw [hF.high]; rfl
  exact ⟨of_eq_true hR.ones, _, hR, rfl⟩
end
end Go.Proofs.YtfelopllfhcdpaaGreat.V

/- Sheets told by their numbers alone: canonical cells, loads, stores. -/
namespace Go.Proofs.YtfelopllfhcdpaaGreat.V

def shC (S : Sh) : Nat → SV := fun j =>
  if j < 2 then (if j < 1 then .int .i8 S.wide else .int .i8 S.high)
  else if j < 258 then (if j < 66 then .int .i16 (S.wet (((j - 2) / 8 : Nat) : Int) (((j - 2) % 8 : Nat) : Int)) else .int .i16 (S.dye (((j - 66) / 24 : Nat) : Int) (((j - 66) % 24 / 3 : Nat) : Int) (((j - 66) % 3 : Nat) : Int)))
  else .int .u8 (S.wax ((j - 258 : Nat) : Int))
def shS (S : Sh) : Seg := ⟨266, shC S, true, none⟩
@[go_sem] theorem shS_eq (S : Sh) : shS S = ⟨266, shC S, true, none⟩ := rfl
theorem shC_flat (S : Sh) (j : Nat) : (shC S j).flat := by unfold shC; (repeat' split) <;> trivial
@[go_sem] theorem shC_ones (S : Sh) : ones (.agg 266 (shC S)) = True := eq_true fun j hj => (shC_flat S j).one
@[go_sem] theorem shC_ones' (S : Sh) : ones (.agg 266 fun j => shC S j) = True := shC_ones S
@[go_sem] theorem shC_0 (S : Sh) : shC S 0 = .int .i8 S.wide := rfl
@[go_sem] theorem shC_1 (S : Sh) : shC S 1 = .int .i8 S.high := rfl
section
variable (S : Sh) (y x i v : Int)
theorem nat_of (h1 : 0 ≤ y) : ((y.toNat : Nat) : Int) = y := Int.toNat_of_nonneg h1
@[go_sem] theorem shC_wet (h1 : 0 ≤ y) (h2 : y < 8) (h3 : 0 ≤ x) (h4 : x < 8) : shC S (2 + y.toNat * 8 + x.toNat) = .int .i16 (S.wet y x) := by
  unfold shC
  rw [if_neg (by omega), if_pos (by omega), if_pos (by omega), show (2 + y.toNat * 8 + x.toNat - 2) / 8 = y.toNat by omega, show (2 + y.toNat * 8 + x.toNat - 2) % 8 = x.toNat by omega, nat_of _ h1, nat_of _ h3]
theorem shC_dyeN (k : Nat) (h1 : 0 ≤ y) (h2 : y < 8) (h3 : 0 ≤ x) (h4 : x < 8) (h5 : k < 3) : shC S (66 + y.toNat * 24 + x.toNat * 3 + k) = .int .i16 (S.dye y x k) := by
  unfold shC
  rw [if_neg (by omega), if_pos (by omega), if_neg (by omega), show (66 + y.toNat * 24 + x.toNat * 3 + k - 66) / 24 = y.toNat by omega, show (66 + y.toNat * 24 + x.toNat * 3 + k - 66) % 24 / 3 = x.toNat by omega,
    show (66 + y.toNat * 24 + x.toNat * 3 + k - 66) % 3 = k by omega, nat_of _ h1, nat_of _ h3]
@[go_sem] theorem shC_dye0 (h1 : 0 ≤ y) (h2 : y < 8) (h3 : 0 ≤ x) (h4 : x < 8) : shC S (66 + y.toNat * 24 + x.toNat * 3) = .int .i16 (S.dye y x 0) := shC_dyeN S y x 0 h1 h2 h3 h4 (by omega)
@[go_sem] theorem shC_dye1 (h1 : 0 ≤ y) (h2 : y < 8) (h3 : 0 ≤ x) (h4 : x < 8) : shC S (66 + y.toNat * 24 + x.toNat * 3 + 1) = .int .i16 (S.dye y x 1) := shC_dyeN S y x 1 h1 h2 h3 h4 (by omega)
@[go_sem] theorem shC_dye2 (h1 : 0 ≤ y) (h2 : y < 8) (h3 : 0 ≤ x) (h4 : x < 8) : shC S (66 + y.toNat * 24 + x.toNat * 3 + 2) = .int .i16 (S.dye y x 2) := shC_dyeN S y x 2 h1 h2 h3 h4 (by omega)
@[go_sem] theorem shC_dyeI (h1 : 0 ≤ y) (h2 : y < 8) (h3 : 0 ≤ x) (h4 : x < 8) (h5 : 0 ≤ i) (h6 : i < 3) : shC S (66 + y.toNat * 24 + x.toNat * 3 + i.toNat) = .int .i16 (S.dye y x i) := by
  rw [shC_dyeN S y x i.toNat h1 h2 h3 h4 (by omega), nat_of _ h5]
@[go_sem] theorem shC_wax (h1 : 0 ≤ y) (h2 : y < 8) : shC S (258 + y.toNat) = .int .u8 (S.wax y) := by
  unfold shC
  rw [if_neg (by omega), if_neg (by omega), show 258 + y.toNat - 258 = y.toNat by omega, nat_of _ h1]

def Sh.setWax (S : Sh) (y v : Int) : Sh := { S with wax := fun y' => if y' = y then v else S.wax y' }
@[go_sem] theorem shC_setWet (h1 : 0 ≤ y) (h2 : y < 8) (h3 : 0 ≤ x) (h4 : x < 8) : upd (shC S) (2 + y.toNat * 8 + x.toNat) (.int .i16 v) = shC (S.setWet y x v) := by
  funext j
  unfold upd shC Sh.setWet
  simp only
  split
  · rename_i hj; subst hj
    rw [if_neg (by omega), if_pos (by omega), if_pos (by omega), if_pos (by omega)]
  · rename_i hj
    split
    · rfl
    · split
      · split
        · rw [if_neg (by omega)]
        · rfl
      · rfl
theorem shC_setDyeN (k : Nat) (h1 : 0 ≤ y) (h2 : y < 8) (h3 : 0 ≤ x) (h4 : x < 8) (h5 : k < 3) : upd (shC S) (66 + y.toNat * 24 + x.toNat * 3 + k) (.int .i16 v) = shC (S.setDye y x k v) := by
  funext j
  unfold upd shC Sh.setDye
  simp only
  split
  · rename_i hj; subst hj
    rw [if_neg (by omega), if_pos (by omega), if_neg (by omega), if_pos (by omega)]
  · rename_i hj
    split
    · rfl
    · split
      · split
        · rfl
        · rw [if_neg (by omega)]
      · rfl
@[go_sem] theorem shC_setDye0 (h1 : 0 ≤ y) (h2 : y < 8) (h3 : 0 ≤ x) (h4 : x < 8) : upd (shC S) (66 + y.toNat * 24 + x.toNat * 3) (.int .i16 v) = shC (S.setDye y x 0 v) := shC_setDyeN S y x v 0 h1 h2 h3 h4 (by omega)
@[go_sem] theorem shC_setDye1 (h1 : 0 ≤ y) (h2 : y < 8) (h3 : 0 ≤ x) (h4 : x < 8) : upd (shC S) (66 + y.toNat * 24 + x.toNat * 3 + 1) (.int .i16 v) = shC (S.setDye y x 1 v) := shC_setDyeN S y x v 1 h1 h2 h3 h4 (by omega)
@[go_sem] theorem shC_setDye2 (h1 : 0 ≤ y) (h2 : y < 8) (h3 : 0 ≤ x) (h4 : x < 8) : upd (shC S) (66 + y.toNat * 24 + x.toNat * 3 + 2) (.int .i16 v) = shC (S.setDye y x 2 v) := shC_setDyeN S y x v 2 h1 h2 h3 h4 (by omega)
@[go_sem] theorem shC_setDyeI (h1 : 0 ≤ y) (h2 : y < 8) (h3 : 0 ≤ x) (h4 : x < 8) (h5 : 0 ≤ i) (h6 : i < 3) : upd (shC S) (66 + y.toNat * 24 + x.toNat * 3 + i.toNat) (.int .i16 v) = shC (S.setDye y x i v) := by
  rw [shC_setDyeN S y x v i.toNat h1 h2 h3 h4 (by omega), nat_of _ h5]
@[go_sem] theorem shC_setWax (h1 : 0 ≤ y) (h2 : y < 8) : upd (shC S) (258 + y.toNat) (.int .u8 v) = shC (S.setWax y v) := by
  funext j
  unfold upd shC Sh.setWax
  simp only
  split
  · rename_i hj; subst hj
    rw [if_neg (by omega), if_neg (by omega), if_pos (by omega)]
  · rename_i hj
    split
    · rfl
    · split
      · rfl
      · rw [if_neg (by omega)]
@[go_sem] theorem shC_setWide : upd (shC S) 0 (.int .i8 v) = shC { S with wide := v } := by
  funext j; unfold upd shC; simp only; split
  · rename_i hj; subst hj; rfl
  · (repeat' split) <;> first | rfl | omega
@[go_sem] theorem shC_setHigh : upd (shC S) 1 (.int .i8 v) = shC { S with high := v } := by
  funext j; unfold upd shC; simp only; split
  · rename_i hj; subst hj; rfl
  · (repeat' split) <;> first | rfl | omega
end
section
variable {y x i : Int}
@[go_sem] theorem le_wet (h1 : 0 ≤ y) (h2 : y < 8) (h3 : 0 ≤ x) (h4 : x < 8) : (2 + y.toNat * 8 + x.toNat ≤ 265) = True := eq_true (by omega)
@[go_sem] theorem le_dye0 (h1 : 0 ≤ y) (h2 : y < 8) (h3 : 0 ≤ x) (h4 : x < 8) : (66 + y.toNat * 24 + x.toNat * 3 ≤ 265) = True := eq_true (by omega)
@[go_sem] theorem le_dye1 (h1 : 0 ≤ y) (h2 : y < 8) (h3 : 0 ≤ x) (h4 : x < 8) : (66 + y.toNat * 24 + x.toNat * 3 ≤ 264) = True := eq_true (by omega)
@[go_sem] theorem le_dye2 (h1 : 0 ≤ y) (h2 : y < 8) (h3 : 0 ≤ x) (h4 : x < 8) : (66 + y.toNat * 24 + x.toNat * 3 ≤ 263) = True := eq_true (by omega)
@[go_sem] theorem le_dyeI (h1 : 0 ≤ y) (h2 : y < 8) (h3 : 0 ≤ x) (h4 : x < 8) (h5 : 0 ≤ i) (h6 : i < 3) : (66 + y.toNat * 24 + x.toNat * 3 + i.toNat ≤ 265) = True := eq_true (by omega)
@[go_sem] theorem le_wax (h1 : 0 ≤ y) (h2 : y < 8) : (258 + y.toNat ≤ 265) = True := eq_true (by omega)
end
@[go_sem] theorem zz_sheet : zz_873988 = shC sh0 := by funext j; unfold zz_873988 shC sh0; (repeat' split) <;> rfl

theorem shF_shC {S : Sh} (hR : ShR S) : ShF (shC S) S :=
  ⟨hR, rfl, rfl, fun y x a b c d => shC_wet S y x a b c d, fun y x i a b c d e f => shC_dyeI S y x i a b c d e f, fun y a b => shC_wax S y a b⟩
theorem shAt_shC {S : Sh} (hR : ShR S) : ShAt (shS S) 0 S := ⟨by simp [shS], by simpa [shS] using shF_shC hR⟩
theorem ShF.eqC {F : Nat → SV} {S : Sh} (h : ShF F S) {j : Nat} (hj : j < 266) : F j = shC S j := by
  unfold shC
  by_cases h1 : j < 2
  · rw [if_pos h1]
    rcases (by omega : j = 0 ∨ j = 1) with rfl | rfl
    · exact h.wide
    · exact h.high
  rw [if_neg h1]
  by_cases h2 : j < 258
  · rw [if_pos h2]
    by_cases h3 : j < 66
    · rw [if_pos h3]
      have := h.wet (((j - 2) / 8 : Nat) : Int) (((j - 2) % 8 : Nat) : Int) (by omega) (by omega) (by omega) (by omega)
      simp only [Int.toNat_natCast] at this
      rw [← this]; exact congrArg F (by omega)
    · rw [if_neg h3]
      have := h.dye (((j - 66) / 24 : Nat) : Int) (((j - 66) % 24 / 3 : Nat) : Int) (((j - 66) % 3 : Nat) : Int) (by omega) (by omega) (by omega) (by omega) (by omega) (by omega)
      simp only [Int.toNat_natCast] at this
      rw [← this]; exact congrArg F (by omega)
  · rw [if_neg h2]
    have := h.wax ((j - 258 : Nat) : Int) (by omega) (by omega)
    simp only [Int.toNat_natCast] at this
    rw [← this]; exact congrArg F (by omega)
theorem ShF.denC {F : Nat → SV} {S : Sh} (h : ShF F S) (ρ : Rho) : den ρ (.agg 266 F) = den ρ (.agg 266 (shC S)) := den_aggF (fun j hj => h.eqC hj) ρ
theorem shC_lt (S : Sh) (m : Nat) : (SV.agg 266 (shC S)).lt m := fun j hj => (shC_flat S j).below m
@[go_sem high] theorem shC_ltT (S : Sh) (m : Nat) : (SV.agg 266 (shC S)).lt m = True := eq_true (shC_lt S m)

section
variable (S : Sh) (y x i v y' x' i' : Int)
@[go_sem] theorem setDye_dye : (S.setDye y x i v).dye y' x' i' = if y' = y ∧ x' = x ∧ i' = i then v else S.dye y' x' i' := rfl
@[go_sem] theorem setDye_wet : (S.setDye y x i v).wet = S.wet := rfl
@[go_sem] theorem setDye_wax : (S.setDye y x i v).wax = S.wax := rfl
@[go_sem] theorem setDye_wide : (S.setDye y x i v).wide = S.wide := rfl
@[go_sem] theorem setDye_high : (S.setDye y x i v).high = S.high := rfl
@[go_sem] theorem setWet_wet : (S.setWet y x v).wet y' x' = if y' = y ∧ x' = x then v else S.wet y' x' := rfl
@[go_sem] theorem setWet_dye : (S.setWet y x v).dye = S.dye := rfl
@[go_sem] theorem setWet_wax : (S.setWet y x v).wax = S.wax := rfl
@[go_sem] theorem setWet_wide : (S.setWet y x v).wide = S.wide := rfl
@[go_sem] theorem setWet_high : (S.setWet y x v).high = S.high := rfl
end
theorem ShR.setWet {S : Sh} (h : ShR S) {y x v : Int} (hv : -32768 ≤ v ∧ v < 32768) : ShR (S.setWet y x v) :=
  ⟨h.wide, h.high, fun y' x' => by simp only [Sh.setWet]; split; exact hv; exact h.wet y' x', h.dye, h.wax⟩
theorem ShR.setDye {S : Sh} (h : ShR S) {y x i v : Int} (hv : -32768 ≤ v ∧ v < 32768) : ShR (S.setDye y x i v) :=
  ⟨h.wide, h.high, h.wet, fun y' x' i' => by simp only [Sh.setDye]; split; exact hv; exact h.dye y' x' i', h.wax⟩
theorem ShR.setWax {S : Sh} (h : ShR S) {y v : Int} (hv : 0 ≤ v ∧ v < 256) : ShR (S.setWax y v) :=
  ⟨h.wide, h.high, h.wet, h.dye, fun y' => by simp only [Sh.setWax]; split; exact hv; exact h.wax y'⟩
theorem ShR.sh0 : ShR sh0 := ⟨by simp [V.sh0], by simp [V.sh0], fun y x => by simp [V.sh0], fun y x i => by simp [V.sh0], fun y => by simp [V.sh0]⟩

section
variable {cx : Cx} {h : List (Nat × Seg)} {n : Nat}
variable (cx) (h) (n)
theorem toSheet_Q (F : Nat → SV) (S : Sh) (hF : ShF F S) : CallQ Tryz.prog cx 8 [.agg 266 F] h n (.agg 266 (shC S)) :=
  CallE.toQ (shC_lt S n) fun K hK => toSheet_E cx h n F S hF K fun F' hF' => hK _ fun ρ => hF'.denC ρ
end
end Go.Proofs.YtfelopllfhcdpaaGreat.V

/- Running until a round gives nothing; sums of dyes; cells with dye. -/
namespace Go.Proofs.YtfelopllfhcdpaaGreat.V

/-! ### Sums of dyes -/
def dyeAt (S : Sh) (W : Nat) (i : Int) (k : Nat) : Int := S.dye ((k / W : Nat) : Int) ((k % W : Nat) : Int) i
def dyeN (S : Sh) (W : Nat) (i : Int) (j : Nat) : Int := sumN (dyeAt S W i) j
def dyeSum (S : Sh) (W H : Nat) (i : Int) : Int := dyeN S W i (H * W)
/-- Neither water nor dye is anywhere. -/
def Blank (S : Sh) (W H : Nat) : Prop := water S W H = 0 ∧ dyeSum S W H 0 = 0 ∧ dyeSum S W H 1 = 0 ∧ dyeSum S W H 2 = 0
theorem sumN_none {f : Nat → Int} : ∀ n : Nat, (∀ k, k < n → 0 ≤ f k) → sumN f n = 0 → ∀ k, k < n → f k = 0
  | 0, _, _, k, hk => absurd hk (Nat.not_lt_zero k)
  | n + 1, h, e, k, hk => by
    have h1 : 0 ≤ sumN f n := by
      have : ∀ m, m ≤ n → 0 ≤ sumN f m := by
        intro m hm
        induction m with
        | zero => exact Int.le_refl _
        | succ m ih => simp only [sumN]; have := ih (by omega); have := h m (by omega); omega
      exact this n (Nat.le_refl _)
    have h2 := h n (by omega)
    simp only [sumN] at e
    by_cases hkn : k = n
    · subst hkn; omega
    · exact sumN_none n (fun k hk => h k (by omega)) (by omega) k (by omega)
theorem at_cell {W : Nat} {x y : Int} (x0 : 0 ≤ x) (y0 : 0 ≤ y) (hx : x < W) : ((((y.toNat * W + x.toNat) / W : Nat) : Int) = y) ∧ ((((y.toNat * W + x.toNat) % W : Nat) : Int) = x) := by
  have hx' : x.toNat < W := by omega
  have hW : 0 < W := by omega
  rw [Nat.mul_comm, Nat.mul_add_mod, Nat.mod_eq_of_lt hx', Nat.mul_add_div hW, Nat.div_eq_of_lt hx', Nat.add_zero]
  omega
theorem Blank.wet {S : Sh} {W H : Nat} (hB : Blank S W H) (hG : Good S) (hW : S.wide = W) (hH : S.high = H) {x y : Int} (hh : hasB S x y = true) : S.wet y x = 0 := by
  simp only [hasB, Bool.and_eq_true, decide_eq_true_eq, hW, hH] at hh
  have hk : y.toNat * W + x.toNat < H * W := by
    have h1 : y.toNat + 1 ≤ H := by omega
    have := Nat.mul_le_mul_right W h1
    rw [Nat.succ_mul] at this
    omega
  obtain ⟨e1, e2⟩ := at_cell hh.1.1.1 hh.1.2 hh.1.1.2
  have := sumN_none (f := wetAt S W) (H * W) (fun k hk => by
    obtain ⟨a, b, c, d⟩ := cell_lt hG.small hW hH hk
    exact (hG.wet _ _ c d a b).1) hB.1 _ hk
  unfold wetAt at this
  rwa [e1, e2] at this
theorem Blank.dye {S : Sh} {W H : Nat} (hB : Blank S W H) (hG : Good S) (hW : S.wide = W) (hH : S.high = H) {x y i : Int} (hh : hasB S x y = true) (h0 : 0 ≤ i) (h3 : i < 3) : S.dye y x i = 0 := by
  simp only [hasB, Bool.and_eq_true, decide_eq_true_eq, hW, hH] at hh
  have hk : y.toNat * W + x.toNat < H * W := by
    have h1 : y.toNat + 1 ≤ H := by omega
    have := Nat.mul_le_mul_right W h1
    rw [Nat.succ_mul] at this
    omega
  obtain ⟨e1, e2⟩ := at_cell hh.1.1.1 hh.1.2 hh.1.1.2
  have hz : dyeSum S W H i = 0 := by
    rcases (by omega : i = 0 ∨ i = 1 ∨ i = 2) with rfl | rfl | rfl
    · exact hB.2.1
    · exact hB.2.2.1
    · exact hB.2.2.2
  have := sumN_none (f := dyeAt S W i) (H * W) (fun k hk => by
    obtain ⟨a, b, c, d⟩ := cell_lt hG.small hW hH hk
    exact (hG.dye _ _ _ c d a b h0 h3).1) hz _ hk
  unfold dyeAt at this
  rwa [e1, e2] at this

/-! ### Cells, in order -/
/-- A sheet upon which a drop has fallen. -/
def Sh.drop (S : Sh) (x y ink amount water : Int) : Sh := (S.setWet y x water).setDye y x ink amount
end Go.Proofs.YtfelopllfhcdpaaGreat.V

/- Drops, dark cells, sums of dyes: the program's own walks. -/
namespace Go.Proofs.YtfelopllfhcdpaaGreat.V

section
variable (cx : Cx) (h : List (Nat × Seg)) (n : Nat)
end
end Go.Proofs.YtfelopllfhcdpaaGreat.V

/- Brushes: loads, validity, parts. -/
namespace Go.Proofs.YtfelopllfhcdpaaGreat.V

structure Br where
  a : Int
  b : Int
  c : Int
  w : Int
  s : Int
def brC (B : Br) : Nat → SV := cl [.int .i16 B.a, .int .i16 B.b, .int .i16 B.c, .int .i16 B.w, .int .i8 B.s]
def brS (B : Br) : Seg := ⟨5, brC B, true, none⟩
@[go_sem] theorem brC_eq (B : Br) : brC B = cl [.int .i16 B.a, .int .i16 B.b, .int .i16 B.c, .int .i16 B.w, .int .i8 B.s] := rfl
@[go_sem] theorem brS_eq (B : Br) : brS B = ⟨5, brC B, true, none⟩ := rfl
structure BrR (B : Br) : Prop where
  a : -32768 ≤ B.a ∧ B.a < 32768
  b : -32768 ≤ B.b ∧ B.b < 32768
  c : -32768 ≤ B.c ∧ B.c < 32768
  w : -32768 ≤ B.w ∧ B.w < 32768
  s : -128 ≤ B.s ∧ B.s < 128
/-- A brush as it should be. -/
def BrV (B : Br) : Prop := ((0 ≤ B.a ∧ B.a ≤ 900) ∧ (0 ≤ B.b ∧ B.b ≤ 900) ∧ (0 ≤ B.c ∧ B.c ≤ 900)) ∧ B.a + B.b + B.c ≤ 900 ∧ (0 ≤ B.w ∧ B.w ≤ 200) ∧ (1 ≤ B.s ∧ B.s ≤ 16)
instance (B : Br) : Decidable (BrV B) := by unfold BrV; exact inferInstance
theorem brC_flat (B : Br) {k : Nat} (hk : k < 5) : (brC B k).flat := by
  rcases (by omega : k = 0 ∨ k = 1 ∨ k = 2 ∨ k = 3 ∨ k = 4) with rfl | rfl | rfl | rfl | rfl <;> trivial
@[go_sem] theorem brC_ones (B : Br) : ones (.agg 5 (brC B)) = True := eq_true fun j hj => (brC_flat B hj).one
@[go_sem] theorem ones_5 (a b c d e : SV) : ones (.agg 5 (cl [a, b, c, d, e])) = (a.one ∧ b.one ∧ c.one ∧ d.one ∧ e.one) := by
  apply propext; rw [ones_agg]
  refine ⟨fun h => ⟨h 0 (by omega), h 1 (by omega), h 2 (by omega), h 3 (by omega), h 4 (by omega)⟩, fun h j hj => ?_⟩
  rcases (by omega : j = 0 ∨ j = 1 ∨ j = 2 ∨ j = 3 ∨ j = 4) with rfl | rfl | rfl | rfl | rfl
  · exact h.1
  · exact h.2.1
  · exact h.2.2.1
  · exact h.2.2.2.1
  · exact h.2.2.2.2

section
variable (cx : Cx) (h : List (Nat × Seg)) (n : Nat)
end
end Go.Proofs.YtfelopllfhcdpaaGreat.V

/- A brush leaves ink, and touches a cell. -/
namespace Go.Proofs.YtfelopllfhcdpaaGreat.V

section
variable {S : Sh} {B : Br} {y x : Int} (hG : Good S) (hB : BrV B) (hx : 0 ≤ x) (hx8 : x < 8) (hy : 0 ≤ y) (hy8 : y < 8)
include hG hB hx hx8 hy hy8
end
section
variable (cx : Cx) (h : List (Nat × Seg)) (n : Nat)
variable (i : Nat) (S : Sh) (B : Br) (x y : Int) (hs : hget h i = some (shS S)) (hi : i < n) (hR : ShR S) (hG : Good S) (hB : BrV B) (hx : 0 ≤ x) (hx8 : x < 8) (hy : 0 ≤ y) (hy8 : y < 8)
theorem BrV.R {B : Br} (h : BrV B) : BrR B := by
  obtain ⟨⟨h1, h2, h3⟩, h4, h5, h6⟩ := h
  exact ⟨by omega, by omega, by omega, by omega, by omega⟩
variable (j : Nat) (ht : hget h j = some (brS B)) (hj : j < n) (hij : (i == j) = false)
end
end Go.Proofs.YtfelopllfhcdpaaGreat.V

/- A brush leaves ink, and touches a cell: the reference's code. -/
namespace Go.Proofs.YtfelopllfhcdpaaGreat.V
section
variable (cx : Cx) (h : List (Nat × Seg)) (n : Nat)
variable (i j : Nat) (S : Sh) (B : Br) (x y : Int) (hs : hget h i = some (shS S)) (hi : i < n) (ht : hget h j = some (brS B)) (hj : j < n) (hR : ShR S) (hG : Good S) (hB : BrV B) (hx : 0 ≤ x) (hx8 : x < 8) (hy : 0 ≤ y) (hy8 : y < 8)
variable (hij : (i == j) = false)
end
end Go.Proofs.YtfelopllfhcdpaaGreat.V

/- Steps and paths: both codes. -/
namespace Go.Proofs.YtfelopllfhcdpaaGreat.V

def InP (S : Sh) (L : List (Int × Int)) : Prop := ∀ k, k < L.length → hasB S (L.getD k (0, 0)).1 (L.getD k (0, 0)).2 = true
section
variable (cx : Cx) (h : List (Nat × Seg)) (n : Nat)
end
end Go.Proofs.YtfelopllfhcdpaaGreat.V

/- The law's comparisons of arrays that are alike: the walk. -/
namespace Go.Proofs.YtfelopllfhcdpaaGreat.V
section
variable (cx : Cx) (h : List (Nat × Seg)) (n : Nat)

end
end Go.Proofs.YtfelopllfhcdpaaGreat.V

/- The law's comparisons of sheets that are alike: the walk. -/
namespace Go.Proofs.YtfelopllfhcdpaaGreat.V
section
variable (cx : Cx) (h : List (Nat × Seg)) (n : Nat)
end
end Go.Proofs.YtfelopllfhcdpaaGreat.V

/- Paths of a sheet, and what a sheet, a brush and a path are asked: both codes. -/
namespace Go.Proofs.YtfelopllfhcdpaaGreat.V
section
variable (cx : Cx) (h : List (Nat × Seg)) (n : Nat)
variable (i cap : Nat) (L : List (Int × Int)) (s : Seg) (hs : hget h i = some s) (hi : i < n) (hL : SpsAt s L) (hm9 : L.length ≤ 1000000000)
end
end Go.Proofs.YtfelopllfhcdpaaGreat.V

/- Strokes along paths: both codes. -/
namespace Go.Proofs.YtfelopllfhcdpaaGreat.V

structure OkSB (S0 : Sh) (p : Sh × Br) : Prop where
  R : ShR p.1
  G : Good p.1
  B : BrV p.2
  wide : p.1.wide = S0.wide
  high : p.1.high = S0.high
  wax : p.1.wax = S0.wax
theorem InP.at {S : Sh} {L : List (Int × Int)} (h : InP S L) (hS : Small S) {q : Nat} (hq : q < L.length) : 0 ≤ (L.getD q (0, 0)).1 ∧ (L.getD q (0, 0)).1 < 8 ∧ 0 ≤ (L.getD q (0, 0)).2 ∧ (L.getD q (0, 0)).2 < 8 := hasB_in hS (h q hq)
section
variable (cx : Cx) (h : List (Nat × Seg)) (n : Nat)
variable (i cap : Nat) (L : List (Int × Int)) (s : Seg) (hs : hget h i = some s) (hi : i < n) (hL : SpsAt s L) (hm9 : L.length ≤ 1000000000)
end
end Go.Proofs.YtfelopllfhcdpaaGreat.V

/- Strokes along paths, and what StrokePath returns: both codes. -/
namespace Go.Proofs.YtfelopllfhcdpaaGreat.V
section
variable (cx : Cx) (h : List (Nat × Seg)) (n : Nat)
variable (i cap : Nat) (L : List (Int × Int)) (s : Seg) (hs : hget h i = some s) (hi : i < n) (hL : SpsAt s L) (hm9 : L.length ≤ 1000000000)
end
end Go.Proofs.YtfelopllfhcdpaaGreat.V

/- What StrokePath returns: both codes. -/
namespace Go.Proofs.YtfelopllfhcdpaaGreat.V

def br0 : Br := ⟨0, 0, 0, 0, 0⟩
@[go_sem high] theorem brC_br0 : brC br0 = cl [.int .i16 0, .int .i16 0, .int .i16 0, .int .i16 0, .int .i8 0] := rfl
theorem Valid.ok {S : Sh} {B : Br} (hV : Valid S) (hb : BrV B) (hR : ShR S) : OkSB S (S, B) := ⟨hR, hV.good, hb, rfl, rfl, rfl⟩

section
variable (cx : Cx) (h : List (Nat × Seg)) (n : Nat)
variable (i cap : Nat) (L : List (Int × Int)) (s : Seg) (hs : hget h i = some s) (hi : i < n) (hL : SpsAt s L) (hm9 : L.length ≤ 1000000000) (S : Sh) (B : Br) (hR : ShR S) (hB : BrR B)
end
end Go.Proofs.YtfelopllfhcdpaaGreat.V

/- A sheet that came in. -/
namespace Go.Proofs.YtfelopllfhcdpaaGreat.V

theorem wf_i8 {n : Int} (h : (Lit.int .i8 n).wf = true) : -128 ≤ n ∧ n < 128 := by
  simp [Lit.wf, IntKind.min, IntKind.max, IntKind.signed, IntKind.bits] at h; omega
theorem wf_i16 {n : Int} (h : (Lit.int .i16 n).wf = true) : -32768 ≤ n ∧ n < 32768 := by
  simp [Lit.wf, IntKind.min, IntKind.max, IntKind.signed, IntKind.bits] at h; omega
theorem wf_u8 {n : Int} (h : (Lit.int .u8 n).wf = true) : 0 ≤ n ∧ n < 256 := by
  simp [Lit.wf, IntKind.min, IntKind.max, IntKind.signed, IntKind.bits] at h; omega

/-- The sheet that cells tell. -/
def shOf (c : Nat → Value) : Sh :=
  ⟨ivOf (c 0), ivOf (c 1), fun y x => if 0 ≤ y ∧ y < 8 ∧ 0 ≤ x ∧ x < 8 then ivOf (c (2 + y.toNat * 8 + x.toNat)) else 0,
    fun y x i => if 0 ≤ y ∧ y < 8 ∧ 0 ≤ x ∧ x < 8 ∧ 0 ≤ i ∧ i < 3 then ivOf (c (66 + y.toNat * 24 + x.toNat * 3 + i.toNat)) else 0,
    fun y => if 0 ≤ y ∧ y < 8 then ivOf (c (258 + y.toNat)) else 0⟩
theorem iv_i8 {v : Value} (h : ∃ n, v = .int .i8 n ∧ (Lit.int .i8 n).wf = true) : svOf v = .int .i8 (ivOf v) ∧ -128 ≤ ivOf v ∧ ivOf v < 128 := by
  obtain ⟨n, rfl, h⟩ := h; exact ⟨rfl, wf_i8 h⟩
theorem iv_i16 {v : Value} (h : ∃ n, v = .int .i16 n ∧ (Lit.int .i16 n).wf = true) : svOf v = .int .i16 (ivOf v) ∧ -32768 ≤ ivOf v ∧ ivOf v < 32768 := by
  obtain ⟨n, rfl, h⟩ := h; exact ⟨rfl, wf_i16 h⟩
theorem iv_u8 {v : Value} (h : ∃ n, v = .int .u8 n ∧ (Lit.int .u8 n).wf = true) : svOf v = .int .u8 (ivOf v) ∧ 0 ≤ ivOf v ∧ ivOf v < 256 := by
  obtain ⟨n, rfl, h⟩ := h; exact ⟨rfl, wf_u8 h⟩

theorem shF_of {c : Nat → Value} (h : flatC ti 9 31 c 0) : ShF (fun j => svOf (c j)) (shOf c) := by
  simp only [flatC_succ, go_sem, flatK_st, flatL_cons, flatL_nil, flatK_int, flatK_arr, Nat.zero_add, and_true, Nat.mul_one] at h
  obtain ⟨h0, h1, hw, hd, hx⟩ := h
  have ew : ∀ y x : Int, 0 ≤ y ∧ y < 8 ∧ 0 ≤ x ∧ x < 8 → _ := fun y x ⟨a, b, e, f⟩ => iv_i16 (hw y.toNat (by omega) x.toNat (by omega))
  have ed : ∀ y x i : Int, 0 ≤ y ∧ y < 8 ∧ 0 ≤ x ∧ x < 8 ∧ 0 ≤ i ∧ i < 3 → _ := fun y x i ⟨a, b, e, f, p, q⟩ => iv_i16 (hd y.toNat (by omega) x.toNat (by omega) i.toNat (by omega))
  have ex : ∀ y : Int, 0 ≤ y ∧ y < 8 → _ := fun y ⟨a, b⟩ => iv_u8 (hx y.toNat (by omega))
  refine ⟨⟨(iv_i8 h0).2, (iv_i8 h1).2, fun y x => ?_, fun y x i => ?_, fun y => ?_⟩, (iv_i8 h0).1, (iv_i8 h1).1, fun y x a b e f => ?_, fun y x i a b e f p q => ?_, fun y a b => ?_⟩
  · simp only [shOf]
    split
    · rename_i hc; exact (ew y x hc).2
    · omega
  · simp only [shOf]
    split
    · rename_i hc; exact (ed y x i hc).2
    · omega
  · simp only [shOf]
    split
    · rename_i hc; exact (ex y hc).2
    · omega
  · simp only [shOf, if_pos (show 0 ≤ y ∧ y < 8 ∧ 0 ≤ x ∧ x < 8 from ⟨a, b, e, f⟩)]; exact (ew y x ⟨a, b, e, f⟩).1
  · simp only [shOf, if_pos (show 0 ≤ y ∧ y < 8 ∧ 0 ≤ x ∧ x < 8 ∧ 0 ≤ i ∧ i < 3 from ⟨a, b, e, f, p, q⟩)]; exact (ed y x i ⟨a, b, e, f, p, q⟩).1
  · simp only [shOf, if_pos (show 0 ≤ y ∧ y < 8 from ⟨a, b⟩)]; exact (ex y ⟨a, b⟩).1

theorem ShF.ltF {F : Nat → SV} {S : Sh} (h : ShF F S) (m : Nat) : (SV.agg 266 F).lt m := fun j hj => SV.flat.below (h.flat hj) m
end Go.Proofs.YtfelopllfhcdpaaGreat.V
