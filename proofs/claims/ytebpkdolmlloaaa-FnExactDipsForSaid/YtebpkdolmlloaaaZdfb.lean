/- Part 2 of the texts that this proof stands on: a symbolic walk over the program, what its functions and the reference's do, plain laws. -/
import Derived.Test.YtebpkdolmlloaaaZdfa
set_option linter.all false

/- The reference's round of running: the walk. -/
namespace Go.Proofs.Ytebpkdolmlloaaa.V

theorem ShF.at {F : Nat → SV} {S : Sh} (h : ShF F S) : ShAt ⟨266, F, true, none⟩ 0 S := ⟨by simp, by simpa using h⟩
theorem ShAt.F {F : Nat → SV} {S : Sh} (h : ShAt ⟨266, F, true, none⟩ 0 S) : ShF F S := by have := h.2; simp only [Nat.zero_add] at this; exact this
section
variable (cx : Cx) (h : List (Nat × Seg)) (n : Nat)

theorem run2_E (F : Nat → SV) (S : Sh) (W H : Nat) (hF : ShF F S) (hG : Good S) (hW : S.wide = W) (hH : S.high = H) (K : HK)
    (hK : ∀ F', ShF F' (runS S W H).1 → K (.tup 2 (cl [.agg 266 F', .int .i64 (runS S W H).2])) h n) :
    CallE Try.prog cx 31 [.agg 266 F] h n K := by
  have hsm := hG.small
  refine CallE.imp0 (K := fun r h' n' => n ≤ n' ∧ HExt n h h' ∧ ∃ F', ShF F' (runS S W H).1 ∧ r = .tup 2 (cl [.agg 266 F', .int .i64 (runS S W H).2])) ?_ ?_
  rotate_left
  · rintro hok r h' n' ⟨h0, hx, F', hF', rfl⟩
    refine ⟨.tup 2 (cl [.agg 266 F', .int .i64 (runS S W H).2]), h, n, Nat.le_refl _, by simp only [ren_nil], cl_lt (vs := [_, _]) fun v hv => ?_, impH.base0 hok (Nat.le_refl n) hx, hK F' hF'⟩
    simp only [List.mem_cons, List.not_mem_nil, or_false] at hv
    rcases hv with rfl | rfl
    · exact lt_aggF fun j hj => hF'.flat hj
    · trivial
  have hWH : W ≤ 8 ∧ H ≤ 8 := by unfold Small at hsm; omega
  have hWH2 : H * W ≤ 64 := Nat.mul_le_mul hWH.2 hWH.1
  refine callE_of_T (P := Try.prog) hti (nt := 57) (rs := [.cell 2 32, .tmp 3]) rfl rfl Try.call31 Try.func31 rfl _ (by simp only [go_sem, and_self]) (Nat.le_of_ble_eq_true rfl) _ fun hok => ?_
  simp only [go_sem, Nat.reduceBEq, Nat.reduceLT, Nat.reduceLeDiff, Nat.reduceAdd, Nat.reduceMul, Nat.reduceSub, Nat.reduceMod, Nat.reduceDiv, Nat.reduceEqDiff, Int.reduceToNat, reduceIte, reduceCtorEq, Int.reduceLE, Int.reduceLT, Int.reduceEq, Int.reduceNeg, Int.reduceAdd, Int.reduceSub, Int.reduceMul]
  refine callA_false (spots_E _ _ _ n 0 _ S W H (by simp only [go_sem, Nat.reduceBEq, Nat.reduceLT, Nat.reduceLeDiff, Nat.reduceAdd, Nat.reduceMul, Nat.reduceSub, Nat.reduceMod, Nat.reduceDiv, Nat.reduceEqDiff, Int.reduceToNat, reduceIte, reduceCtorEq, Int.reduceLE, Int.reduceLT, Int.reduceEq, Int.reduceNeg, Int.reduceAdd, Int.reduceSub, Int.reduceMul]) (by omega) hF.at hW hH hWH.1 hWH.2 _ fun cap hc1 hc2 => ?_)
  simp only [go_sem, Nat.reduceBEq, Nat.reduceLT, Nat.reduceLeDiff, Nat.reduceAdd, Nat.reduceMul, Nat.reduceSub, Nat.reduceMod, Nat.reduceDiv, Nat.reduceEqDiff, Int.reduceToNat, reduceIte, reduceCtorEq, Int.reduceLE, Int.reduceLT, Int.reduceEq, Int.reduceNeg, Int.reduceAdd, Int.reduceSub, Int.reduceMul]
  refine T_lp (ι := { q : Nat × (Nat → SV) // q.1 ≤ H * W ∧ ShF q.2 (runN S W q.1).1 })
    (fun q => ([(1, .ptr n 0), (2, .ptr (n + 1) 0), (4, .int .i64 (runN S W q.1.1).2), (5, .sl (n + 2) 0 (H * W) cap), (6, .int .i64 q.1.1)],
      (n + 2, ⟨H * W * 2, cellC W, true, none⟩) :: (n + 1, ⟨266, zeroC, true, none⟩) :: (n, ⟨266, q.1.2, true, none⟩) :: h, n + 3)) (fun q => H * W - q.1.1) ⟨(0, F), by omega, hF⟩ ?_ ?_
  · refine Imp.id (by simp) ?_ ?_
    · simp only [go_sem, Nat.reduceBEq, Nat.reduceLT, Nat.reduceLeDiff, Nat.reduceAdd, Nat.reduceMul, Nat.reduceSub, Nat.reduceMod, Nat.reduceDiv, Nat.reduceEqDiff, Int.reduceToNat, reduceIte, reduceCtorEq, Int.reduceLE, Int.reduceLT, Int.reduceEq, Int.reduceNeg, Int.reduceAdd, Int.reduceSub, Int.reduceMul, runN]
      omega
    · exact impH.cons0 (hget_hit _ _ _) (by simp) (SegLe.flat (Nat.le_refl _) id (.inl rfl) fun z hz => ⟨rfl, cellC_flat W z⟩) (impH.cons0 (hget_miss _ _ _ _ (by simp) |>.trans (hget_hit _ _ _)) (by simp) (SegLe.flat (Nat.le_refl _) id (.inr rfl) fun z hz => ⟨rfl, zeroC_flat z⟩)
        (impH.cons0 (by simp only [go_sem, Nat.reduceBEq, Nat.reduceLT, Nat.reduceLeDiff, Nat.reduceAdd, Nat.reduceMul, Nat.reduceSub, Nat.reduceMod, Nat.reduceDiv, Nat.reduceEqDiff, Int.reduceToNat, reduceIte, reduceCtorEq, Int.reduceLE, Int.reduceLT, Int.reduceEq, Int.reduceNeg, Int.reduceAdd, Int.reduceSub, Int.reduceMul]) (by simp) (SegLe.flat (Nat.le_refl _) id (.inr rfl) fun z hz => ⟨rfl, hF.flat hz⟩) (impH.base0 hok (by simp) (((HExt.rfl.cons (Nat.le_refl n)).cons (by simp)).cons (by simp)))))
  · rintro ⟨⟨j, c'⟩, hj, hS'⟩
    simp only at hj hS'
    obtain ⟨g1, g2, g3, g4⟩ := runN_good hG hW hH j hj
    simp only [go_sem, Nat.reduceBEq, Nat.reduceLT, Nat.reduceLeDiff, Nat.reduceAdd, Nat.reduceMul, Nat.reduceSub, Nat.reduceMod, Nat.reduceDiv, Nat.reduceEqDiff, Int.reduceToNat, reduceIte, reduceCtorEq, Int.reduceLE, Int.reduceLT, Int.reduceEq, Int.reduceNeg, Int.reduceAdd, Int.reduceSub, Int.reduceMul, cellC_x, cellC_y, decide_eq_true_eq, decide_eq_false_iff_not]
    refine ⟨fun h1 => ⟨⟨by omega, h1⟩, by omega, ?_⟩, fun h1 => ?_⟩
    · obtain ⟨x0, x8, y0, y8⟩ := cell_in hsm hW hH (j := j) (by omega)
      refine (waxed2_Q _ _ _ n 0 _ (runN S W j).1 _ _ (by simp only [go_sem, Nat.reduceBEq, Nat.reduceLT, Nat.reduceLeDiff, Nat.reduceAdd, Nat.reduceMul, Nat.reduceSub, Nat.reduceMod, Nat.reduceDiv, Nat.reduceEqDiff, Int.reduceToNat, reduceIte, reduceCtorEq, Int.reduceLE, Int.reduceLT, Int.reduceEq, Int.reduceNeg, Int.reduceAdd, Int.reduceSub, Int.reduceMul]) (by omega) hS'.at x0 (by omega) y0 y8).A ?_
      simp only [go_sem, Nat.reduceBEq, Nat.reduceLT, Nat.reduceLeDiff, Nat.reduceAdd, Nat.reduceMul, Nat.reduceSub, Nat.reduceMod, Nat.reduceDiv, Nat.reduceEqDiff, Int.reduceToNat, reduceIte, reduceCtorEq, Int.reduceLE, Int.reduceLT, Int.reduceEq, Int.reduceNeg, Int.reduceAdd, Int.reduceSub, Int.reduceMul]
      refine ⟨fun h2 => ?_, fun h2 => ?_⟩
      · refine ⟨⟨(j + 1, c'), by omega, by simp only [runN, runCell, h2, if_true]; exact hS'⟩, by show H * W - (j + 1) < H * W - j; omega, ?_⟩
        refine Imp.id (by simp) ?_ ?_
        · simp only [go_sem, Nat.reduceBEq, Nat.reduceLT, Nat.reduceLeDiff, Nat.reduceAdd, Nat.reduceMul, Nat.reduceSub, Nat.reduceMod, Nat.reduceDiv, Nat.reduceEqDiff, Int.reduceToNat, reduceIte, reduceCtorEq, Int.reduceLE, Int.reduceLT, Int.reduceEq, Int.reduceNeg, Int.reduceAdd, Int.reduceSub, Int.reduceMul, runN, runCell, h2, if_true, w64 (n := (j : Int) + 1) (by omega), Int.natCast_add, Int.natCast_one]
          omega
        · exact impH.cons0 (by simp only [go_sem, Nat.reduceBEq, Nat.reduceLT, Nat.reduceLeDiff, Nat.reduceAdd, Nat.reduceMul, Nat.reduceSub, Nat.reduceMod, Nat.reduceDiv, Nat.reduceEqDiff, Int.reduceToNat, reduceIte, reduceCtorEq, Int.reduceLE, Int.reduceLT, Int.reduceEq, Int.reduceNeg, Int.reduceAdd, Int.reduceSub, Int.reduceMul]) (by simp) (SegLe.flat (Nat.le_refl _) id (.inr rfl) fun z hz => ⟨rfl, cellC_flat W z⟩) (impH.cons0 (by simp only [go_sem, Nat.reduceBEq, Nat.reduceLT, Nat.reduceLeDiff, Nat.reduceAdd, Nat.reduceMul, Nat.reduceSub, Nat.reduceMod, Nat.reduceDiv, Nat.reduceEqDiff, Int.reduceToNat, reduceIte, reduceCtorEq, Int.reduceLE, Int.reduceLT, Int.reduceEq, Int.reduceNeg, Int.reduceAdd, Int.reduceSub, Int.reduceMul]) (by simp) (SegLe.flat (Nat.le_refl _) id (.inr rfl) fun z hz => ⟨rfl, zeroC_flat z⟩)
            (impH.cons0 (by simp only [go_sem, Nat.reduceBEq, Nat.reduceLT, Nat.reduceLeDiff, Nat.reduceAdd, Nat.reduceMul, Nat.reduceSub, Nat.reduceMod, Nat.reduceDiv, Nat.reduceEqDiff, Int.reduceToNat, reduceIte, reduceCtorEq, Int.reduceLE, Int.reduceLT, Int.reduceEq, Int.reduceNeg, Int.reduceAdd, Int.reduceSub, Int.reduceMul]) (by simp) (SegLe.flat (Nat.le_refl _) id (.inr rfl) fun z hz => ⟨rfl, hS'.flat hz⟩) (impH.base0 hok (by simp) (((HExt.rfl.cons (Nat.le_refl n)).cons (by simp)).cons (by simp)))))
      · simp only [go_sem, Nat.reduceBEq, Nat.reduceLT, Nat.reduceLeDiff, Nat.reduceAdd, Nat.reduceMul, Nat.reduceSub, Nat.reduceMod, Nat.reduceDiv, Nat.reduceEqDiff, Int.reduceToNat, reduceIte, reduceCtorEq, Int.reduceLE, Int.reduceLT, Int.reduceEq, Int.reduceNeg, Int.reduceAdd, Int.reduceSub, Int.reduceMul, cellC_x, cellC_y]
        refine ⟨by omega, by omega, ?_⟩
        refine callA_false (beside2_E _ _ _ n 0 _ (runN S W j).1 _ _ (by simp only [go_sem, Nat.reduceBEq, Nat.reduceLT, Nat.reduceLeDiff, Nat.reduceAdd, Nat.reduceMul, Nat.reduceSub, Nat.reduceMod, Nat.reduceDiv, Nat.reduceEqDiff, Int.reduceToNat, reduceIte, reduceCtorEq, Int.reduceLE, Int.reduceLT, Int.reduceEq, Int.reduceNeg, Int.reduceAdd, Int.reduceSub, Int.reduceMul]) (by omega) hS'.at g1.small (by omega) (by omega) _ fun cap2 => ?_)
        simp only [go_sem, Nat.reduceBEq, Nat.reduceLT, Nat.reduceLeDiff, Nat.reduceAdd, Nat.reduceMul, Nat.reduceSub, Nat.reduceMod, Nat.reduceDiv, Nat.reduceEqDiff, Int.reduceToNat, reduceIte, reduceCtorEq, Int.reduceLE, Int.reduceLT, Int.reduceEq, Int.reduceNeg, Int.reduceAdd, Int.reduceSub, Int.reduceMul]
        generalize hX : ((j % W : Nat) : Int) = X at *
        generalize hY : ((j / W : Nat) : Int) = Y at *
        generalize hL : nb (runN S W j).1 X Y = L at *
        have hLlen : L.length ≤ 4 := hL ▸ nb_len _ _ _
        have hLin : ∀ q, q < L.length → 0 ≤ (L.getD q (0, 0)).1 ∧ (L.getD q (0, 0)).1 < 8 ∧ 0 ≤ (L.getD q (0, 0)).2 ∧ (L.getD q (0, 0)).2 < 8 := by
          subst hL; exact fun q hq => (nb_mem g1.small hq).2
        have hcx : cellC W (j * 2) = .int .i8 X := by rw [cellC_x, hX]
        have hcy : cellC W (j * 2 + 1) = .int .i8 Y := by rw [cellC_y, hY]
        have hjr : (0 : Int) ≤ j ∧ (j : Int) < ((H * W : Nat) : Int) := ⟨by omega, h1⟩
        refine T_lp (ι := { q : Nat × (Nat → SV) // q.1 ≤ L.length ∧ ShF q.2 (nbN X Y L (runN S W j) q.1).1 })
          (fun q => ([(1, .ptr n 0), (2, .ptr (n + 1) 0), (4, .int .i64 (nbN X Y L (runN S W j) q.1.1).2), (5, .sl (n + 2) 0 (H * W) cap), (6, .int .i64 j), (7, .sl (n + 3) 0 L.length cap2), (8, .int .i64 q.1.1)],
            (n + 3, ⟨L.length * 2, spotsC L, true, none⟩) :: (n + 2, ⟨H * W * 2, cellC W, true, none⟩) :: (n + 1, ⟨266, zeroC, true, none⟩) :: (n, ⟨266, q.1.2, true, none⟩) :: h, n + 4)) (fun q => L.length - q.1.1) ⟨(0, c'), by omega, hS'⟩ ?_ ?_
        · refine Imp.id (by simp) ?_ ?_
          · simp only [go_sem, Nat.reduceBEq, Nat.reduceLT, Nat.reduceLeDiff, Nat.reduceAdd, Nat.reduceMul, Nat.reduceSub, Nat.reduceMod, Nat.reduceDiv, Nat.reduceEqDiff, Int.reduceToNat, reduceIte, reduceCtorEq, Int.reduceLE, Int.reduceLT, Int.reduceEq, Int.reduceNeg, Int.reduceAdd, Int.reduceSub, Int.reduceMul, nbN]
            omega
          · exact impH.cons0 (by simp only [go_sem, Nat.reduceBEq, Nat.reduceLT, Nat.reduceLeDiff, Nat.reduceAdd, Nat.reduceMul, Nat.reduceSub, Nat.reduceMod, Nat.reduceDiv, Nat.reduceEqDiff, Int.reduceToNat, reduceIte, reduceCtorEq, Int.reduceLE, Int.reduceLT, Int.reduceEq, Int.reduceNeg, Int.reduceAdd, Int.reduceSub, Int.reduceMul]) (by simp) (SegLe.flat (Nat.le_refl _) id (.inr rfl) fun z hz => ⟨rfl, spotsC_flat _ z⟩) (impH.cons0 (by simp only [go_sem, Nat.reduceBEq, Nat.reduceLT, Nat.reduceLeDiff, Nat.reduceAdd, Nat.reduceMul, Nat.reduceSub, Nat.reduceMod, Nat.reduceDiv, Nat.reduceEqDiff, Int.reduceToNat, reduceIte, reduceCtorEq, Int.reduceLE, Int.reduceLT, Int.reduceEq, Int.reduceNeg, Int.reduceAdd, Int.reduceSub, Int.reduceMul]) (by simp) (SegLe.flat (Nat.le_refl _) id (.inr rfl) fun z hz => ⟨rfl, cellC_flat W z⟩) (impH.cons0 (by simp only [go_sem, Nat.reduceBEq, Nat.reduceLT, Nat.reduceLeDiff, Nat.reduceAdd, Nat.reduceMul, Nat.reduceSub, Nat.reduceMod, Nat.reduceDiv, Nat.reduceEqDiff, Int.reduceToNat, reduceIte, reduceCtorEq, Int.reduceLE, Int.reduceLT, Int.reduceEq, Int.reduceNeg, Int.reduceAdd, Int.reduceSub, Int.reduceMul]) (by simp) (SegLe.flat (Nat.le_refl _) id (.inr rfl) fun z hz => ⟨rfl, zeroC_flat z⟩)
                (impH.cons0 (by simp only [go_sem, Nat.reduceBEq, Nat.reduceLT, Nat.reduceLeDiff, Nat.reduceAdd, Nat.reduceMul, Nat.reduceSub, Nat.reduceMod, Nat.reduceDiv, Nat.reduceEqDiff, Int.reduceToNat, reduceIte, reduceCtorEq, Int.reduceLE, Int.reduceLT, Int.reduceEq, Int.reduceNeg, Int.reduceAdd, Int.reduceSub, Int.reduceMul]) (by simp) (SegLe.flat (Nat.le_refl _) id (.inr rfl) fun z hz => ⟨rfl, hS'.flat hz⟩) (impH.base0 hok (by simp) ((((HExt.rfl.cons (Nat.le_refl n)).cons (by simp)).cons (by simp)).cons (by simp))))))
        · rintro ⟨⟨q, c2⟩, hq, hS2⟩
          simp only at hq hS2
          obtain ⟨k1, k2, k3, k4⟩ := nbN_good (S0 := S) (a := runN S W j) x0 x8 y0 y8 hLin g1 g2 q hq
          simp only [go_sem, Nat.reduceBEq, Nat.reduceLT, Nat.reduceLeDiff, Nat.reduceAdd, Nat.reduceMul, Nat.reduceSub, Nat.reduceMod, Nat.reduceDiv, Nat.reduceEqDiff, Int.reduceToNat, reduceIte, reduceCtorEq, Int.reduceLE, Int.reduceLT, Int.reduceEq, Int.reduceNeg, Int.reduceAdd, Int.reduceSub, Int.reduceMul, decide_eq_true_eq, decide_eq_false_iff_not]
          refine ⟨fun h3 => ?_, fun h3 => ?_⟩
          · obtain ⟨l1, l2, l3, l4⟩ := hLin q (by omega)
            have wA := k1.wet Y X y0 y8 x0 x8
            have wB := k1.wet _ _ l3 l4 l1 l2
            have hqr : (0 : Int) ≤ q ∧ (q : Int) < (L.length : Int) := ⟨by omega, h3⟩
            refine T_draw hti _ _ (by kernel_rfl) (by kernel_rfl) ?_
            simp only [go_sem, Nat.reduceBEq, Nat.reduceLT, Nat.reduceLeDiff, Nat.reduceAdd, Nat.reduceMul, Nat.reduceSub, Nat.reduceMod, Nat.reduceDiv, Nat.reduceEqDiff, Int.reduceToNat, reduceIte, reduceCtorEq, Int.reduceLE, Int.reduceLT, Int.reduceEq, Int.reduceNeg, Int.reduceAdd, Int.reduceSub, Int.reduceMul, hcx, hcy, hjr, hqr, spotsC_x, spotsC_y]
            refine ⟨by omega, (wet2_Q _ _ _ n 0 _ _ X Y (by simp only [go_sem, Nat.reduceBEq, Nat.reduceLT, Nat.reduceLeDiff, Nat.reduceAdd, Nat.reduceMul, Nat.reduceSub, Nat.reduceMod, Nat.reduceDiv, Nat.reduceEqDiff, Int.reduceToNat, reduceIte, reduceCtorEq, Int.reduceLE, Int.reduceLT, Int.reduceEq, Int.reduceNeg, Int.reduceAdd, Int.reduceSub, Int.reduceMul]) (by omega) hS2.at x0 x8 y0 y8).A ?_⟩
            simp only [go_sem, Nat.reduceBEq, Nat.reduceLT, Nat.reduceLeDiff, Nat.reduceAdd, Nat.reduceMul, Nat.reduceSub, Nat.reduceMod, Nat.reduceDiv, Nat.reduceEqDiff, Int.reduceToNat, reduceIte, reduceCtorEq, Int.reduceLE, Int.reduceLT, Int.reduceEq, Int.reduceNeg, Int.reduceAdd, Int.reduceSub, Int.reduceMul, hcx, hcy, hjr, hqr, spotsC_x, spotsC_y]
            refine ⟨by omega, (wet2_Q _ _ _ n 0 _ _ _ _ (by simp only [go_sem, Nat.reduceBEq, Nat.reduceLT, Nat.reduceLeDiff, Nat.reduceAdd, Nat.reduceMul, Nat.reduceSub, Nat.reduceMod, Nat.reduceDiv, Nat.reduceEqDiff, Int.reduceToNat, reduceIte, reduceCtorEq, Int.reduceLE, Int.reduceLT, Int.reduceEq, Int.reduceNeg, Int.reduceAdd, Int.reduceSub, Int.reduceMul]) (by omega) hS2.at l1 l2 l3 l4).A ?_⟩
            simp only [go_sem, Nat.reduceBEq, Nat.reduceLT, Nat.reduceLeDiff, Nat.reduceAdd, Nat.reduceMul, Nat.reduceSub, Nat.reduceMod, Nat.reduceDiv, Nat.reduceEqDiff, Int.reduceToNat, reduceIte, reduceCtorEq, Int.reduceLE, Int.reduceLT, Int.reduceEq, Int.reduceNeg, Int.reduceAdd, Int.reduceSub, Int.reduceMul, w64 (n := (nbN X Y L (runN S W j) q).1.wet Y X - (nbN X Y L (runN S W j) q).1.wet (L.getD q (0, 0)).2 (L.getD q (0, 0)).1) (by omega), decide_eq_true_eq, decide_eq_false_iff_not]
            refine ⟨fun h4 => ?_, fun h4 => ?_⟩
            · refine T_drawT hti 8 _ _ (by kernel_rfl) (by kernel_rfl) ?_
              simp only [go_sem, Nat.reduceBEq, Nat.reduceLT, Nat.reduceLeDiff, Nat.reduceAdd, Nat.reduceMul, Nat.reduceSub, Nat.reduceMod, Nat.reduceDiv, Nat.reduceEqDiff, Int.reduceToNat, reduceIte, reduceCtorEq, Int.reduceLE, Int.reduceLT, Int.reduceEq, Int.reduceNeg, Int.reduceAdd, Int.reduceSub, Int.reduceMul, hcx, hcy, hjr, hqr, spotsC_x, spotsC_y]
              refine ⟨by omega, by omega, ?_⟩
              refine callA_false (give2_E _ _ _ n 0 _ _ X Y _ _ (by simp only [go_sem, Nat.reduceBEq, Nat.reduceLT, Nat.reduceLeDiff, Nat.reduceAdd, Nat.reduceMul, Nat.reduceSub, Nat.reduceMod, Nat.reduceDiv, Nat.reduceEqDiff, Int.reduceToNat, reduceIte, reduceCtorEq, Int.reduceLE, Int.reduceLT, Int.reduceEq, Int.reduceNeg, Int.reduceAdd, Int.reduceSub, Int.reduceMul]) (by omega) rfl hS2.at k1 (by omega) (fun he => by rw [he.1, he.2] at h4; omega) x0 x8 y0 y8 l1 l2 l3 l4 _ fun c3 hS3 _ => ?_)
              simp only [go_sem, Nat.reduceBEq, Nat.reduceLT, Nat.reduceLeDiff, Nat.reduceAdd, Nat.reduceMul, Nat.reduceSub, Nat.reduceMod, Nat.reduceDiv, Nat.reduceEqDiff, Int.reduceToNat, reduceIte, reduceCtorEq, Int.reduceLE, Int.reduceLT, Int.reduceEq, Int.reduceNeg, Int.reduceAdd, Int.reduceSub, Int.reduceMul]
              have hS3' := hS3.F
              refine ⟨⟨(q + 1, c3), by omega, by simp only [nbN, nbStep, h4, if_true]; exact hS3'⟩, by show L.length - (q + 1) < L.length - q; omega, ?_⟩
              refine Imp.id (by simp) ?_ ?_
              · simp only [go_sem, Nat.reduceBEq, Nat.reduceLT, Nat.reduceLeDiff, Nat.reduceAdd, Nat.reduceMul, Nat.reduceSub, Nat.reduceMod, Nat.reduceDiv, Nat.reduceEqDiff, Int.reduceToNat, reduceIte, reduceCtorEq, Int.reduceLE, Int.reduceLT, Int.reduceEq, Int.reduceNeg, Int.reduceAdd, Int.reduceSub, Int.reduceMul, nbN, nbStep, h4, w64 (n := (q : Int) + 1) (by omega), w64 (n := (nbN X Y L (runN S W j) q).2 + 1) (by omega), Int.natCast_add, Int.natCast_one]
                omega
              · exact impH.cons0 (by simp only [go_sem, Nat.reduceBEq, Nat.reduceLT, Nat.reduceLeDiff, Nat.reduceAdd, Nat.reduceMul, Nat.reduceSub, Nat.reduceMod, Nat.reduceDiv, Nat.reduceEqDiff, Int.reduceToNat, reduceIte, reduceCtorEq, Int.reduceLE, Int.reduceLT, Int.reduceEq, Int.reduceNeg, Int.reduceAdd, Int.reduceSub, Int.reduceMul]) (by simp) (SegLe.flat (Nat.le_refl _) id (.inr rfl) fun z hz => ⟨rfl, spotsC_flat _ z⟩) (impH.cons0 (by simp only [go_sem, Nat.reduceBEq, Nat.reduceLT, Nat.reduceLeDiff, Nat.reduceAdd, Nat.reduceMul, Nat.reduceSub, Nat.reduceMod, Nat.reduceDiv, Nat.reduceEqDiff, Int.reduceToNat, reduceIte, reduceCtorEq, Int.reduceLE, Int.reduceLT, Int.reduceEq, Int.reduceNeg, Int.reduceAdd, Int.reduceSub, Int.reduceMul]) (by simp) (SegLe.flat (Nat.le_refl _) id (.inr rfl) fun z hz => ⟨rfl, cellC_flat W z⟩) (impH.cons0 (by simp only [go_sem, Nat.reduceBEq, Nat.reduceLT, Nat.reduceLeDiff, Nat.reduceAdd, Nat.reduceMul, Nat.reduceSub, Nat.reduceMod, Nat.reduceDiv, Nat.reduceEqDiff, Int.reduceToNat, reduceIte, reduceCtorEq, Int.reduceLE, Int.reduceLT, Int.reduceEq, Int.reduceNeg, Int.reduceAdd, Int.reduceSub, Int.reduceMul]) (by simp) (SegLe.flat (Nat.le_refl _) id (.inr rfl) fun z hz => ⟨rfl, zeroC_flat z⟩)
                (impH.cons0 (by simp only [go_sem, Nat.reduceBEq, Nat.reduceLT, Nat.reduceLeDiff, Nat.reduceAdd, Nat.reduceMul, Nat.reduceSub, Nat.reduceMod, Nat.reduceDiv, Nat.reduceEqDiff, Int.reduceToNat, reduceIte, reduceCtorEq, Int.reduceLE, Int.reduceLT, Int.reduceEq, Int.reduceNeg, Int.reduceAdd, Int.reduceSub, Int.reduceMul]) (by simp) (SegLe.flat (Nat.le_refl _) id (.inr rfl) fun z hz => ⟨rfl, hS3'.flat hz⟩) (impH.base0 hok (by simp) ((((HExt.rfl.cons (Nat.le_refl n)).cons (by simp)).cons (by simp)).cons (by simp))))))
            · refine ⟨⟨(q + 1, c2), by omega, by simp only [nbN, nbStep, h4, if_false]; exact hS2⟩, by show L.length - (q + 1) < L.length - q; omega, ?_⟩
              refine Imp.id (by simp) ?_ ?_
              · simp only [go_sem, Nat.reduceBEq, Nat.reduceLT, Nat.reduceLeDiff, Nat.reduceAdd, Nat.reduceMul, Nat.reduceSub, Nat.reduceMod, Nat.reduceDiv, Nat.reduceEqDiff, Int.reduceToNat, reduceIte, reduceCtorEq, Int.reduceLE, Int.reduceLT, Int.reduceEq, Int.reduceNeg, Int.reduceAdd, Int.reduceSub, Int.reduceMul, nbN, nbStep, h4, w64 (n := (q : Int) + 1) (by omega), Int.natCast_add, Int.natCast_one]
                omega
              · exact impH.cons0 (by simp only [go_sem, Nat.reduceBEq, Nat.reduceLT, Nat.reduceLeDiff, Nat.reduceAdd, Nat.reduceMul, Nat.reduceSub, Nat.reduceMod, Nat.reduceDiv, Nat.reduceEqDiff, Int.reduceToNat, reduceIte, reduceCtorEq, Int.reduceLE, Int.reduceLT, Int.reduceEq, Int.reduceNeg, Int.reduceAdd, Int.reduceSub, Int.reduceMul]) (by simp) (SegLe.flat (Nat.le_refl _) id (.inr rfl) fun z hz => ⟨rfl, spotsC_flat _ z⟩) (impH.cons0 (by simp only [go_sem, Nat.reduceBEq, Nat.reduceLT, Nat.reduceLeDiff, Nat.reduceAdd, Nat.reduceMul, Nat.reduceSub, Nat.reduceMod, Nat.reduceDiv, Nat.reduceEqDiff, Int.reduceToNat, reduceIte, reduceCtorEq, Int.reduceLE, Int.reduceLT, Int.reduceEq, Int.reduceNeg, Int.reduceAdd, Int.reduceSub, Int.reduceMul]) (by simp) (SegLe.flat (Nat.le_refl _) id (.inr rfl) fun z hz => ⟨rfl, cellC_flat W z⟩) (impH.cons0 (by simp only [go_sem, Nat.reduceBEq, Nat.reduceLT, Nat.reduceLeDiff, Nat.reduceAdd, Nat.reduceMul, Nat.reduceSub, Nat.reduceMod, Nat.reduceDiv, Nat.reduceEqDiff, Int.reduceToNat, reduceIte, reduceCtorEq, Int.reduceLE, Int.reduceLT, Int.reduceEq, Int.reduceNeg, Int.reduceAdd, Int.reduceSub, Int.reduceMul]) (by simp) (SegLe.flat (Nat.le_refl _) id (.inr rfl) fun z hz => ⟨rfl, zeroC_flat z⟩)
                (impH.cons0 (by simp only [go_sem, Nat.reduceBEq, Nat.reduceLT, Nat.reduceLeDiff, Nat.reduceAdd, Nat.reduceMul, Nat.reduceSub, Nat.reduceMod, Nat.reduceDiv, Nat.reduceEqDiff, Int.reduceToNat, reduceIte, reduceCtorEq, Int.reduceLE, Int.reduceLT, Int.reduceEq, Int.reduceNeg, Int.reduceAdd, Int.reduceSub, Int.reduceMul]) (by simp) (SegLe.flat (Nat.le_refl _) id (.inr rfl) fun z hz => ⟨rfl, hS2.flat hz⟩) (impH.base0 hok (by simp) ((((HExt.rfl.cons (Nat.le_refl n)).cons (by simp)).cons (by simp)).cons (by simp))))))
          · have hq2 : q = L.length := by omega
            subst hq2
            have hrun : runN S W (j + 1) = nbN X Y L (runN S W j) L.length := by
              simp only [runN, runCell, hX, hY, h2, hL, Bool.false_eq_true, if_false]
            refine ⟨⟨(j + 1, c2), by omega, by simp only [hrun]; exact hS2⟩, by show H * W - (j + 1) < H * W - j; omega, ?_⟩
            refine Imp.id (by simp) ?_ ?_
            · simp only [go_sem, Nat.reduceBEq, Nat.reduceLT, Nat.reduceLeDiff, Nat.reduceAdd, Nat.reduceMul, Nat.reduceSub, Nat.reduceMod, Nat.reduceDiv, Nat.reduceEqDiff, Int.reduceToNat, reduceIte, reduceCtorEq, Int.reduceLE, Int.reduceLT, Int.reduceEq, Int.reduceNeg, Int.reduceAdd, Int.reduceSub, Int.reduceMul, hrun, w64 (n := (j : Int) + 1) (by omega), Int.natCast_add, Int.natCast_one]
              omega
            · exact impH.cons0 (by simp only [go_sem, Nat.reduceBEq, Nat.reduceLT, Nat.reduceLeDiff, Nat.reduceAdd, Nat.reduceMul, Nat.reduceSub, Nat.reduceMod, Nat.reduceDiv, Nat.reduceEqDiff, Int.reduceToNat, reduceIte, reduceCtorEq, Int.reduceLE, Int.reduceLT, Int.reduceEq, Int.reduceNeg, Int.reduceAdd, Int.reduceSub, Int.reduceMul]) (by simp) (SegLe.flat (Nat.le_refl _) id (.inr rfl) fun z hz => ⟨rfl, cellC_flat W z⟩) (impH.cons0 (by simp only [go_sem, Nat.reduceBEq, Nat.reduceLT, Nat.reduceLeDiff, Nat.reduceAdd, Nat.reduceMul, Nat.reduceSub, Nat.reduceMod, Nat.reduceDiv, Nat.reduceEqDiff, Int.reduceToNat, reduceIte, reduceCtorEq, Int.reduceLE, Int.reduceLT, Int.reduceEq, Int.reduceNeg, Int.reduceAdd, Int.reduceSub, Int.reduceMul]) (by simp) (SegLe.flat (Nat.le_refl _) id (.inr rfl) fun z hz => ⟨rfl, zeroC_flat z⟩)
                (impH.cons0 (by simp only [go_sem, Nat.reduceBEq, Nat.reduceLT, Nat.reduceLeDiff, Nat.reduceAdd, Nat.reduceMul, Nat.reduceSub, Nat.reduceMod, Nat.reduceDiv, Nat.reduceEqDiff, Int.reduceToNat, reduceIte, reduceCtorEq, Int.reduceLE, Int.reduceLT, Int.reduceEq, Int.reduceNeg, Int.reduceAdd, Int.reduceSub, Int.reduceMul]) (by simp) (SegLe.flat (Nat.le_refl _) id (.inr rfl) fun z hz => ⟨rfl, hS2.flat hz⟩) (impH.base0 hok (by simp) ((((HExt.rfl.cons (Nat.le_refl n)).cons (by simp)).cons (by simp)).cons (by simp)))))
    · have hj2 : j = H * W := by omega
      subst hj2
      have hone : ones (.agg 266 fun j => c' j) = True := hS'.ones
      simp only [go_sem, Nat.reduceBEq, Nat.reduceLT, Nat.reduceLeDiff, Nat.reduceAdd, Nat.reduceMul, Nat.reduceSub, Nat.reduceMod, Nat.reduceDiv, Nat.reduceEqDiff, Int.reduceToNat, reduceIte, reduceCtorEq, Int.reduceLE, Int.reduceLT, Int.reduceEq, Int.reduceNeg, Int.reduceAdd, Int.reduceSub, Int.reduceMul, hone]
      exact ⟨c', hS', rfl⟩
end
end Go.Proofs.Ytebpkdolmlloaaa.V

/- The reference's round of drying: the walk. -/
namespace Go.Proofs.Ytebpkdolmlloaaa.V

section
variable (cx : Cx) (h : List (Nat × Seg)) (n : Nat)

theorem dry2_E (i o : Nat) (s : Seg) (S : Sh) (W H : Nat) (hs : hget h i = some s) (hi : i < n) (hS : ShAt s o S) (hG : Good S) (hW : S.wide = W) (hH : S.high = H) (K : HK)
    (hK : ∀ F', ShF F' (dryS S W H).1 → K (.tup 2 (cl [.agg 266 F', .int .i64 (dryS S W H).2])) h n) :
    CallE Try.prog cx 32 [.ptr i o] h n K := by
  have hne : (n == i) = false := by simp; omega
  have hnk : ∀ k, (n + k == i) = false := fun k => by simp; omega
  have hlen := hS.1
  have hsm := hG.small
  have hone0 : ones (.agg 266 fun j => s.c (o + j)) = True := ShF.ones hS.2
  refine CallE.imp0 (K := fun r h' n' => n ≤ n' ∧ HExt n h h' ∧ ∃ F', ShF F' (dryS S W H).1 ∧ r = .tup 2 (cl [.agg 266 F', .int .i64 (dryS S W H).2])) ?_ ?_
  rotate_left
  · rintro hok r h' n' ⟨h0, hx, F', hF', rfl⟩
    refine ⟨.tup 2 (cl [.agg 266 F', .int .i64 (dryS S W H).2]), h, n, Nat.le_refl _, by simp only [ren_nil], cl_lt (vs := [_, _]) fun v hv => ?_, impH.base0 hok (Nat.le_refl n) hx, hK F' hF'⟩
    simp only [List.mem_cons, List.not_mem_nil, or_false] at hv
    rcases hv with rfl | rfl
    · exact lt_aggF fun j hj => hF'.flat hj
    · trivial
  have hWH : W ≤ 8 ∧ H ≤ 8 := by unfold Small at hsm; omega
  have hWH2 : H * W ≤ 64 := Nat.mul_le_mul hWH.2 hWH.1
  refine callE_of_T (P := Try.prog) hti (nt := 80) (rs := [.cell 2 32, .tmp 3]) rfl rfl Try.call32 Try.func32 rfl _ (by simp only [go_sem, and_self]) (Nat.le_of_ble_eq_true rfl) _ fun hok => ?_
  simp only [go_sem, Nat.reduceBEq, Nat.reduceLT, Nat.reduceLeDiff, Nat.reduceAdd, Nat.reduceMul, Nat.reduceSub, Nat.reduceMod, Nat.reduceDiv, Nat.reduceEqDiff, Int.reduceToNat, reduceIte, reduceCtorEq, Int.reduceLE, Int.reduceLT, Int.reduceEq, Int.reduceNeg, Int.reduceAdd, Int.reduceSub, Int.reduceMul, hne, hnk, hs, hone0]
  refine ⟨by omega, ?_⟩
  refine callA_false (spots_E _ _ _ i o _ S W H (by simp only [go_sem, Nat.reduceBEq, Nat.reduceLT, Nat.reduceLeDiff, Nat.reduceAdd, Nat.reduceMul, Nat.reduceSub, Nat.reduceMod, Nat.reduceDiv, Nat.reduceEqDiff, Int.reduceToNat, reduceIte, reduceCtorEq, Int.reduceLE, Int.reduceLT, Int.reduceEq, Int.reduceNeg, Int.reduceAdd, Int.reduceSub, Int.reduceMul, hne, hnk, hs]) (by omega) hS hW hH hWH.1 hWH.2 _ fun cap hc1 hc2 => ?_)
  simp only [go_sem, Nat.reduceBEq, Nat.reduceLT, Nat.reduceLeDiff, Nat.reduceAdd, Nat.reduceMul, Nat.reduceSub, Nat.reduceMod, Nat.reduceDiv, Nat.reduceEqDiff, Int.reduceToNat, reduceIte, reduceCtorEq, Int.reduceLE, Int.reduceLT, Int.reduceEq, Int.reduceNeg, Int.reduceAdd, Int.reduceSub, Int.reduceMul]
  refine T_lp (ι := { q : Nat × (Nat → SV) // q.1 ≤ H * W ∧ ShF q.2 (dryN S W q.1).1 })
    (fun q => ([(0, .ptr i o), (2, .ptr n 0), (4, .ptr (n + 1) 0), (5, .int .i64 (dryN S W q.1.1).2), (6, .sl (n + 2) 0 (H * W) cap), (7, .int .i64 q.1.1)],
      (n + 2, ⟨H * W * 2, cellC W, true, none⟩) :: (n + 1, ⟨266, q.1.2, true, none⟩) :: (n, ⟨266, zeroC, true, none⟩) :: h, n + 3)) (fun q => H * W - q.1.1) ⟨(0, fun j => s.c (o + j)), by omega, hS.2⟩ ?_ ?_
  · refine Imp.id (by simp) ?_ ?_
    · simp only [go_sem, Nat.reduceBEq, Nat.reduceLT, Nat.reduceLeDiff, Nat.reduceAdd, Nat.reduceMul, Nat.reduceSub, Nat.reduceMod, Nat.reduceDiv, Nat.reduceEqDiff, Int.reduceToNat, reduceIte, reduceCtorEq, Int.reduceLE, Int.reduceLT, Int.reduceEq, Int.reduceNeg, Int.reduceAdd, Int.reduceSub, Int.reduceMul, dryN]
      omega
    · exact impH.cons0 (hget_hit _ _ _) (by simp) (SegLe.flat (Nat.le_refl _) id (.inl rfl) fun z hz => ⟨rfl, cellC_flat W z⟩) (impH.cons0 (by simp only [go_sem, Nat.reduceBEq, Nat.reduceLT, Nat.reduceLeDiff, Nat.reduceAdd, Nat.reduceMul, Nat.reduceSub, Nat.reduceMod, Nat.reduceDiv, Nat.reduceEqDiff, Int.reduceToNat, reduceIte, reduceCtorEq, Int.reduceLE, Int.reduceLT, Int.reduceEq, Int.reduceNeg, Int.reduceAdd, Int.reduceSub, Int.reduceMul]) (by simp) (SegLe.flat (Nat.le_refl _) id (.inr rfl) fun z hz => ⟨rfl, hS.2.flat hz⟩)
                (impH.cons0 ((hget_miss _ _ _ _ (by simp)).trans ((hget_miss _ _ _ _ (by simp)).trans (hget_hit _ _ _))) (by simp) (SegLe.flat (Nat.le_refl _) id (.inr rfl) fun z hz => ⟨rfl, zeroC_flat z⟩) (impH.base0 hok (by simp) (((HExt.rfl.cons (Nat.le_refl n)).cons (by simp)).cons (by simp)))))
  · rintro ⟨⟨j, c'⟩, hj, hS'⟩
    simp only at hj hS'
    obtain ⟨g1, g2, g3, g4⟩ := dryN_good hG hW hH j hj
    simp only [go_sem, Nat.reduceBEq, Nat.reduceLT, Nat.reduceLeDiff, Nat.reduceAdd, Nat.reduceMul, Nat.reduceSub, Nat.reduceMod, Nat.reduceDiv, Nat.reduceEqDiff, Int.reduceToNat, reduceIte, reduceCtorEq, Int.reduceLE, Int.reduceLT, Int.reduceEq, Int.reduceNeg, Int.reduceAdd, Int.reduceSub, Int.reduceMul, cellC_x, cellC_y, decide_eq_true_eq, decide_eq_false_iff_not]
    refine ⟨fun h1 => ⟨⟨by omega, h1⟩, by omega, ?_⟩, fun h1 => ?_⟩
    · obtain ⟨x0, x8, y0, y8⟩ := cell_in hsm hW hH (j := j) (by omega)
      refine (wet2_Q _ _ _ i o _ S _ _ (by simp only [go_sem, Nat.reduceBEq, Nat.reduceLT, Nat.reduceLeDiff, Nat.reduceAdd, Nat.reduceMul, Nat.reduceSub, Nat.reduceMod, Nat.reduceDiv, Nat.reduceEqDiff, Int.reduceToNat, reduceIte, reduceCtorEq, Int.reduceLE, Int.reduceLT, Int.reduceEq, Int.reduceNeg, Int.reduceAdd, Int.reduceSub, Int.reduceMul, hne, hnk, hs]) (by omega) hS x0 x8 y0 y8).A ?_
      simp only [go_sem, Nat.reduceBEq, Nat.reduceLT, Nat.reduceLeDiff, Nat.reduceAdd, Nat.reduceMul, Nat.reduceSub, Nat.reduceMod, Nat.reduceDiv, Nat.reduceEqDiff, Int.reduceToNat, reduceIte, reduceCtorEq, Int.reduceLE, Int.reduceLT, Int.reduceEq, Int.reduceNeg, Int.reduceAdd, Int.reduceSub, Int.reduceMul, decide_eq_true_eq, decide_eq_false_iff_not]
      refine ⟨fun h2 => ?_, fun h2 => ?_⟩
      · have hdn : dryN S W (j + 1) = dryN S W j := by simp only [dryN, dryCell, h2, if_true]
        refine ⟨⟨(j + 1, c'), by omega, by simp only [hdn]; exact hS'⟩, by show H * W - (j + 1) < H * W - j; omega, ?_⟩
        refine Imp.id (by simp) ?_ ?_
        · simp only [go_sem, Nat.reduceBEq, Nat.reduceLT, Nat.reduceLeDiff, Nat.reduceAdd, Nat.reduceMul, Nat.reduceSub, Nat.reduceMod, Nat.reduceDiv, Nat.reduceEqDiff, Int.reduceToNat, reduceIte, reduceCtorEq, Int.reduceLE, Int.reduceLT, Int.reduceEq, Int.reduceNeg, Int.reduceAdd, Int.reduceSub, Int.reduceMul, hdn, w64 (n := (j : Int) + 1) (by omega), Int.natCast_add, Int.natCast_one]
          omega
        · exact impH.cons0 (by simp only [go_sem, Nat.reduceBEq, Nat.reduceLT, Nat.reduceLeDiff, Nat.reduceAdd, Nat.reduceMul, Nat.reduceSub, Nat.reduceMod, Nat.reduceDiv, Nat.reduceEqDiff, Int.reduceToNat, reduceIte, reduceCtorEq, Int.reduceLE, Int.reduceLT, Int.reduceEq, Int.reduceNeg, Int.reduceAdd, Int.reduceSub, Int.reduceMul]) (by simp) (SegLe.flat (Nat.le_refl _) id (.inr rfl) fun z hz => ⟨rfl, cellC_flat W z⟩) (impH.cons0 (by simp only [go_sem, Nat.reduceBEq, Nat.reduceLT, Nat.reduceLeDiff, Nat.reduceAdd, Nat.reduceMul, Nat.reduceSub, Nat.reduceMod, Nat.reduceDiv, Nat.reduceEqDiff, Int.reduceToNat, reduceIte, reduceCtorEq, Int.reduceLE, Int.reduceLT, Int.reduceEq, Int.reduceNeg, Int.reduceAdd, Int.reduceSub, Int.reduceMul]) (by simp) (SegLe.flat (Nat.le_refl _) id (.inr rfl) fun z hz => ⟨rfl, hS'.flat hz⟩)
                (impH.cons0 (by simp only [go_sem, Nat.reduceBEq, Nat.reduceLT, Nat.reduceLeDiff, Nat.reduceAdd, Nat.reduceMul, Nat.reduceSub, Nat.reduceMod, Nat.reduceDiv, Nat.reduceEqDiff, Int.reduceToNat, reduceIte, reduceCtorEq, Int.reduceLE, Int.reduceLT, Int.reduceEq, Int.reduceNeg, Int.reduceAdd, Int.reduceSub, Int.reduceMul]) (by simp) (SegLe.flat (Nat.le_refl _) id (.inr rfl) fun z hz => ⟨rfl, zeroC_flat z⟩) (impH.base0 hok (by simp) (((HExt.rfl.cons (Nat.le_refl n)).cons (by simp)).cons (by simp)))))
      · have hb := dryBy_in hG x0 x8 y0 y8
        have hdn : dryN S W (j + 1) = ((dryN S W j).1.setWet ((j / W : Nat) : Int) ((j % W : Nat) : Int) (IntKind.i16.wrap ((dryN S W j).1.wet ((j / W : Nat) : Int) ((j % W : Nat) : Int) - IntKind.i16.wrap (dryBy S ((j % W : Nat) : Int) ((j / W : Nat) : Int)))), (dryN S W j).2 + dryBy S ((j % W : Nat) : Int) ((j / W : Nat) : Int)) := by
          simp only [dryN, dryCell, h2, if_false]
        have hby : dryBy S ((j % W : Nat) : Int) ((j / W : Nat) : Int) = min (cntN S (nb S ((j % W : Nat) : Int) ((j / W : Nat) : Int)) (nb S ((j % W : Nat) : Int) ((j / W : Nat) : Int)).length) (S.wet ((j / W : Nat) : Int) ((j % W : Nat) : Int)) := rfl
        have hcx : cellC W (j * 2) = .int .i8 ((j % W : Nat) : Int) := cellC_x W j
        have hcy : cellC W (j * 2 + 1) = .int .i8 ((j / W : Nat) : Int) := cellC_y W j
        have hjr : (0 : Int) ≤ j ∧ (j : Int) < ((H * W : Nat) : Int) := ⟨by omega, h1⟩
        generalize hX : ((j % W : Nat) : Int) = X at *
        generalize hY : ((j / W : Nat) : Int) = Y at *
        simp only [go_sem, Nat.reduceBEq, Nat.reduceLT, Nat.reduceLeDiff, Nat.reduceAdd, Nat.reduceMul, Nat.reduceSub, Nat.reduceMod, Nat.reduceDiv, Nat.reduceEqDiff, Int.reduceToNat, reduceIte, reduceCtorEq, Int.reduceLE, Int.reduceLT, Int.reduceEq, Int.reduceNeg, Int.reduceAdd, Int.reduceSub, Int.reduceMul, hcx, hcy, hjr]
        refine ⟨by omega, ?_⟩
        refine callA_false (beside2_E _ _ _ i o _ S X Y (by simp only [go_sem, Nat.reduceBEq, Nat.reduceLT, Nat.reduceLeDiff, Nat.reduceAdd, Nat.reduceMul, Nat.reduceSub, Nat.reduceMod, Nat.reduceDiv, Nat.reduceEqDiff, Int.reduceToNat, reduceIte, reduceCtorEq, Int.reduceLE, Int.reduceLT, Int.reduceEq, Int.reduceNeg, Int.reduceAdd, Int.reduceSub, Int.reduceMul, hne, hnk, hs]) (by omega) hS hsm (by omega) (by omega) _ fun cap2 => ?_)
        simp only [go_sem, Nat.reduceBEq, Nat.reduceLT, Nat.reduceLeDiff, Nat.reduceAdd, Nat.reduceMul, Nat.reduceSub, Nat.reduceMod, Nat.reduceDiv, Nat.reduceEqDiff, Int.reduceToNat, reduceIte, reduceCtorEq, Int.reduceLE, Int.reduceLT, Int.reduceEq, Int.reduceNeg, Int.reduceAdd, Int.reduceSub, Int.reduceMul]
        have hLin : ∀ q, q < (nb S X Y).length → 0 ≤ ((nb S X Y).getD q (0, 0)).1 ∧ ((nb S X Y).getD q (0, 0)).1 < 8 ∧ 0 ≤ ((nb S X Y).getD q (0, 0)).2 ∧ ((nb S X Y).getD q (0, 0)).2 < 8 := fun q hq => (nb_mem hsm hq).2
        have hLlen : (nb S X Y).length ≤ 4 := nb_len _ _ _
        generalize hL : nb S X Y = L at *
        refine T_lp (ι := { q : Nat // q ≤ L.length })
          (fun q => ([(0, .ptr i o), (2, .ptr n 0), (4, .ptr (n + 1) 0), (5, .int .i64 (dryN S W j).2), (6, .sl (n + 2) 0 (H * W) cap), (7, .int .i64 j), (8, .int .i64 (S.wet Y X)), (9, .int .i64 (cntN S L q.1)), (10, .sl (n + 3) 0 L.length cap2), (11, .int .i64 q.1)],
            (n + 3, ⟨L.length * 2, spotsC L, true, none⟩) :: (n + 2, ⟨H * W * 2, cellC W, true, none⟩) :: (n + 1, ⟨266, c', true, none⟩) :: (n, ⟨266, zeroC, true, none⟩) :: h, n + 4)) (fun q => L.length - q.1) ⟨0, by omega⟩ ?_ ?_
        · refine Imp.id (by simp) ?_ ?_
          · simp only [go_sem, Nat.reduceBEq, Nat.reduceLT, Nat.reduceLeDiff, Nat.reduceAdd, Nat.reduceMul, Nat.reduceSub, Nat.reduceMod, Nat.reduceDiv, Nat.reduceEqDiff, Int.reduceToNat, reduceIte, reduceCtorEq, Int.reduceLE, Int.reduceLT, Int.reduceEq, Int.reduceNeg, Int.reduceAdd, Int.reduceSub, Int.reduceMul, cntN]
            omega
          · exact impH.cons0 (by simp only [go_sem, Nat.reduceBEq, Nat.reduceLT, Nat.reduceLeDiff, Nat.reduceAdd, Nat.reduceMul, Nat.reduceSub, Nat.reduceMod, Nat.reduceDiv, Nat.reduceEqDiff, Int.reduceToNat, reduceIte, reduceCtorEq, Int.reduceLE, Int.reduceLT, Int.reduceEq, Int.reduceNeg, Int.reduceAdd, Int.reduceSub, Int.reduceMul]) (by simp) (SegLe.flat (Nat.le_refl _) id (.inr rfl) fun z hz => ⟨rfl, spotsC_flat _ z⟩) (impH.cons0 (by simp only [go_sem, Nat.reduceBEq, Nat.reduceLT, Nat.reduceLeDiff, Nat.reduceAdd, Nat.reduceMul, Nat.reduceSub, Nat.reduceMod, Nat.reduceDiv, Nat.reduceEqDiff, Int.reduceToNat, reduceIte, reduceCtorEq, Int.reduceLE, Int.reduceLT, Int.reduceEq, Int.reduceNeg, Int.reduceAdd, Int.reduceSub, Int.reduceMul]) (by simp) (SegLe.flat (Nat.le_refl _) id (.inr rfl) fun z hz => ⟨rfl, cellC_flat W z⟩)
                (impH.cons0 (by simp only [go_sem, Nat.reduceBEq, Nat.reduceLT, Nat.reduceLeDiff, Nat.reduceAdd, Nat.reduceMul, Nat.reduceSub, Nat.reduceMod, Nat.reduceDiv, Nat.reduceEqDiff, Int.reduceToNat, reduceIte, reduceCtorEq, Int.reduceLE, Int.reduceLT, Int.reduceEq, Int.reduceNeg, Int.reduceAdd, Int.reduceSub, Int.reduceMul]) (by simp) (SegLe.flat (Nat.le_refl _) id (.inr rfl) fun z hz => ⟨rfl, hS'.flat hz⟩) (impH.cons0 (by simp only [go_sem, Nat.reduceBEq, Nat.reduceLT, Nat.reduceLeDiff, Nat.reduceAdd, Nat.reduceMul, Nat.reduceSub, Nat.reduceMod, Nat.reduceDiv, Nat.reduceEqDiff, Int.reduceToNat, reduceIte, reduceCtorEq, Int.reduceLE, Int.reduceLT, Int.reduceEq, Int.reduceNeg, Int.reduceAdd, Int.reduceSub, Int.reduceMul]) (by simp) (SegLe.flat (Nat.le_refl _) id (.inr rfl) fun z hz => ⟨rfl, zeroC_flat z⟩) (impH.base0 hok (by simp) ((((HExt.rfl.cons (Nat.le_refl n)).cons (by simp)).cons (by simp)).cons (by simp)))))) 
        · rintro ⟨q, hq⟩
          have hcq := cntN_in S L q
          simp only [go_sem, Nat.reduceBEq, Nat.reduceLT, Nat.reduceLeDiff, Nat.reduceAdd, Nat.reduceMul, Nat.reduceSub, Nat.reduceMod, Nat.reduceDiv, Nat.reduceEqDiff, Int.reduceToNat, reduceIte, reduceCtorEq, Int.reduceLE, Int.reduceLT, Int.reduceEq, Int.reduceNeg, Int.reduceAdd, Int.reduceSub, Int.reduceMul, spotsC_x, spotsC_y, decide_eq_true_eq, decide_eq_false_iff_not]
          refine ⟨fun h3 => ⟨⟨by omega, h3⟩, by omega, ?_⟩, fun h3 => ?_⟩
          · obtain ⟨l1, l2, l3, l4⟩ := hLin q (by omega)
            refine (wet2_Q _ _ _ i o _ S _ _ (by simp only [go_sem, Nat.reduceBEq, Nat.reduceLT, Nat.reduceLeDiff, Nat.reduceAdd, Nat.reduceMul, Nat.reduceSub, Nat.reduceMod, Nat.reduceDiv, Nat.reduceEqDiff, Int.reduceToNat, reduceIte, reduceCtorEq, Int.reduceLE, Int.reduceLT, Int.reduceEq, Int.reduceNeg, Int.reduceAdd, Int.reduceSub, Int.reduceMul, hne, hnk, hs]) (by omega) hS l1 l2 l3 l4).A ?_
            simp only [go_sem, Nat.reduceBEq, Nat.reduceLT, Nat.reduceLeDiff, Nat.reduceAdd, Nat.reduceMul, Nat.reduceSub, Nat.reduceMod, Nat.reduceDiv, Nat.reduceEqDiff, Int.reduceToNat, reduceIte, reduceCtorEq, Int.reduceLE, Int.reduceLT, Int.reduceEq, Int.reduceNeg, Int.reduceAdd, Int.reduceSub, Int.reduceMul, decide_eq_true_eq, decide_eq_false_iff_not]
            refine ⟨fun h4 => ?_, fun h4 => ?_⟩
            · refine ⟨⟨q + 1, by omega⟩, by show L.length - (q + 1) < L.length - q; omega, ?_⟩
              refine Imp.id (by simp) ?_ ?_
              · simp only [go_sem, Nat.reduceBEq, Nat.reduceLT, Nat.reduceLeDiff, Nat.reduceAdd, Nat.reduceMul, Nat.reduceSub, Nat.reduceMod, Nat.reduceDiv, Nat.reduceEqDiff, Int.reduceToNat, reduceIte, reduceCtorEq, Int.reduceLE, Int.reduceLT, Int.reduceEq, Int.reduceNeg, Int.reduceAdd, Int.reduceSub, Int.reduceMul, cntN, h4, w64 (n := (q : Int) + 1) (by omega), w64 (n := cntN S L q + 1) (by omega), Int.natCast_add, Int.natCast_one]
                omega
              · exact impH.cons0 (by simp only [go_sem, Nat.reduceBEq, Nat.reduceLT, Nat.reduceLeDiff, Nat.reduceAdd, Nat.reduceMul, Nat.reduceSub, Nat.reduceMod, Nat.reduceDiv, Nat.reduceEqDiff, Int.reduceToNat, reduceIte, reduceCtorEq, Int.reduceLE, Int.reduceLT, Int.reduceEq, Int.reduceNeg, Int.reduceAdd, Int.reduceSub, Int.reduceMul]) (by simp) (SegLe.flat (Nat.le_refl _) id (.inr rfl) fun z hz => ⟨rfl, spotsC_flat _ z⟩) (impH.cons0 (by simp only [go_sem, Nat.reduceBEq, Nat.reduceLT, Nat.reduceLeDiff, Nat.reduceAdd, Nat.reduceMul, Nat.reduceSub, Nat.reduceMod, Nat.reduceDiv, Nat.reduceEqDiff, Int.reduceToNat, reduceIte, reduceCtorEq, Int.reduceLE, Int.reduceLT, Int.reduceEq, Int.reduceNeg, Int.reduceAdd, Int.reduceSub, Int.reduceMul]) (by simp) (SegLe.flat (Nat.le_refl _) id (.inr rfl) fun z hz => ⟨rfl, cellC_flat W z⟩)
                (impH.cons0 (by simp only [go_sem, Nat.reduceBEq, Nat.reduceLT, Nat.reduceLeDiff, Nat.reduceAdd, Nat.reduceMul, Nat.reduceSub, Nat.reduceMod, Nat.reduceDiv, Nat.reduceEqDiff, Int.reduceToNat, reduceIte, reduceCtorEq, Int.reduceLE, Int.reduceLT, Int.reduceEq, Int.reduceNeg, Int.reduceAdd, Int.reduceSub, Int.reduceMul]) (by simp) (SegLe.flat (Nat.le_refl _) id (.inr rfl) fun z hz => ⟨rfl, hS'.flat hz⟩) (impH.cons0 (by simp only [go_sem, Nat.reduceBEq, Nat.reduceLT, Nat.reduceLeDiff, Nat.reduceAdd, Nat.reduceMul, Nat.reduceSub, Nat.reduceMod, Nat.reduceDiv, Nat.reduceEqDiff, Int.reduceToNat, reduceIte, reduceCtorEq, Int.reduceLE, Int.reduceLT, Int.reduceEq, Int.reduceNeg, Int.reduceAdd, Int.reduceSub, Int.reduceMul]) (by simp) (SegLe.flat (Nat.le_refl _) id (.inr rfl) fun z hz => ⟨rfl, zeroC_flat z⟩) (impH.base0 hok (by simp) ((((HExt.rfl.cons (Nat.le_refl n)).cons (by simp)).cons (by simp)).cons (by simp)))))) 
            · refine ⟨⟨q + 1, by omega⟩, by show L.length - (q + 1) < L.length - q; omega, ?_⟩
              refine Imp.id (by simp) ?_ ?_
              · simp only [go_sem, Nat.reduceBEq, Nat.reduceLT, Nat.reduceLeDiff, Nat.reduceAdd, Nat.reduceMul, Nat.reduceSub, Nat.reduceMod, Nat.reduceDiv, Nat.reduceEqDiff, Int.reduceToNat, reduceIte, reduceCtorEq, Int.reduceLE, Int.reduceLT, Int.reduceEq, Int.reduceNeg, Int.reduceAdd, Int.reduceSub, Int.reduceMul, cntN, h4, w64 (n := (q : Int) + 1) (by omega), Int.natCast_add, Int.natCast_one]
                omega
              · exact impH.cons0 (by simp only [go_sem, Nat.reduceBEq, Nat.reduceLT, Nat.reduceLeDiff, Nat.reduceAdd, Nat.reduceMul, Nat.reduceSub, Nat.reduceMod, Nat.reduceDiv, Nat.reduceEqDiff, Int.reduceToNat, reduceIte, reduceCtorEq, Int.reduceLE, Int.reduceLT, Int.reduceEq, Int.reduceNeg, Int.reduceAdd, Int.reduceSub, Int.reduceMul]) (by simp) (SegLe.flat (Nat.le_refl _) id (.inr rfl) fun z hz => ⟨rfl, spotsC_flat _ z⟩) (impH.cons0 (by simp only [go_sem, Nat.reduceBEq, Nat.reduceLT, Nat.reduceLeDiff, Nat.reduceAdd, Nat.reduceMul, Nat.reduceSub, Nat.reduceMod, Nat.reduceDiv, Nat.reduceEqDiff, Int.reduceToNat, reduceIte, reduceCtorEq, Int.reduceLE, Int.reduceLT, Int.reduceEq, Int.reduceNeg, Int.reduceAdd, Int.reduceSub, Int.reduceMul]) (by simp) (SegLe.flat (Nat.le_refl _) id (.inr rfl) fun z hz => ⟨rfl, cellC_flat W z⟩)
                (impH.cons0 (by simp only [go_sem, Nat.reduceBEq, Nat.reduceLT, Nat.reduceLeDiff, Nat.reduceAdd, Nat.reduceMul, Nat.reduceSub, Nat.reduceMod, Nat.reduceDiv, Nat.reduceEqDiff, Int.reduceToNat, reduceIte, reduceCtorEq, Int.reduceLE, Int.reduceLT, Int.reduceEq, Int.reduceNeg, Int.reduceAdd, Int.reduceSub, Int.reduceMul]) (by simp) (SegLe.flat (Nat.le_refl _) id (.inr rfl) fun z hz => ⟨rfl, hS'.flat hz⟩) (impH.cons0 (by simp only [go_sem, Nat.reduceBEq, Nat.reduceLT, Nat.reduceLeDiff, Nat.reduceAdd, Nat.reduceMul, Nat.reduceSub, Nat.reduceMod, Nat.reduceDiv, Nat.reduceEqDiff, Int.reduceToNat, reduceIte, reduceCtorEq, Int.reduceLE, Int.reduceLT, Int.reduceEq, Int.reduceNeg, Int.reduceAdd, Int.reduceSub, Int.reduceMul]) (by simp) (SegLe.flat (Nat.le_refl _) id (.inr rfl) fun z hz => ⟨rfl, zeroC_flat z⟩) (impH.base0 hok (by simp) ((((HExt.rfl.cons (Nat.le_refl n)).cons (by simp)).cons (by simp)).cons (by simp)))))) 
          · have hq2 : q = L.length := by omega
            subst hq2
            refine (min_Q _ _ _ _ _).A ?_
            simp only [go_sem, Nat.reduceBEq, Nat.reduceLT, Nat.reduceLeDiff, Nat.reduceAdd, Nat.reduceMul, Nat.reduceSub, Nat.reduceMod, Nat.reduceDiv, Nat.reduceEqDiff, Int.reduceToNat, reduceIte, reduceCtorEq, Int.reduceLE, Int.reduceLT, Int.reduceEq, Int.reduceNeg, Int.reduceAdd, Int.reduceSub, Int.reduceMul, ← hby]
            refine T_drawT hti 20 _ _ (by kernel_rfl) (by kernel_rfl) ?_
            have hw2 : c' (2 + Y.toNat * 8 + X.toNat) = .int .i16 ((dryN S W j).1.wet Y X) := hS'.wet Y X y0 y8 x0 x8
            simp only [go_sem, Nat.reduceBEq, Nat.reduceLT, Nat.reduceLeDiff, Nat.reduceAdd, Nat.reduceMul, Nat.reduceSub, Nat.reduceMod, Nat.reduceDiv, Nat.reduceEqDiff, Int.reduceToNat, reduceIte, reduceCtorEq, Int.reduceLE, Int.reduceLT, Int.reduceEq, Int.reduceNeg, Int.reduceAdd, Int.reduceSub, Int.reduceMul, hcx, hcy, hjr, x0, x8, y0, y8, hw2]
            have hS3 := (hS'.at.setWet (v := IntKind.i16.wrap ((dryN S W j).1.wet Y X - IntKind.i16.wrap (dryBy S X Y))) y0 y8 x0 x8 (w16_in _)).F
            simp only [Nat.zero_add] at hS3
            refine ⟨by omega, by omega, by omega, by omega, ⟨(j + 1, _), by omega, Eq.subst (motive := fun X => ShF _ X) (congrArg Prod.fst hdn).symm hS3⟩, by show H * W - (j + 1) < H * W - j; omega, ?_⟩
            refine Imp.id (by simp) ?_ ?_
            · simp only [go_sem, Nat.reduceBEq, Nat.reduceLT, Nat.reduceLeDiff, Nat.reduceAdd, Nat.reduceMul, Nat.reduceSub, Nat.reduceMod, Nat.reduceDiv, Nat.reduceEqDiff, Int.reduceToNat, reduceIte, reduceCtorEq, Int.reduceLE, Int.reduceLT, Int.reduceEq, Int.reduceNeg, Int.reduceAdd, Int.reduceSub, Int.reduceMul, hdn, w64 (n := (j : Int) + 1) (by omega), w64 (n := (dryN S W j).2 + dryBy S X Y) (by omega), Int.natCast_add, Int.natCast_one]
              omega
            · exact impH.cons0 (by simp only [go_sem, Nat.reduceBEq, Nat.reduceLT, Nat.reduceLeDiff, Nat.reduceAdd, Nat.reduceMul, Nat.reduceSub, Nat.reduceMod, Nat.reduceDiv, Nat.reduceEqDiff, Int.reduceToNat, reduceIte, reduceCtorEq, Int.reduceLE, Int.reduceLT, Int.reduceEq, Int.reduceNeg, Int.reduceAdd, Int.reduceSub, Int.reduceMul]) (by simp) (SegLe.flat (Nat.le_refl _) id (.inr rfl) fun z hz => ⟨rfl, cellC_flat W z⟩) (impH.cons0 ((hget_miss _ _ _ _ (by simp)).trans ((hget_miss _ _ _ _ (by simp)).trans (hget_hit _ _ _))) (by simp) (SegLe.flat (Nat.le_refl _) id (.inr rfl) fun z hz => ⟨rfl, hS3.flat hz⟩) (impH.cons0 (by simp only [go_sem, Nat.reduceBEq, Nat.reduceLT, Nat.reduceLeDiff, Nat.reduceAdd, Nat.reduceMul, Nat.reduceSub, Nat.reduceMod, Nat.reduceDiv, Nat.reduceEqDiff, Int.reduceToNat, reduceIte, reduceCtorEq, Int.reduceLE, Int.reduceLT, Int.reduceEq, Int.reduceNeg, Int.reduceAdd, Int.reduceSub, Int.reduceMul]) (by simp) (SegLe.flat (Nat.le_refl _) id (.inr rfl) fun z hz => ⟨rfl, zeroC_flat z⟩) (impH.base0 hok (by simp) ((((HExt.rfl.cons (Nat.le_refl n)).cons (by simp)).cons (by simp)).cons (by simp)))))
    · have hj2 : j = H * W := by omega
      subst hj2
      have hone : ones (.agg 266 fun j => c' j) = True := hS'.ones
      simp only [go_sem, Nat.reduceBEq, Nat.reduceLT, Nat.reduceLeDiff, Nat.reduceAdd, Nat.reduceMul, Nat.reduceSub, Nat.reduceMod, Nat.reduceDiv, Nat.reduceEqDiff, Int.reduceToNat, reduceIte, reduceCtorEq, Int.reduceLE, Int.reduceLT, Int.reduceEq, Int.reduceNeg, Int.reduceAdd, Int.reduceSub, Int.reduceMul, hone]
      exact ⟨c', hS', rfl⟩
end
end Go.Proofs.Ytebpkdolmlloaaa.V

/- The reference's water of a sheet: the walk. -/
namespace Go.Proofs.Ytebpkdolmlloaaa.V

theorem wat8 {S : Sh} (hG : Good S) (j : Nat) (hj : j ≤ 64) : 0 ≤ waterN S 8 j ∧ waterN S 8 j ≤ 200 * j := by
  have hc : ∀ k, k < j → 0 ≤ wetAt S 8 k ∧ wetAt S 8 k ≤ 200 := fun k hk => hG.wet _ _ (by omega) (by omega) (by omega) (by omega)
  have h1 := sumN_nonneg (f := wetAt S 8) (n := j) fun k hk => (hc k hk).1
  have h2 := sumN_bound (f := wetAt S 8) (n := j) (b := 200) fun k hk => (hc k hk).2
  unfold waterN
  omega
section
variable (cx : Cx) (h : List (Nat × Seg)) (n : Nat)
theorem water2_Q (i o : Nat) (s : Seg) (S : Sh) (hs : hget h i = some s) (hi : i < n) (hS : ShAt s o S) (hG : Good S) :
    CallQ Try.prog cx 30 [.ptr i o] h n (.int .i64 (waterN S 8 64)) := by
  have hlen := hS.1
  refine callQ_of_T (P := Try.prog) hti (nt := 26) (rs := [.tmp 2]) rfl rfl Try.call30 Try.func30 rfl _ (by simp only [go_sem, and_self]) (Nat.le_of_ble_eq_true rfl) _ (by first | exact trivial | (refine lt_flat rfl ?_; simp [SV.flat]; done) | simp only [go_sem]) fun hok => ?_
  simp only [go_sem, Nat.reduceBEq, Nat.reduceLT, Nat.reduceLeDiff, Nat.reduceAdd, Nat.reduceMul, Nat.reduceSub, Nat.reduceMod, Nat.reduceDiv, Nat.reduceEqDiff, Int.reduceToNat, reduceIte, reduceCtorEq, Int.reduceLE, Int.reduceLT, Int.reduceEq, Int.reduceNeg, Int.reduceAdd, Int.reduceSub, Int.reduceMul]
  refine T_lp (ι := { y : Nat // y ≤ 8 }) (fun y => ([(0, .ptr i o), (3, .int .i64 (waterN S 8 (y.1 * 8))), (4, .int .i64 y.1)], h, n)) (fun y => 8 - y.1) ⟨0, by omega⟩ ?_ ?_
  · refine Imp.id (by simp) ?_ (impH.base0 hok (Nat.le_refl n) HExt.rfl)
    simp only [go_sem, Nat.reduceBEq, Nat.reduceLT, Nat.reduceLeDiff, Nat.reduceAdd, Nat.reduceMul, Nat.reduceSub, Nat.reduceMod, Nat.reduceDiv, Nat.reduceEqDiff, Int.reduceToNat, reduceIte, reduceCtorEq, Int.reduceLE, Int.reduceLT, Int.reduceEq, Int.reduceNeg, Int.reduceAdd, Int.reduceSub, Int.reduceMul, Nat.zero_mul, waterN, sumN]
    omega
  · rintro ⟨y, hy⟩
    simp only [go_sem, Nat.reduceBEq, Nat.reduceLT, Nat.reduceLeDiff, Nat.reduceAdd, Nat.reduceMul, Nat.reduceSub, Nat.reduceMod, Nat.reduceDiv, Nat.reduceEqDiff, Int.reduceToNat, reduceIte, reduceCtorEq, Int.reduceLE, Int.reduceLT, Int.reduceEq, Int.reduceNeg, Int.reduceAdd, Int.reduceSub, Int.reduceMul, decide_eq_true_eq, decide_eq_false_iff_not]
    refine ⟨fun h1 => ?_, fun h1 => ?_⟩
    · refine T_lp (ι := { x : Nat // x ≤ 8 }) (fun x => ([(0, .ptr i o), (3, .int .i64 (waterN S 8 (y * 8 + x.1))), (4, .int .i64 y), (5, .int .i64 x.1)], h, n)) (fun x => 8 - x.1) ⟨0, by omega⟩ ?_ ?_
      · refine Imp.id (by simp) ?_ (impH.base0 hok (Nat.le_refl n) HExt.rfl)
        simp only [go_sem, Nat.reduceBEq, Nat.reduceLT, Nat.reduceLeDiff, Nat.reduceAdd, Nat.reduceMul, Nat.reduceSub, Nat.reduceMod, Nat.reduceDiv, Nat.reduceEqDiff, Int.reduceToNat, reduceIte, reduceCtorEq, Int.reduceLE, Int.reduceLT, Int.reduceEq, Int.reduceNeg, Int.reduceAdd, Int.reduceSub, Int.reduceMul]
        omega
      · rintro ⟨x, hx⟩
        have hb := wat8 hG (y * 8 + x) (by omega)
        simp only [go_sem, Nat.reduceBEq, Nat.reduceLT, Nat.reduceLeDiff, Nat.reduceAdd, Nat.reduceMul, Nat.reduceSub, Nat.reduceMod, Nat.reduceDiv, Nat.reduceEqDiff, Int.reduceToNat, reduceIte, reduceCtorEq, Int.reduceLE, Int.reduceLT, Int.reduceEq, Int.reduceNeg, Int.reduceAdd, Int.reduceSub, Int.reduceMul, hs, decide_eq_true_eq, decide_eq_false_iff_not]
        refine ⟨fun h2 => ?_, fun h2 => ?_⟩
        · have hxr : (0 : Int) ≤ x ∧ (x : Int) < 8 := ⟨by omega, h2⟩
          have hyr : (0 : Int) ≤ y ∧ (y : Int) < 8 := ⟨by omega, h1⟩
          have hw2 : s.c (o + 2 + y * 8 + x) = .int .i16 (S.wet y x) := by have := hS.wet hyr.1 hyr.2 hxr.1 hxr.2; simpa only [Int.toNat_natCast] using this
          have hwr := hG.wet y x hyr.1 hyr.2 hxr.1 hxr.2
          have hnx : waterN S 8 (y * 8 + (x + 1)) = waterN S 8 (y * 8 + x) + S.wet y x := by
            show sumN _ (y * 8 + x) + wetAt S 8 (y * 8 + x) = _
            unfold wetAt
            rw [show (y * 8 + x) / 8 = y by omega, show (y * 8 + x) % 8 = x by omega]; rfl
          simp only [go_sem, Nat.reduceBEq, Nat.reduceLT, Nat.reduceLeDiff, Nat.reduceAdd, Nat.reduceMul, Nat.reduceSub, Nat.reduceMod, Nat.reduceDiv, Nat.reduceEqDiff, Int.reduceToNat, reduceIte, reduceCtorEq, Int.reduceLE, Int.reduceLT, Int.reduceEq, Int.reduceNeg, Int.reduceAdd, Int.reduceSub, Int.reduceMul, hxr, hyr, hw2, w64 (n := S.wet y x) (by omega), w64 (n := waterN S 8 (y * 8 + x) + S.wet y x) (by omega)]
          refine ⟨by omega, ⟨x + 1, by omega⟩, by show 8 - (x + 1) < 8 - x; omega, ?_⟩
          refine Imp.id (by simp) ?_ (impH.base0 hok (Nat.le_refl n) HExt.rfl)
          simp only [go_sem, Nat.reduceBEq, Nat.reduceLT, Nat.reduceLeDiff, Nat.reduceAdd, Nat.reduceMul, Nat.reduceSub, Nat.reduceMod, Nat.reduceDiv, Nat.reduceEqDiff, Int.reduceToNat, reduceIte, reduceCtorEq, Int.reduceLE, Int.reduceLT, Int.reduceEq, Int.reduceNeg, Int.reduceAdd, Int.reduceSub, Int.reduceMul, hnx, w64 (n := (x : Int) + 1) (by omega), Int.natCast_add, Int.natCast_one]
          omega
        · have hx8 : x = 8 := by omega
          subst hx8
          refine ⟨⟨y + 1, by omega⟩, by show 8 - (y + 1) < 8 - y; omega, ?_⟩
          refine Imp.id (by simp) ?_ (impH.base0 hok (Nat.le_refl n) HExt.rfl)
          simp only [go_sem, Nat.reduceBEq, Nat.reduceLT, Nat.reduceLeDiff, Nat.reduceAdd, Nat.reduceMul, Nat.reduceSub, Nat.reduceMod, Nat.reduceDiv, Nat.reduceEqDiff, Int.reduceToNat, reduceIte, reduceCtorEq, Int.reduceLE, Int.reduceLT, Int.reduceEq, Int.reduceNeg, Int.reduceAdd, Int.reduceSub, Int.reduceMul, show (y + 1) * 8 = y * 8 + 8 by omega, w64 (n := (y : Int) + 1) (by omega), Int.natCast_add, Int.natCast_one]
          omega
    · have hy8 : y = 8 := by omega
      subst hy8
      rfl
end

theorem sumN_split (f : Nat → Int) (a b : Nat) : sumN f (a + b) = sumN f a + sumN (fun k => f (a + k)) b := by
  induction b with
  | zero => simp [sumN]
  | succ b ih => rw [show a + (b + 1) = (a + b) + 1 by omega]; simp only [sumN, ih]; omega
theorem sumN_zero (f : Nat → Int) (n m : Nat) (h : n ≤ m) (h0 : ∀ k, n ≤ k → k < m → f k = 0) : sumN f m = sumN f n := by
  obtain ⟨d, rfl⟩ : ∃ d, m = n + d := ⟨m - n, by omega⟩
  rw [sumN_split, sumN_congr (g := fun _ => 0) fun k hk => h0 (n + k) (by omega) (by omega)]
  have : ∀ d, sumN (fun _ => 0) d = 0 := by intro d; induction d with
    | zero => rfl
    | succ d ih => simp [sumN, ih]
  rw [this]; omega
theorem sumN_rows (S : Sh) {W : Nat} (hW : 0 < W) : ∀ h, sumN (wetAt S W) (h * W) = sumN (fun y => sumN (fun x => S.wet y x) W) h
  | 0 => by simp [sumN]
  | h + 1 => by
    rw [Nat.succ_mul, sumN_split, sumN_rows S hW h]
    simp only [sumN]
    congr 1
    apply sumN_congr
    intro x hx
    unfold wetAt
    have h5 : (h * W + x) % W = x := by rw [Nat.mul_comm, Nat.mul_add_mod, Nat.mod_eq_of_lt hx]
    have h6 : (h * W + x) / W = h := by rw [Nat.mul_comm, Nat.mul_add_div hW, Nat.div_eq_of_lt hx, Nat.add_zero]
    rw [h5, h6]
/-- Places that a sheet does not have hold no water. -/
def Out (S : Sh) : Prop := ∀ y x : Int, 0 ≤ y → y < 8 → 0 ≤ x → x < 8 → hasB S x y = false → S.wet y x = 0
theorem Valid.out {S : Sh} (hV : Valid S) : Out S := fun y x a b c d hf => (hV.2 y x a b c d).2.2.2.elim (fun h => by rw [hf] at h; cases h.1) (fun h => h.1)
theorem water8 {S : Sh} {W H : Nat} (hs : Small S) (hO : Out S) (hW : S.wide = W) (hH : S.high = H) : waterN S 8 64 = water S W H := by
  unfold Small at hs
  have out : ∀ y x : Nat, y < 8 → x < 8 → (W ≤ x ∨ H ≤ y) → S.wet y x = 0 := by
    intro y x hy hx ho
    refine hO y x (by omega) (by omega) (by omega) (by omega) ?_
    rw [Bool.eq_false_iff]
    simp only [hasB, ne_eq, Bool.and_eq_true, decide_eq_true_eq, hW, hH]
    omega
  unfold water waterN
  rw [show 64 = 8 * 8 from rfl, sumN_rows S (by omega) 8, sumN_rows S (by omega) H]
  rw [sumN_zero _ H 8 (by omega) fun y hy hy8 => ?_]
  · apply sumN_congr
    intro y hy
    exact sumN_zero _ W 8 (by omega) fun x hx hx8 => out y x (by omega) hx8 (.inl hx)
  · have := sumN_zero (fun x => S.wet y x) 0 8 (by omega) fun x _ hx8 => out y x hy8 hx8 (.inr hy)
    exact this
theorem cell_has {W H j : Nat} {S : Sh} (hs : Small S) (hW : S.wide = W) (hH : S.high = H) (hj : j < H * W) : hasB S ((j % W : Nat) : Int) ((j / W : Nat) : Int) = true := by
  unfold Small at hs
  have hW0 : 0 < W := by omega
  have hm := Nat.mod_lt j hW0
  have hd : j / W < H := (Nat.div_lt_iff_lt_mul hW0).2 hj
  simp only [hasB, Bool.and_eq_true, decide_eq_true_eq, hW, hH]
  have h1 : 0 ≤ ((j % W : Nat) : Int) := Int.natCast_nonneg _
  have h2 : 0 ≤ ((j / W : Nat) : Int) := Int.natCast_nonneg _
  omega
theorem nbN_out {x y : Int} {L : List (Int × Int)} {a : Sh × Int} (hG : Good a.1) (hxy : hasB a.1 x y = true) (hL : ∀ q, q < L.length → hasB a.1 (L.getD q (0, 0)).1 (L.getD q (0, 0)).2 = true) (u v : Int) (huv : hasB a.1 u v = false) :
    ∀ q, q ≤ L.length → (nbN x y L a q).1.wet v u = a.1.wet v u
  | 0, _ => rfl
  | q + 1, hq => by
    have ih := nbN_out hG hxy hL u v huv q (by omega)
    obtain ⟨x0, x8, y0, y8⟩ := hasB_in hG.small hxy
    obtain ⟨l1, l2, l3, l4⟩ := hasB_in hG.small (hL q (by omega))
    obtain ⟨g1, g2, _, _⟩ := nbN_good (S0 := a.1) x0 x8 y0 y8 (fun q hq => hasB_in hG.small (hL q hq)) hG (.refl a.1) q (by omega)
    simp only [nbN, nbStep]
    split
    · rename_i h2
      rw [giveS_wet g1 x0 x8 y0 y8 l1 l2 l3 l4 h2, if_neg, if_neg, ih]
      · rintro ⟨rfl, rfl⟩; rw [hxy] at huv; cases huv
      · rintro ⟨rfl, rfl⟩; rw [hL q (by omega)] at huv; cases huv
    · exact ih
theorem runN_out {S : Sh} {W H : Nat} (hG : Good S) (hW : S.wide = W) (hH : S.high = H) (u v : Int) (huv : hasB S u v = false) : ∀ j, j ≤ H * W → (runN S W j).1.wet v u = S.wet v u
  | 0, _ => rfl
  | j + 1, hj => by
    have ih := runN_out hG hW hH u v huv j (by omega)
    obtain ⟨g1, g2, _, _⟩ := runN_good hG hW hH j (by omega)
    simp only [runN, runCell]
    split
    · exact ih
    · exact (nbN_out g1 (cell_has g1.small (g2.wide.trans hW) (g2.high.trans hH) (by omega)) (fun q hq => (nb_mem g1.small hq).1) u v (by rw [g2.hasB]; exact huv) _ (Nat.le_refl _)).trans ih
theorem dryS_out {S : Sh} {W H : Nat} (hG : Good S) (hW : S.wide = W) (hH : S.high = H) (u v : Int) (huv : hasB S u v = false) : (dryS S W H).1.wet v u = S.wet v u := by
  obtain ⟨g1, _⟩ := dryN_wet hG hW hH (H * W) (Nat.le_refl _)
  unfold dryS
  rw [g1, if_neg]
  rintro ⟨k, hk, rfl, rfl⟩
  rw [cell_has hG.small hW hH hk] at huv; cases huv
theorem radN_out {S : Sh} {W H : Nat} (hG : Good S) (hO : Out S) (hW : S.wide = W) (hH : S.high = H) : ∀ k, Out (radN S W H k)
  | 0 => hO
  | k + 1 => by
    obtain ⟨g1, g2⟩ := radN_good hG hW hH k
    have hW' := g2.wide.trans hW
    have hH' := g2.high.trans hH
    obtain ⟨a1, a2, _⟩ := runN_good g1 hW' hH' (H * W) (Nat.le_refl _)
    obtain ⟨_, b2⟩ := radN_good hG hW hH (k + 1)
    intro y x a b c d hf
    have hf0 : hasB S x y = false := by rw [← b2.hasB]; exact hf
    have hf1 : hasB (radN S W H k) x y = false := by rw [g2.hasB]; exact hf0
    have e1 := dryS_out a1 (a2.wide.trans hW') (a2.high.trans hH') x y (by rw [a2.hasB]; exact hf1)
    have e2 := runN_out g1 hW' hH' x y hf1 (H * W) (Nat.le_refl _)
    exact e1.trans (e2.trans (radN_out hG hO hW hH k y x a b c d hf1))
end Go.Proofs.Ytebpkdolmlloaaa.V

/- Validity of a sheet, by the reference: the walk. -/
namespace Go.Proofs.Ytebpkdolmlloaaa.V

/-- Water and dye of a place are as they should be. -/
def CellIn (S : Sh) (x y : Int) : Prop :=
  (0 ≤ S.wet y x ∧ S.wet y x ≤ 200) ∧ (∀ i : Int, 0 ≤ i → i < 3 → 0 ≤ S.dye y x i ∧ S.dye y x i ≤ 1000) ∧
    ((hasB S x y = true ∧ waxB S x y = false) ∨ (S.wet y x = 0 ∧ S.dye y x 0 = 0 ∧ S.dye y x 1 = 0 ∧ S.dye y x 2 = 0))
open Classical in
noncomputable def cellB (S : Sh) (x y : Int) : Bool := decide (CellIn S x y)
theorem cellB_true {S : Sh} {x y : Int} (h : CellIn S x y) : cellB S x y = true := by simp [cellB, h]
theorem cellB_false {S : Sh} {x y : Int} (h : ¬ CellIn S x y) : cellB S x y = false := by simp [cellB, h]
/-- Water and the first dyes of a place, added. -/
def sumD (S : Sh) (x y : Int) : Nat → Int
  | 0 => S.wet y x
  | k + 1 => sumD S x y k + S.dye y x k

section
variable (cx : Cx) (h : List (Nat × Seg)) (n : Nat)

theorem cell2_Q (i o : Nat) (s : Seg) (S : Sh) (x y : Int) (hs : hget h i = some s) (hi : i < n) (hS : ShAt s o S) (hx : 0 ≤ x) (hx8 : x < 8) (hy : 0 ≤ y) (hy8 : y < 8) :
    CallQ Try.prog cx 71 [.ptr i o, spot x y] h n (.bool (cellB S x y)) := by
  have hne : (n == i) = false := by simp; omega
  have hlen := hS.1
  have hwr := hS.2.R.wet y x
  have hbad : ¬ CellIn S x y → cellB S x y = false := cellB_false
  refine callQ_of_T (P := Try.prog) hti (nt := 60) (rs := [.tmp 4]) rfl rfl Try.call71 Try.func71 rfl _ (by simp only [go_sem, and_self]) (Nat.le_of_ble_eq_true rfl) _ (by first | exact trivial | (refine lt_flat rfl ?_; simp [SV.flat]; done) | simp only [go_sem]) fun hok => ?_
  simp only [go_sem, Nat.reduceBEq, Nat.reduceLT, Nat.reduceLeDiff, Nat.reduceAdd, Nat.reduceMul, Nat.reduceSub, Nat.reduceMod, Nat.reduceDiv, Nat.reduceEqDiff, Int.reduceToNat, reduceIte, reduceCtorEq, Int.reduceLE, Int.reduceLT, Int.reduceEq, Int.reduceNeg, Int.reduceAdd, Int.reduceSub, Int.reduceMul]
  refine T_draw hti _ _ (by kernel_rfl) (by kernel_rfl) ?_
  simp only [go_sem, Nat.reduceBEq, Nat.reduceLT, Nat.reduceLeDiff, Nat.reduceAdd, Nat.reduceMul, Nat.reduceSub, Nat.reduceMod, Nat.reduceDiv, Nat.reduceEqDiff, Int.reduceToNat, reduceIte, reduceCtorEq, Int.reduceLE, Int.reduceLT, Int.reduceEq, Int.reduceNeg, Int.reduceAdd, Int.reduceSub, Int.reduceMul, hne, hs, hS.wet hy hy8 hx hx8, hx, hx8, hy, hy8, w64 (n := S.wet y x) (by omega)]
  refine ⟨by omega, (in_Q _ _ _ _ _ _).A ?_⟩
  by_cases hwn : 0 ≤ S.wet y x ∧ S.wet y x ≤ 200
  rotate_left
  · simp only [go_sem, Nat.reduceBEq, Nat.reduceLT, Nat.reduceLeDiff, Nat.reduceAdd, Nat.reduceMul, Nat.reduceSub, Nat.reduceMod, Nat.reduceDiv, Nat.reduceEqDiff, Int.reduceToNat, reduceIte, reduceCtorEq, Int.reduceLE, Int.reduceLT, Int.reduceEq, Int.reduceNeg, Int.reduceAdd, Int.reduceSub, Int.reduceMul, decide_eq_false hwn, HExt_cons, SV.bool.injEq]
    exact (hbad fun hc => hwn hc.1).symm
  simp only [go_sem, Nat.reduceBEq, Nat.reduceLT, Nat.reduceLeDiff, Nat.reduceAdd, Nat.reduceMul, Nat.reduceSub, Nat.reduceMod, Nat.reduceDiv, Nat.reduceEqDiff, Int.reduceToNat, reduceIte, reduceCtorEq, Int.reduceLE, Int.reduceLT, Int.reduceEq, Int.reduceNeg, Int.reduceAdd, Int.reduceSub, Int.reduceMul, decide_eq_true hwn]
  refine T_lp (ι := { k : Nat // k ≤ 3 ∧ ∀ k' : Int, 0 ≤ k' → k' < k → 0 ≤ S.dye y x k' ∧ S.dye y x k' ≤ 1000 })
    (fun k => ([(0, .ptr i o), (3, .ptr n 0), (6, .int .i64 (sumD S x y k.1)), (7, .int .i64 k.1)], (n, ⟨2, cl [.int .i8 x, .int .i8 y], true, none⟩) :: h, n + 1)) (fun k => 3 - k.1) ⟨0, by omega, fun _ _ => by omega⟩ ?_ ?_
  · refine Imp.id (by simp) ?_ ?_
    · simp only [go_sem, Nat.reduceBEq, Nat.reduceLT, Nat.reduceLeDiff, Nat.reduceAdd, Nat.reduceMul, Nat.reduceSub, Nat.reduceMod, Nat.reduceDiv, Nat.reduceEqDiff, Int.reduceToNat, reduceIte, reduceCtorEq, Int.reduceLE, Int.reduceLT, Int.reduceEq, Int.reduceNeg, Int.reduceAdd, Int.reduceSub, Int.reduceMul, sumD]
      omega
    · exact impH.cons0 (by simp only [go_sem, Nat.reduceBEq, Nat.reduceLT, Nat.reduceLeDiff, Nat.reduceAdd, Nat.reduceMul, Nat.reduceSub, Nat.reduceMod, Nat.reduceDiv, Nat.reduceEqDiff, Int.reduceToNat, reduceIte, reduceCtorEq, Int.reduceLE, Int.reduceLT, Int.reduceEq, Int.reduceNeg, Int.reduceAdd, Int.reduceSub, Int.reduceMul]) (by simp) (SegLe.flat (Nat.le_refl _) id (.inr rfl) fun z hz => ⟨rfl, pair_flat _ _ hz⟩) (impH.base0 hok (by simp) (HExt.rfl.cons (Nat.le_refl n)))
  · rintro ⟨k, hk, hall⟩
    have hsum : 0 ≤ sumD S x y k ∧ sumD S x y k ≤ 200 + 1000 * k := by
      have : ∀ m, m ≤ k → 0 ≤ sumD S x y m ∧ sumD S x y m ≤ 200 + 1000 * m := by
        intro m
        induction m with
        | zero => intro _; simp only [sumD]; omega
        | succ m ih => intro hm; have := ih (by omega); have := hall m (by omega) (by omega); simp only [sumD]; omega
      exact this k (Nat.le_refl k)
    simp only [go_sem, Nat.reduceBEq, Nat.reduceLT, Nat.reduceLeDiff, Nat.reduceAdd, Nat.reduceMul, Nat.reduceSub, Nat.reduceMod, Nat.reduceDiv, Nat.reduceEqDiff, Int.reduceToNat, reduceIte, reduceCtorEq, Int.reduceLE, Int.reduceLT, Int.reduceEq, Int.reduceNeg, Int.reduceAdd, Int.reduceSub, Int.reduceMul, decide_eq_true_eq, decide_eq_false_iff_not]
    refine ⟨fun h1 => ?_, fun h1 => ?_⟩
    · have hkr : (0 : Int) ≤ k ∧ (k : Int) < 3 := ⟨by omega, h1⟩
      have hd1 : s.c (o + 66 + y.toNat * 24 + x.toNat * 3 + k) = .int .i16 (S.dye y x k) := hS.dyeN k hy hy8 hx hx8 (by omega)
      have hdr := hS.2.R.dye y x k
      refine T_draw hti _ _ (by kernel_rfl) (by kernel_rfl) ?_
      simp only [go_sem, Nat.reduceBEq, Nat.reduceLT, Nat.reduceLeDiff, Nat.reduceAdd, Nat.reduceMul, Nat.reduceSub, Nat.reduceMod, Nat.reduceDiv, Nat.reduceEqDiff, Int.reduceToNat, reduceIte, reduceCtorEq, Int.reduceLE, Int.reduceLT, Int.reduceEq, Int.reduceNeg, Int.reduceAdd, Int.reduceSub, Int.reduceMul, hne, hs, hx, hx8, hy, hy8, hkr, hd1, w64 (n := S.dye y x k) (by omega)]
      refine ⟨by omega, (in_Q _ _ _ _ _ _).A ?_⟩
      by_cases hdk : 0 ≤ S.dye y x k ∧ S.dye y x k ≤ 1000
      rotate_left
      · simp only [go_sem, Nat.reduceBEq, Nat.reduceLT, Nat.reduceLeDiff, Nat.reduceAdd, Nat.reduceMul, Nat.reduceSub, Nat.reduceMod, Nat.reduceDiv, Nat.reduceEqDiff, Int.reduceToNat, reduceIte, reduceCtorEq, Int.reduceLE, Int.reduceLT, Int.reduceEq, Int.reduceNeg, Int.reduceAdd, Int.reduceSub, Int.reduceMul, decide_eq_false hdk, HExt_cons, SV.bool.injEq]
        exact (hbad fun hc => hdk (hc.2.1 k hkr.1 hkr.2)).symm
      simp only [go_sem, Nat.reduceBEq, Nat.reduceLT, Nat.reduceLeDiff, Nat.reduceAdd, Nat.reduceMul, Nat.reduceSub, Nat.reduceMod, Nat.reduceDiv, Nat.reduceEqDiff, Int.reduceToNat, reduceIte, reduceCtorEq, Int.reduceLE, Int.reduceLT, Int.reduceEq, Int.reduceNeg, Int.reduceAdd, Int.reduceSub, Int.reduceMul, decide_eq_true hdk, w64 (n := sumD S x y k + S.dye y x k) (by omega)]
      refine ⟨⟨k + 1, by omega, fun k' a b => ?_⟩, by show 3 - (k + 1) < 3 - k; omega, ?_⟩
      · rcases (by omega : k' < k ∨ k' = k) with h | rfl
        · exact hall k' a h
        · exact hdk
      · refine Imp.id (by simp) ?_ ?_
        · simp only [go_sem, Nat.reduceBEq, Nat.reduceLT, Nat.reduceLeDiff, Nat.reduceAdd, Nat.reduceMul, Nat.reduceSub, Nat.reduceMod, Nat.reduceDiv, Nat.reduceEqDiff, Int.reduceToNat, reduceIte, reduceCtorEq, Int.reduceLE, Int.reduceLT, Int.reduceEq, Int.reduceNeg, Int.reduceAdd, Int.reduceSub, Int.reduceMul, sumD, w64 (n := (k : Int) + 1) (by omega), Int.natCast_add, Int.natCast_one]
          omega
        · exact impH.cons0 (by simp only [go_sem, Nat.reduceBEq, Nat.reduceLT, Nat.reduceLeDiff, Nat.reduceAdd, Nat.reduceMul, Nat.reduceSub, Nat.reduceMod, Nat.reduceDiv, Nat.reduceEqDiff, Int.reduceToNat, reduceIte, reduceCtorEq, Int.reduceLE, Int.reduceLT, Int.reduceEq, Int.reduceNeg, Int.reduceAdd, Int.reduceSub, Int.reduceMul]) (by simp) (SegLe.flat (Nat.le_refl _) id (.inr rfl) fun z hz => ⟨rfl, pair_flat _ _ hz⟩) (impH.base0 hok (by simp) (HExt.rfl.cons (Nat.le_refl n)))
    · have hk3 : k = 3 := by omega
      subst hk3
      have hd : ∀ i : Int, 0 ≤ i → i < 3 → 0 ≤ S.dye y x i ∧ S.dye y x i ≤ 1000 := fun i a b => hall i a b
      have d0 := hd 0 (by omega) (by omega)
      have d1 := hd 1 (by omega) (by omega)
      have d2 := hd 2 (by omega) (by omega)
      have hs3 : sumD S x y 3 = S.wet y x + S.dye y x 0 + S.dye y x 1 + S.dye y x 2 := rfl
      refine ⟨fun hz => ?_, fun hz => ?_⟩
      · have hnz : ¬ (S.wet y x = 0 ∧ S.dye y x 0 = 0 ∧ S.dye y x 1 = 0 ∧ S.dye y x 2 = 0) := fun h => hz (by rw [hs3]; omega)
        refine (is_Q _ _ _ i o s S x y (by simp only [go_sem, Nat.reduceBEq, Nat.reduceLT, Nat.reduceLeDiff, Nat.reduceAdd, Nat.reduceMul, Nat.reduceSub, Nat.reduceMod, Nat.reduceDiv, Nat.reduceEqDiff, Int.reduceToNat, reduceIte, reduceCtorEq, Int.reduceLE, Int.reduceLT, Int.reduceEq, Int.reduceNeg, Int.reduceAdd, Int.reduceSub, Int.reduceMul, hne, hs]) (by omega) hS (by omega) (by omega)).A ?_
        cases hb : hasB S x y
        · simp only [go_sem, Nat.reduceBEq, Nat.reduceLT, Nat.reduceLeDiff, Nat.reduceAdd, Nat.reduceMul, Nat.reduceSub, Nat.reduceMod, Nat.reduceDiv, Nat.reduceEqDiff, Int.reduceToNat, reduceIte, reduceCtorEq, Int.reduceLE, Int.reduceLT, Int.reduceEq, Int.reduceNeg, Int.reduceAdd, Int.reduceSub, Int.reduceMul, HExt_cons, SV.bool.injEq]
          exact (hbad fun hc => hc.2.2.elim (fun h => by rw [hb] at h; exact absurd h.1 (by simp)) hnz).symm
        · simp only [go_sem, Nat.reduceBEq, Nat.reduceLT, Nat.reduceLeDiff, Nat.reduceAdd, Nat.reduceMul, Nat.reduceSub, Nat.reduceMod, Nat.reduceDiv, Nat.reduceEqDiff, Int.reduceToNat, reduceIte, reduceCtorEq, Int.reduceLE, Int.reduceLT, Int.reduceEq, Int.reduceNeg, Int.reduceAdd, Int.reduceSub, Int.reduceMul]
          refine (waxed2_Q _ _ _ i o s S x y (by simp only [go_sem, Nat.reduceBEq, Nat.reduceLT, Nat.reduceLeDiff, Nat.reduceAdd, Nat.reduceMul, Nat.reduceSub, Nat.reduceMod, Nat.reduceDiv, Nat.reduceEqDiff, Int.reduceToNat, reduceIte, reduceCtorEq, Int.reduceLE, Int.reduceLT, Int.reduceEq, Int.reduceNeg, Int.reduceAdd, Int.reduceSub, Int.reduceMul, hne, hs]) (by omega) hS hx (by omega) hy hy8).A ?_
          cases wb : waxB S x y
          · simp only [go_sem, Nat.reduceBEq, Nat.reduceLT, Nat.reduceLeDiff, Nat.reduceAdd, Nat.reduceMul, Nat.reduceSub, Nat.reduceMod, Nat.reduceDiv, Nat.reduceEqDiff, Int.reduceToNat, reduceIte, reduceCtorEq, Int.reduceLE, Int.reduceLT, Int.reduceEq, Int.reduceNeg, Int.reduceAdd, Int.reduceSub, Int.reduceMul, HExt_cons, SV.bool.injEq]
            exact (cellB_true ⟨hwn, hd, .inl ⟨hb, wb⟩⟩).symm
          · simp only [go_sem, Nat.reduceBEq, Nat.reduceLT, Nat.reduceLeDiff, Nat.reduceAdd, Nat.reduceMul, Nat.reduceSub, Nat.reduceMod, Nat.reduceDiv, Nat.reduceEqDiff, Int.reduceToNat, reduceIte, reduceCtorEq, Int.reduceLE, Int.reduceLT, Int.reduceEq, Int.reduceNeg, Int.reduceAdd, Int.reduceSub, Int.reduceMul, HExt_cons, SV.bool.injEq]
            exact (hbad fun hc => hc.2.2.elim (fun h => by rw [wb] at h; exact absurd h.2 (by simp)) hnz).symm
      · rw [hs3] at hz
        rw [cellB_true ⟨hwn, hd, .inr ⟨by omega, by omega, by omega, by omega⟩⟩]

theorem ok2_Q (i o : Nat) (s : Seg) (S : Sh) (hs : hget h i = some s) (hi : i < n) (hS : ShAt s o S) :
    CallQ Try.prog cx 29 [.ptr i o] h n (.bool (validB S)) := by
  have hne : (n == i) = false := by simp; omega
  have hlen := hS.1
  have wW := w64 (n := S.wide) (by have := hS.2.R.wide; omega)
  have wH := w64 (n := S.high) (by have := hS.2.R.high; omega)
  refine callQ_of_T (P := Try.prog) hti (nt := 46) (rs := [.tmp 2]) rfl rfl Try.call29 Try.func29 rfl _ (by simp only [go_sem, and_self]) (Nat.le_of_ble_eq_true rfl) _ (by first | exact trivial | (refine lt_flat rfl ?_; simp [SV.flat]; done) | simp only [go_sem]) fun hok => ?_
  simp only [go_sem, Nat.reduceBEq, Nat.reduceLT, Nat.reduceLeDiff, Nat.reduceAdd, Nat.reduceMul, Nat.reduceSub, Nat.reduceMod, Nat.reduceDiv, Nat.reduceEqDiff, Int.reduceToNat, reduceIte, reduceCtorEq, Int.reduceLE, Int.reduceLT, Int.reduceEq, Int.reduceNeg, Int.reduceAdd, Int.reduceSub, Int.reduceMul, hne, hs, hS.wide, hS.high, wW, wH]
  refine ⟨by omega, (in_Q _ _ _ S.wide 1 8).A ?_⟩
  by_cases hw : 1 ≤ S.wide ∧ S.wide ≤ 8
  rotate_left
  · simp only [go_sem, Nat.reduceBEq, Nat.reduceLT, Nat.reduceLeDiff, Nat.reduceAdd, Nat.reduceMul, Nat.reduceSub, Nat.reduceMod, Nat.reduceDiv, Nat.reduceEqDiff, Int.reduceToNat, reduceIte, reduceCtorEq, Int.reduceLE, Int.reduceLT, Int.reduceEq, Int.reduceNeg, Int.reduceAdd, Int.reduceSub, Int.reduceMul, decide_eq_false hw, HExt_cons, SV.bool.injEq]
    exact (validB_false fun hv => hw ⟨hv.1.1, hv.1.2.1⟩).symm
  simp only [go_sem, Nat.reduceBEq, Nat.reduceLT, Nat.reduceLeDiff, Nat.reduceAdd, Nat.reduceMul, Nat.reduceSub, Nat.reduceMod, Nat.reduceDiv, Nat.reduceEqDiff, Int.reduceToNat, reduceIte, reduceCtorEq, Int.reduceLE, Int.reduceLT, Int.reduceEq, Int.reduceNeg, Int.reduceAdd, Int.reduceSub, Int.reduceMul, hne, hs, hS.wide, hS.high, wW, wH, decide_eq_true hw]
  refine ⟨by omega, (in_Q _ _ _ S.high 1 8).A ?_⟩
  by_cases hh : 1 ≤ S.high ∧ S.high ≤ 8
  rotate_left
  · simp only [go_sem, Nat.reduceBEq, Nat.reduceLT, Nat.reduceLeDiff, Nat.reduceAdd, Nat.reduceMul, Nat.reduceSub, Nat.reduceMod, Nat.reduceDiv, Nat.reduceEqDiff, Int.reduceToNat, reduceIte, reduceCtorEq, Int.reduceLE, Int.reduceLT, Int.reduceEq, Int.reduceNeg, Int.reduceAdd, Int.reduceSub, Int.reduceMul, decide_eq_false hh, HExt_cons, SV.bool.injEq]
    exact (validB_false fun hv => hh ⟨hv.1.2.2.1, hv.1.2.2.2⟩).symm
  simp only [go_sem, Nat.reduceBEq, Nat.reduceLT, Nat.reduceLeDiff, Nat.reduceAdd, Nat.reduceMul, Nat.reduceSub, Nat.reduceMod, Nat.reduceDiv, Nat.reduceEqDiff, Int.reduceToNat, reduceIte, reduceCtorEq, Int.reduceLE, Int.reduceLT, Int.reduceEq, Int.reduceNeg, Int.reduceAdd, Int.reduceSub, Int.reduceMul, decide_eq_true hh]
  have hsm : Small S := ⟨hw.1, hw.2, hh.1, hh.2⟩
  refine T_lp (ι := { y : Nat // y ≤ 8 ∧ ∀ y' x' : Int, 0 ≤ y' → y' < y → 0 ≤ x' → x' < 8 → CellOk S x' y' })
    (fun y => ([(0, .ptr i o), (3, .int .i8 y.1)], h, n)) (fun y => 8 - y.1) ⟨0, by omega, fun _ _ _ _ => by omega⟩ ?_ ?_
  · refine Imp.id (by simp) ?_ (impH.base0 hok (Nat.le_refl n) HExt.rfl)
    simp only [go_sem, Nat.reduceBEq, Nat.reduceLT, Nat.reduceLeDiff, Nat.reduceAdd, Nat.reduceMul, Nat.reduceSub, Nat.reduceMod, Nat.reduceDiv, Nat.reduceEqDiff, Int.reduceToNat, reduceIte, reduceCtorEq, Int.reduceLE, Int.reduceLT, Int.reduceEq, Int.reduceNeg, Int.reduceAdd, Int.reduceSub, Int.reduceMul]
    omega
  · rintro ⟨y, hy, hally⟩
    simp only [go_sem, Nat.reduceBEq, Nat.reduceLT, Nat.reduceLeDiff, Nat.reduceAdd, Nat.reduceMul, Nat.reduceSub, Nat.reduceMod, Nat.reduceDiv, Nat.reduceEqDiff, Int.reduceToNat, reduceIte, reduceCtorEq, Int.reduceLE, Int.reduceLT, Int.reduceEq, Int.reduceNeg, Int.reduceAdd, Int.reduceSub, Int.reduceMul, decide_eq_true_eq, decide_eq_false_iff_not]
    refine ⟨fun h1 => ?_, fun h1 => ?_⟩
    · refine T_lp (ι := { x : Nat // x ≤ 8 ∧ ∀ x' : Int, 0 ≤ x' → x' < x → CellOk S x' y })
        (fun x => ([(0, .ptr i o), (3, .int .i8 y), (4, .int .i8 x.1)], h, n)) (fun x => 8 - x.1) ⟨0, by omega, fun _ _ => by omega⟩ ?_ ?_
      · refine Imp.id (by simp) ?_ (impH.base0 hok (Nat.le_refl n) HExt.rfl)
        simp only [go_sem, Nat.reduceBEq, Nat.reduceLT, Nat.reduceLeDiff, Nat.reduceAdd, Nat.reduceMul, Nat.reduceSub, Nat.reduceMod, Nat.reduceDiv, Nat.reduceEqDiff, Int.reduceToNat, reduceIte, reduceCtorEq, Int.reduceLE, Int.reduceLT, Int.reduceEq, Int.reduceNeg, Int.reduceAdd, Int.reduceSub, Int.reduceMul]
        omega
      · rintro ⟨x, hx, hallx⟩
        simp only [go_sem, Nat.reduceBEq, Nat.reduceLT, Nat.reduceLeDiff, Nat.reduceAdd, Nat.reduceMul, Nat.reduceSub, Nat.reduceMod, Nat.reduceDiv, Nat.reduceEqDiff, Int.reduceToNat, reduceIte, reduceCtorEq, Int.reduceLE, Int.reduceLT, Int.reduceEq, Int.reduceNeg, Int.reduceAdd, Int.reduceSub, Int.reduceMul, decide_eq_true_eq, decide_eq_false_iff_not]
        refine ⟨fun h2 => ?_, fun h2 => ?_⟩
        · have x0 : (0 : Int) ≤ x := by omega
          have y0 : (0 : Int) ≤ y := by omega
          have hbad : ¬ CellOk S x y → validB S = false := fun hc => validB_false fun hv => hc (hv.2 y x y0 h1 x0 h2)
          refine (is_Q _ _ _ i o s S x y (by simp only [go_sem, Nat.reduceBEq, Nat.reduceLT, Nat.reduceLeDiff, Nat.reduceAdd, Nat.reduceMul, Nat.reduceSub, Nat.reduceMod, Nat.reduceDiv, Nat.reduceEqDiff, Int.reduceToNat, reduceIte, reduceCtorEq, Int.reduceLE, Int.reduceLT, Int.reduceEq, Int.reduceNeg, Int.reduceAdd, Int.reduceSub, Int.reduceMul, hne, hs]) (by omega) hS (by omega) (by omega)).A ?_
          cases hb : hasB S x y
          · simp only [go_sem, Nat.reduceBEq, Nat.reduceLT, Nat.reduceLeDiff, Nat.reduceAdd, Nat.reduceMul, Nat.reduceSub, Nat.reduceMod, Nat.reduceDiv, Nat.reduceEqDiff, Int.reduceToNat, reduceIte, reduceCtorEq, Int.reduceLE, Int.reduceLT, Int.reduceEq, Int.reduceNeg, Int.reduceAdd, Int.reduceSub, Int.reduceMul]
            refine (waxed2_Q _ _ _ i o s S x y (by simp only [go_sem, Nat.reduceBEq, Nat.reduceLT, Nat.reduceLeDiff, Nat.reduceAdd, Nat.reduceMul, Nat.reduceSub, Nat.reduceMod, Nat.reduceDiv, Nat.reduceEqDiff, Int.reduceToNat, reduceIte, reduceCtorEq, Int.reduceLE, Int.reduceLT, Int.reduceEq, Int.reduceNeg, Int.reduceAdd, Int.reduceSub, Int.reduceMul, hne, hs]) (by omega) hS x0 (by omega) y0 h1).A ?_
            cases wb : waxB S x y
            · have hwh : waxB S x y = true → hasB S x y = true := fun h => by rw [wb] at h; cases h
              simp only [go_sem, Nat.reduceBEq, Nat.reduceLT, Nat.reduceLeDiff, Nat.reduceAdd, Nat.reduceMul, Nat.reduceSub, Nat.reduceMod, Nat.reduceDiv, Nat.reduceEqDiff, Int.reduceToNat, reduceIte, reduceCtorEq, Int.reduceLE, Int.reduceLT, Int.reduceEq, Int.reduceNeg, Int.reduceAdd, Int.reduceSub, Int.reduceMul]
              refine (cell2_Q _ _ _ i o s S x y (by simp only [go_sem, Nat.reduceBEq, Nat.reduceLT, Nat.reduceLeDiff, Nat.reduceAdd, Nat.reduceMul, Nat.reduceSub, Nat.reduceMod, Nat.reduceDiv, Nat.reduceEqDiff, Int.reduceToNat, reduceIte, reduceCtorEq, Int.reduceLE, Int.reduceLT, Int.reduceEq, Int.reduceNeg, Int.reduceAdd, Int.reduceSub, Int.reduceMul, hne, hs]) (by omega) hS x0 h2 y0 h1).A ?_
              by_cases hc : CellIn S x y
              rotate_left
              · simp only [go_sem, Nat.reduceBEq, Nat.reduceLT, Nat.reduceLeDiff, Nat.reduceAdd, Nat.reduceMul, Nat.reduceSub, Nat.reduceMod, Nat.reduceDiv, Nat.reduceEqDiff, Int.reduceToNat, reduceIte, reduceCtorEq, Int.reduceLE, Int.reduceLT, Int.reduceEq, Int.reduceNeg, Int.reduceAdd, Int.reduceSub, Int.reduceMul, cellB_false hc, HExt_cons, SV.bool.injEq]
                exact (hbad fun h => hc h.2).symm
              simp only [go_sem, Nat.reduceBEq, Nat.reduceLT, Nat.reduceLeDiff, Nat.reduceAdd, Nat.reduceMul, Nat.reduceSub, Nat.reduceMod, Nat.reduceDiv, Nat.reduceEqDiff, Int.reduceToNat, reduceIte, reduceCtorEq, Int.reduceLE, Int.reduceLT, Int.reduceEq, Int.reduceNeg, Int.reduceAdd, Int.reduceSub, Int.reduceMul, cellB_true hc]
              refine ⟨⟨x + 1, by omega, fun x' a b => ?_⟩, by show 8 - (x + 1) < 8 - x; omega, ?_⟩
              · rcases (by omega : x' < x ∨ x' = x) with h | rfl
                · exact hallx x' a h
                · exact ⟨hwh, hc⟩
              · refine Imp.id (by simp) ?_ (impH.base0 hok (Nat.le_refl n) (HExt.rfl.cons (Nat.le_refl n)))
                simp only [go_sem, Nat.reduceBEq, Nat.reduceLT, Nat.reduceLeDiff, Nat.reduceAdd, Nat.reduceMul, Nat.reduceSub, Nat.reduceMod, Nat.reduceDiv, Nat.reduceEqDiff, Int.reduceToNat, reduceIte, reduceCtorEq, Int.reduceLE, Int.reduceLT, Int.reduceEq, Int.reduceNeg, Int.reduceAdd, Int.reduceSub, Int.reduceMul, w8 (n := (x : Int) + 1) (by omega), Int.natCast_add, Int.natCast_one]
                omega
            · simp only [go_sem, Nat.reduceBEq, Nat.reduceLT, Nat.reduceLeDiff, Nat.reduceAdd, Nat.reduceMul, Nat.reduceSub, Nat.reduceMod, Nat.reduceDiv, Nat.reduceEqDiff, Int.reduceToNat, reduceIte, reduceCtorEq, Int.reduceLE, Int.reduceLT, Int.reduceEq, Int.reduceNeg, Int.reduceAdd, Int.reduceSub, Int.reduceMul, HExt_cons, SV.bool.injEq]
              exact (hbad fun hc => by have := hc.1 wb; rw [hb] at this; cases this).symm
          · have hwh : waxB S x y = true → hasB S x y = true := fun _ => hb
            simp only [go_sem, Nat.reduceBEq, Nat.reduceLT, Nat.reduceLeDiff, Nat.reduceAdd, Nat.reduceMul, Nat.reduceSub, Nat.reduceMod, Nat.reduceDiv, Nat.reduceEqDiff, Int.reduceToNat, reduceIte, reduceCtorEq, Int.reduceLE, Int.reduceLT, Int.reduceEq, Int.reduceNeg, Int.reduceAdd, Int.reduceSub, Int.reduceMul]
            refine (cell2_Q _ _ _ i o s S x y (by simp only [go_sem, Nat.reduceBEq, Nat.reduceLT, Nat.reduceLeDiff, Nat.reduceAdd, Nat.reduceMul, Nat.reduceSub, Nat.reduceMod, Nat.reduceDiv, Nat.reduceEqDiff, Int.reduceToNat, reduceIte, reduceCtorEq, Int.reduceLE, Int.reduceLT, Int.reduceEq, Int.reduceNeg, Int.reduceAdd, Int.reduceSub, Int.reduceMul, hne, hs]) (by omega) hS x0 h2 y0 h1).A ?_
            by_cases hc : CellIn S x y
            rotate_left
            · simp only [go_sem, Nat.reduceBEq, Nat.reduceLT, Nat.reduceLeDiff, Nat.reduceAdd, Nat.reduceMul, Nat.reduceSub, Nat.reduceMod, Nat.reduceDiv, Nat.reduceEqDiff, Int.reduceToNat, reduceIte, reduceCtorEq, Int.reduceLE, Int.reduceLT, Int.reduceEq, Int.reduceNeg, Int.reduceAdd, Int.reduceSub, Int.reduceMul, cellB_false hc, HExt_cons, SV.bool.injEq]
              exact (hbad fun h => hc h.2).symm
            simp only [go_sem, Nat.reduceBEq, Nat.reduceLT, Nat.reduceLeDiff, Nat.reduceAdd, Nat.reduceMul, Nat.reduceSub, Nat.reduceMod, Nat.reduceDiv, Nat.reduceEqDiff, Int.reduceToNat, reduceIte, reduceCtorEq, Int.reduceLE, Int.reduceLT, Int.reduceEq, Int.reduceNeg, Int.reduceAdd, Int.reduceSub, Int.reduceMul, cellB_true hc]
            refine ⟨⟨x + 1, by omega, fun x' a b => ?_⟩, by show 8 - (x + 1) < 8 - x; omega, ?_⟩
            · rcases (by omega : x' < x ∨ x' = x) with h | rfl
              · exact hallx x' a h
              · exact ⟨hwh, hc⟩
            · refine Imp.id (by simp) ?_ (impH.base0 hok (Nat.le_refl n) (HExt.rfl.cons (Nat.le_refl n)))
              simp only [go_sem, Nat.reduceBEq, Nat.reduceLT, Nat.reduceLeDiff, Nat.reduceAdd, Nat.reduceMul, Nat.reduceSub, Nat.reduceMod, Nat.reduceDiv, Nat.reduceEqDiff, Int.reduceToNat, reduceIte, reduceCtorEq, Int.reduceLE, Int.reduceLT, Int.reduceEq, Int.reduceNeg, Int.reduceAdd, Int.reduceSub, Int.reduceMul, w8 (n := (x : Int) + 1) (by omega), Int.natCast_add, Int.natCast_one]
              omega
        · have hx8 : x = 8 := by omega
          refine ⟨⟨y + 1, by omega, fun y' x' a b c d => ?_⟩, by show 8 - (y + 1) < 8 - y; omega, ?_⟩
          · rcases (by omega : y' < y ∨ y' = y) with h | rfl
            · exact hally y' x' a h c d
            · exact hallx x' c (by omega)
          · refine Imp.id (by simp) ?_ (impH.base0 hok (Nat.le_refl n) HExt.rfl)
            simp only [go_sem, Nat.reduceBEq, Nat.reduceLT, Nat.reduceLeDiff, Nat.reduceAdd, Nat.reduceMul, Nat.reduceSub, Nat.reduceMod, Nat.reduceDiv, Nat.reduceEqDiff, Int.reduceToNat, reduceIte, reduceCtorEq, Int.reduceLE, Int.reduceLT, Int.reduceEq, Int.reduceNeg, Int.reduceAdd, Int.reduceSub, Int.reduceMul, w8 (n := (y : Int) + 1) (by omega), Int.natCast_add, Int.natCast_one]
            omega
    · simp only [go_sem, Nat.reduceBEq, Nat.reduceLT, Nat.reduceLeDiff, Nat.reduceAdd, Nat.reduceMul, Nat.reduceSub, Nat.reduceMod, Nat.reduceDiv, Nat.reduceEqDiff, Int.reduceToNat, reduceIte, reduceCtorEq, Int.reduceLE, Int.reduceLT, Int.reduceEq, Int.reduceNeg, Int.reduceAdd, Int.reduceSub, Int.reduceMul, HExt_cons, SV.bool.injEq]
      exact (validB_true ⟨hsm, fun y' x' a b c d => hally y' x' a (by omega) c d⟩).symm
end
end Go.Proofs.Ytebpkdolmlloaaa.V

/- Running and drying in turns, by the reference: the walk. -/
namespace Go.Proofs.Ytebpkdolmlloaaa.V

section
variable (cx : Cx) (h : List (Nat × Seg)) (n : Nat)
theorem rad2_E (F : Nat → SV) (S : Sh) (hF : ShF F S) (K : HK) (hK : ∀ r, RadEnd S n r → K r h n) : CallE Try.prog cx 7 [.agg 266 F] h n K := by
  refine CallE.imp0 (K := fun r h' n' => n ≤ n' ∧ RadEnd S n r ∧ r.lt n ∧ HExt n h h') ?_ ?_
  rotate_left
  · rintro hok r h' n' ⟨h0, hr, hlt, hx⟩
    exact ⟨r, h, n, Nat.le_refl _, by simp only [ren_nil], hlt, impH.base0 hok (Nat.le_refl n) hx, hK r hr⟩
  refine callE_of_T (P := Try.prog) hti (nt := 29) (rs := [.cell 2 32, .tmp 3, .tmp 4]) rfl rfl Try.call7 Try.func7 rfl _ (by simp only [go_sem, and_self]) (Nat.le_of_ble_eq_true rfl) _ fun hok => ?_
  simp only [go_sem, Nat.reduceBEq, Nat.reduceLT, Nat.reduceLeDiff, Nat.reduceAdd, Nat.reduceMul, Nat.reduceSub, Nat.reduceMod, Nat.reduceDiv, Nat.reduceEqDiff, Int.reduceToNat, reduceIte, reduceCtorEq, Int.reduceLE, Int.reduceLT, Int.reduceEq, Int.reduceNeg, Int.reduceAdd, Int.reduceSub, Int.reduceMul]
  refine (ok2_Q _ _ _ n 0 _ S (by simp only [go_sem, Nat.reduceBEq, Nat.reduceLT, Nat.reduceLeDiff, Nat.reduceAdd, Nat.reduceMul, Nat.reduceSub, Nat.reduceMod, Nat.reduceDiv, Nat.reduceEqDiff, Int.reduceToNat, reduceIte, reduceCtorEq, Int.reduceLE, Int.reduceLT, Int.reduceEq, Int.reduceNeg, Int.reduceAdd, Int.reduceSub, Int.reduceMul]) (by omega) hF.at).A ?_
  by_cases hv : Valid S
  rotate_left
  · simp only [go_sem, Nat.reduceBEq, Nat.reduceLT, Nat.reduceLeDiff, Nat.reduceAdd, Nat.reduceMul, Nat.reduceSub, Nat.reduceMod, Nat.reduceDiv, Nat.reduceEqDiff, Int.reduceToNat, reduceIte, reduceCtorEq, Int.reduceLE, Int.reduceLT, Int.reduceEq, Int.reduceNeg, Int.reduceAdd, Int.reduceSub, Int.reduceMul, validB_false hv]
    refine ⟨fun j hj => ?_, .inl ⟨hv, zeroC, fun _ => rfl, rfl⟩, cl_lt (vs := [_, _, _]) fun v hv => ?_⟩
    · exact (zeroC_flat j).one
    · simp only [List.mem_cons, List.not_mem_nil, or_false] at hv
      rcases hv with rfl | rfl | rfl
      · exact lt_aggF fun j _ => zeroC_flat j
      · trivial
      · trivial
  · simp only [go_sem, Nat.reduceBEq, Nat.reduceLT, Nat.reduceLeDiff, Nat.reduceAdd, Nat.reduceMul, Nat.reduceSub, Nat.reduceMod, Nat.reduceDiv, Nat.reduceEqDiff, Int.reduceToNat, reduceIte, reduceCtorEq, Int.reduceLE, Int.reduceLT, Int.reduceEq, Int.reduceNeg, Int.reduceAdd, Int.reduceSub, Int.reduceMul, validB_true hv]
    have hG := hv.good
    obtain ⟨W, hW⟩ := Int.eq_ofNat_of_zero_le (show 0 ≤ S.wide by have := hG.small.1; omega)
    obtain ⟨H, hH⟩ := Int.eq_ofNat_of_zero_le (show 0 ≤ S.high by have := hG.small.2.2.1; omega)
    have hWH2 : H * W ≤ 64 := Nat.mul_le_mul (by have := hG.small.2.2.2; omega : H ≤ 8) (by have := hG.small.2.1; omega : W ≤ 8)
    have hwS := water_in hG hW hH (H * W) (Nat.le_refl _)
    refine T_lp (ι := { q : Nat × (Nat → SV) // ShF q.2 (radN S W H q.1) ∧ ∀ k', k' < q.1 → 0 < water (radN S W H k') W H })
      (fun q => ([(1, .ptr n 0), (2, .ptr (n + 1) 0), (5, .int .i64 q.1.1)], (n + 1, ⟨266, zeroC, true, none⟩) :: (n, ⟨266, q.1.2, true, none⟩) :: h, n + 2)) (fun q => (water (radN S W H q.1.1) W H).toNat) ⟨(0, F), hF, fun _ hk => by omega⟩ ?_ ?_
    · refine Imp.id (by simp) ?_ ?_
      · simp only [go_sem, Nat.reduceBEq, Nat.reduceLT, Nat.reduceLeDiff, Nat.reduceAdd, Nat.reduceMul, Nat.reduceSub, Nat.reduceMod, Nat.reduceDiv, Nat.reduceEqDiff, Int.reduceToNat, reduceIte, reduceCtorEq, Int.reduceLE, Int.reduceLT, Int.reduceEq, Int.reduceNeg, Int.reduceAdd, Int.reduceSub, Int.reduceMul]
        omega
      · exact impH.cons0 (hget_hit _ _ _) (by simp) (SegLe.flat (Nat.le_refl _) id (.inr rfl) fun z hz => ⟨rfl, zeroC_flat z⟩) (impH.cons0 (by simp only [go_sem, Nat.reduceBEq, Nat.reduceLT, Nat.reduceLeDiff, Nat.reduceAdd, Nat.reduceMul, Nat.reduceSub, Nat.reduceMod, Nat.reduceDiv, Nat.reduceEqDiff, Int.reduceToNat, reduceIte, reduceCtorEq, Int.reduceLE, Int.reduceLT, Int.reduceEq, Int.reduceNeg, Int.reduceAdd, Int.reduceSub, Int.reduceMul]) (by simp) (SegLe.flat (Nat.le_refl _) id (.inr rfl) fun z hz => ⟨rfl, hF.flat hz⟩) (impH.base0 hok (by simp) ((HExt.rfl.cons (Nat.le_refl n)).cons (by simp))))
    · rintro ⟨⟨k, c'⟩, hc', hpos⟩
      simp only at hc' hpos
      obtain ⟨g1, g2⟩ := radN_good hG hW hH k
      have hW' := g2.wide.trans hW
      have hH' := g2.high.trans hH
      have hcnt := radN_count hG hW hH k hpos
      have hwk := water_in g1 hW' hH' (H * W) (Nat.le_refl _)
      have hw8 := water8 g1.small (radN_out hG hv.out hW hH k) hW' hH'
      have hone : ones (.agg 266 fun j => c' j) = True := hc'.ones
      simp only [go_sem, Nat.reduceBEq, Nat.reduceLT, Nat.reduceLeDiff, Nat.reduceAdd, Nat.reduceMul, Nat.reduceSub, Nat.reduceMod, Nat.reduceDiv, Nat.reduceEqDiff, Int.reduceToNat, reduceIte, reduceCtorEq, Int.reduceLE, Int.reduceLT, Int.reduceEq, Int.reduceNeg, Int.reduceAdd, Int.reduceSub, Int.reduceMul]
      refine (water2_Q _ _ _ n 0 _ (radN S W H k) (by simp only [go_sem, Nat.reduceBEq, Nat.reduceLT, Nat.reduceLeDiff, Nat.reduceAdd, Nat.reduceMul, Nat.reduceSub, Nat.reduceMod, Nat.reduceDiv, Nat.reduceEqDiff, Int.reduceToNat, reduceIte, reduceCtorEq, Int.reduceLE, Int.reduceLT, Int.reduceEq, Int.reduceNeg, Int.reduceAdd, Int.reduceSub, Int.reduceMul]) (by omega) hc'.at g1).A ?_
      rw [hw8]
      simp only [go_sem, Nat.reduceBEq, Nat.reduceLT, Nat.reduceLeDiff, Nat.reduceAdd, Nat.reduceMul, Nat.reduceSub, Nat.reduceMod, Nat.reduceDiv, Nat.reduceEqDiff, Int.reduceToNat, reduceIte, reduceCtorEq, Int.reduceLE, Int.reduceLT, Int.reduceEq, Int.reduceNeg, Int.reduceAdd, Int.reduceSub, Int.reduceMul, hone, decide_eq_true_eq, decide_eq_false_iff_not]
      refine ⟨fun h1 => ?_, fun h1 => ?_⟩
      · refine ⟨.inr ⟨hv, W, H, k, c', hW, hH, hpos, h1, hc', rfl⟩, cl_lt (vs := [_, _, _]) fun v hv => ?_⟩
        simp only [List.mem_cons, List.not_mem_nil, or_false] at hv
        rcases hv with rfl | rfl | rfl
        · exact lt_aggF fun j hj => hc'.flat hj
        · trivial
        · trivial
      · have hwp : 0 < water (radN S W H k) W H := by unfold water at h1 ⊢; omega
        obtain ⟨a1, a2, _⟩ := runN_good g1 hW' hH' (H * W) (Nat.le_refl _)
        refine callA_false (run2_E _ _ _ _ (radN S W H k) W H hc' g1 hW' hH' _ fun F1 hF1 => ?_)
        simp only [go_sem, Nat.reduceBEq, Nat.reduceLT, Nat.reduceLeDiff, Nat.reduceAdd, Nat.reduceMul, Nat.reduceSub, Nat.reduceMod, Nat.reduceDiv, Nat.reduceEqDiff, Int.reduceToNat, reduceIte, reduceCtorEq, Int.reduceLE, Int.reduceLT, Int.reduceEq, Int.reduceNeg, Int.reduceAdd, Int.reduceSub, Int.reduceMul, hF1.ones]
        refine callA_false (dry2_E _ _ _ (n + 2) 0 _ (runS (radN S W H k) W H).1 W H (by simp only [go_sem, Nat.reduceBEq, Nat.reduceLT, Nat.reduceLeDiff, Nat.reduceAdd, Nat.reduceMul, Nat.reduceSub, Nat.reduceMod, Nat.reduceDiv, Nat.reduceEqDiff, Int.reduceToNat, reduceIte, reduceCtorEq, Int.reduceLE, Int.reduceLT, Int.reduceEq, Int.reduceNeg, Int.reduceAdd, Int.reduceSub, Int.reduceMul]) (by omega) hF1.at a1 (a2.wide.trans hW') (a2.high.trans hH') _ fun F2 hF2 => ?_)
        simp only [go_sem, Nat.reduceBEq, Nat.reduceLT, Nat.reduceLeDiff, Nat.reduceAdd, Nat.reduceMul, Nat.reduceSub, Nat.reduceMod, Nat.reduceDiv, Nat.reduceEqDiff, Int.reduceToNat, reduceIte, reduceCtorEq, Int.reduceLE, Int.reduceLT, Int.reduceEq, Int.reduceNeg, Int.reduceAdd, Int.reduceSub, Int.reduceMul, hF2.ones]
        have hlt := radN_water hG hW hH k hwp
        refine ⟨⟨(k + 1, F2), hF2, fun k' hk => ?_⟩, ?_, ?_⟩
        · rcases (by have hk : k' < k + 1 := hk; omega : k' < k ∨ k' = k) with h | rfl
          · exact hpos k' h
          · exact hwp
        · show (water (radN S W H (k + 1)) W H).toNat < (water (radN S W H k) W H).toNat
          omega
        · refine Imp.id (by simp) ?_ ?_
          · unfold water at hcnt
            simp only [go_sem, Nat.reduceBEq, Nat.reduceLT, Nat.reduceLeDiff, Nat.reduceAdd, Nat.reduceMul, Nat.reduceSub, Nat.reduceMod, Nat.reduceDiv, Nat.reduceEqDiff, Int.reduceToNat, reduceIte, reduceCtorEq, Int.reduceLE, Int.reduceLT, Int.reduceEq, Int.reduceNeg, Int.reduceAdd, Int.reduceSub, Int.reduceMul, w64 (n := (k : Int) + 1) (by omega), Int.natCast_add, Int.natCast_one]
            omega
          · exact impH.cons0 (by simp only [go_sem, Nat.reduceBEq, Nat.reduceLT, Nat.reduceLeDiff, Nat.reduceAdd, Nat.reduceMul, Nat.reduceSub, Nat.reduceMod, Nat.reduceDiv, Nat.reduceEqDiff, Int.reduceToNat, reduceIte, reduceCtorEq, Int.reduceLE, Int.reduceLT, Int.reduceEq, Int.reduceNeg, Int.reduceAdd, Int.reduceSub, Int.reduceMul]) (by simp) (SegLe.flat (Nat.le_refl _) id (.inr rfl) fun z hz => ⟨rfl, zeroC_flat z⟩) (impH.cons0 (by simp only [go_sem, Nat.reduceBEq, Nat.reduceLT, Nat.reduceLeDiff, Nat.reduceAdd, Nat.reduceMul, Nat.reduceSub, Nat.reduceMod, Nat.reduceDiv, Nat.reduceEqDiff, Int.reduceToNat, reduceIte, reduceCtorEq, Int.reduceLE, Int.reduceLT, Int.reduceEq, Int.reduceNeg, Int.reduceAdd, Int.reduceSub, Int.reduceMul]) (by simp) (SegLe.flat (Nat.le_refl _) id (.inr rfl) fun z hz => ⟨rfl, hF2.flat hz⟩) (impH.base0 hok (by simp) ((((HExt.rfl.cons (Nat.le_refl n)).cons (by simp)).cons (by simp)).cons (by simp))))
end
end Go.Proofs.Ytebpkdolmlloaaa.V
