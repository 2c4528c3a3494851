/- The reference's giving of a unit: the walk. -/
import Derived.Test.YtebpkdolmlloaaaD1
set_option linter.all false
namespace Go.Proofs.Ytebpkdolmlloaaa.V

section
variable (cx : Cx) (h : List (Nat × Seg)) (n : Nat)

theorem give2_E (i o : Nat) (s : Seg) (S : Sh) (fx fy tx ty : Int) (hs : hget h i = some s) (hi : i < n) (hrw : s.rw = true) (hS : ShAt s o S) (hG : Good S) (hw : 0 < S.wet fy fx) (hft : ¬ (ty = fy ∧ tx = fx))
    (hfx : 0 ≤ fx) (hfx8 : fx < 8) (hfy : 0 ≤ fy) (hfy8 : fy < 8) (htx : 0 ≤ tx) (htx8 : tx < 8) (hty : 0 ≤ ty) (hty8 : ty < 8) (K : HK)
    (hK : ∀ c' : Nat → SV, ShAt ⟨s.n, c', true, s.own⟩ o (giveS S fx fy tx ty) → (∀ z, z < o ∨ o + 266 ≤ z → c' z = s.c z) → K (.tup 0 (cl [])) (hset h i ⟨s.n, c', true, s.own⟩) n) :
    CallE Try.prog cx 75 [.ptr i o, spot fx fy, spot tx ty] h n K := by
  have hne : (n == i) = false := by simp; omega
  have hnk : ∀ k, (n + k == i) = false := fun k => by simp; omega
  obtain ⟨sn, sc, sr, so⟩ := s
  simp only at hrw
  subst hrw
  have hlen : o + 266 ≤ sn := hS.1
  have hn1 : (1 = sn) = False := by simp; omega
  refine CallE.imp0 (K := fun r h' n' => n ≤ n' ∧ r = .tup 0 (cl []) ∧ HBut i n h h' ∧ ∃ c' : Nat → SV, hget h' i = some ⟨sn, c', true, so⟩ ∧ ShAt ⟨sn, c', true, so⟩ o (giveS S fx fy tx ty) ∧ ∀ z, z < o ∨ o + 266 ≤ z → c' z = sc z) ?_ ?_
  rotate_left
  · rintro hok r h' n' ⟨h0, rfl, hx, c', ht, h1, h2⟩
    exact ⟨.tup 0 (cl []), _, n, Nat.le_refl _, by simp only [ren_nil], (fun j hj => by omega), impH.set0 hok (Nat.le_refl n) hs hx ht
      ⟨Nat.le_refl _, id, .inr rfl, fun k hk ρ => rfl, h1.below h2 (hok i _ hs).2⟩, hK c' h1 h2⟩
  have hgi : ∀ t, hget (hset h i t) i = some t := hget_hset_self hs
  refine callE_of_T (P := Try.prog) hti (nt := 117) (rs := []) rfl rfl Try.call75 Try.func75 rfl _ (by simp only [go_sem, and_self]) (Nat.le_of_ble_eq_true rfl) _ fun hok => ?_
  simp only [go_sem, Nat.reduceBEq, Nat.reduceLT, Nat.reduceLeDiff, Nat.reduceAdd, Nat.reduceMul, Nat.reduceSub, Nat.reduceMod, Nat.reduceDiv, Nat.reduceEqDiff, Int.reduceToNat, Int.toNat_natCast, Bool.not_true, Bool.not_false, false_implies, true_implies, decide_true, decide_false, true_and, and_true, and_false, false_and, and_self, reduceIte, reduceCtorEq, Bool.false_eq_true, List.getElem?_cons_zero, List.getElem?_cons_succ, List.length_cons, List.length_nil, List.take_succ_cons, List.take_zero, List.drop_succ_cons, List.drop_zero, ne_eq, not_false_eq_true, Nat.add_zero, Nat.zero_add, Nat.mul_one, Int.cast_ofNat_Int, Int.reduceLE, Int.reduceLT, Int.reduceEq, Int.reduceNeg, Nat.le_refl, Nat.le_add_right, Nat.zero_le, forall_const]
  refine (wet2_Q _ _ _ i o _ S fx fy (by simp only [go_sem, Nat.reduceBEq, Nat.reduceLT, Nat.reduceLeDiff, Nat.reduceAdd, Nat.reduceMul, Nat.reduceSub, Nat.reduceMod, Nat.reduceDiv, Nat.reduceEqDiff, Int.reduceToNat, Int.toNat_natCast, Bool.not_true, Bool.not_false, false_implies, true_implies, decide_true, decide_false, true_and, and_true, and_false, false_and, and_self, reduceIte, reduceCtorEq, Bool.false_eq_true, List.getElem?_cons_zero, List.getElem?_cons_succ, List.length_cons, List.length_nil, List.take_succ_cons, List.take_zero, List.drop_succ_cons, List.drop_zero, ne_eq, not_false_eq_true, Nat.add_zero, Nat.zero_add, Nat.mul_one, Int.cast_ofNat_Int, Int.reduceLE, Int.reduceLT, Int.reduceEq, Int.reduceNeg, Nat.le_refl, Nat.le_add_right, Nat.zero_le, forall_const, hne, hnk, hs]) (by omega) hS hfx hfx8 hfy hfy8).A ?_
  simp only [go_sem, Nat.reduceBEq, Nat.reduceLT, Nat.reduceLeDiff, Nat.reduceAdd, Nat.reduceMul, Nat.reduceSub, Nat.reduceMod, Nat.reduceDiv, Nat.reduceEqDiff, Int.reduceToNat, Int.toNat_natCast, Bool.not_true, Bool.not_false, false_implies, true_implies, decide_true, decide_false, true_and, and_true, and_false, false_and, and_self, reduceIte, reduceCtorEq, Bool.false_eq_true, List.getElem?_cons_zero, List.getElem?_cons_succ, List.length_cons, List.length_nil, List.take_succ_cons, List.take_zero, List.drop_succ_cons, List.drop_zero, ne_eq, not_false_eq_true, Nat.add_zero, Nat.zero_add, Nat.mul_one, Int.cast_ofNat_Int, Int.reduceLE, Int.reduceLT, Int.reduceEq, Int.reduceNeg, Nat.le_refl, Nat.le_add_right, Nat.zero_le, forall_const]
  refine T_lp (ι := { q : Nat × (Nat → SV) // q.1 ≤ 3 ∧ ShAt ⟨sn, q.2, true, so⟩ o (giveN (S.wet fy fx) S fx fy tx ty q.1) ∧ ∀ z, z < o ∨ o + 266 ≤ z → q.2 z = sc z })
    (fun q => ([(0, .ptr i o), (4, .ptr n 0), (5, .ptr (n + 1) 0), (6, .int .i64 (S.wet fy fx)), (7, .int .i64 q.1.1)],
      (n + 1, ⟨2, cl [.int .i8 tx, .int .i8 ty], true, none⟩) :: (n, ⟨2, cl [.int .i8 fx, .int .i8 fy], true, none⟩) :: hset h i ⟨sn, q.1.2, true, so⟩, n + 2)) (fun q => 3 - q.1.1) ⟨(0, sc), by omega, hS, fun _ _ => rfl⟩ ?_ ?_
  · refine Imp.id (by simp) ?_ ?_
    · simp only [go_sem, Nat.reduceBEq, Nat.reduceLT, Nat.reduceLeDiff, Nat.reduceAdd, Nat.reduceMul, Nat.reduceSub, Nat.reduceMod, Nat.reduceDiv, Nat.reduceEqDiff, Int.reduceToNat, Int.toNat_natCast, Bool.not_true, Bool.not_false, false_implies, true_implies, decide_true, decide_false, true_and, and_true, and_false, false_and, and_self, reduceIte, reduceCtorEq, Bool.false_eq_true, List.getElem?_cons_zero, List.getElem?_cons_succ, List.length_cons, List.length_nil, List.take_succ_cons, List.take_zero, List.drop_succ_cons, List.drop_zero, ne_eq, not_false_eq_true, Nat.add_zero, Nat.zero_add, Nat.mul_one, Int.cast_ofNat_Int, Int.reduceLE, Int.reduceLT, Int.reduceEq, Int.reduceNeg, Nat.le_refl, Nat.le_add_right, Nat.zero_le, forall_const]
      omega
    · rw [hset_self hs]
      exact impH.cons0 (hget_hit _ _ _) (by simp) (SegLe.flat (Nat.le_refl _) id (.inr rfl) fun z hz => ⟨rfl, pair_flat _ _ hz⟩)
        (impH.cons0 (by simp only [go_sem, Nat.reduceBEq, Nat.reduceLT, Nat.reduceLeDiff, Nat.reduceAdd, Nat.reduceMul, Nat.reduceSub, Nat.reduceMod, Nat.reduceDiv, Nat.reduceEqDiff, Int.reduceToNat, Int.toNat_natCast, Bool.not_true, Bool.not_false, false_implies, true_implies, decide_true, decide_false, true_and, and_true, and_false, false_and, and_self, reduceIte, reduceCtorEq, Bool.false_eq_true, List.getElem?_cons_zero, List.getElem?_cons_succ, List.length_cons, List.length_nil, List.take_succ_cons, List.take_zero, List.drop_succ_cons, List.drop_zero, ne_eq, not_false_eq_true, Nat.add_zero, Nat.zero_add, Nat.mul_one, Int.cast_ofNat_Int, Int.reduceLE, Int.reduceLT, Int.reduceEq, Int.reduceNeg, Nat.le_refl, Nat.le_add_right, Nat.zero_le, forall_const]) (by simp) (SegLe.flat (Nat.le_refl _) id (.inr rfl) fun z hz => ⟨rfl, pair_flat _ _ hz⟩)
          (impH.base0 hok (by simp) ((HExt.rfl.cons (Nat.le_refl n)).cons (by simp))))
  · rintro ⟨⟨k, c'⟩, hk, hS', ho⟩
    simp only at hk hS' ho
    simp only [go_sem, Nat.reduceBEq, Nat.reduceLT, Nat.reduceLeDiff, Nat.reduceAdd, Nat.reduceMul, Nat.reduceSub, Nat.reduceMod, Nat.reduceDiv, Nat.reduceEqDiff, Int.reduceToNat, Int.toNat_natCast, Bool.not_true, Bool.not_false, false_implies, true_implies, decide_true, decide_false, true_and, and_true, and_false, false_and, and_self, reduceIte, reduceCtorEq, Bool.false_eq_true, List.getElem?_cons_zero, List.getElem?_cons_succ, List.length_cons, List.length_nil, List.take_succ_cons, List.take_zero, List.drop_succ_cons, List.drop_zero, ne_eq, not_false_eq_true, Nat.add_zero, Nat.zero_add, Nat.mul_one, Int.cast_ofNat_Int, Int.reduceLE, Int.reduceLT, Int.reduceEq, Int.reduceNeg, Nat.le_refl, Nat.le_add_right, Nat.zero_le, forall_const, hne, hnk, hgi, decide_eq_true_eq, decide_eq_false_iff_not]
    refine ⟨fun h1 => ?_, fun h1 => ?_⟩
    · have hD := giveN_in hw hfx hfx8 hfy hfy8 htx htx8 hty hty8 hft (S := S) hG.dye (k := k) (by omega)
      have hd1 : c' (o + 66 + fy.toNat * 24 + fx.toNat * 3 + k) = .int .i16 ((giveN (S.wet fy fx) S fx fy tx ty k).dye fy fx k) := hS'.dyeN k hfy hfy8 hfx hfx8 (by omega)
      have hd2 : c' (o + 66 + ty.toNat * 24 + tx.toNat * 3 + k) = .int .i16 ((giveN (S.wet fy fx) S fx fy tx ty k).dye ty tx k) := hS'.dyeN k hty hty8 htx htx8 (by omega)
      have hk0 : (0 : Int) ≤ k := by omega
      have hk3 : (k : Int) < 3 := by omega
      generalize hSk : giveN (S.wet fy fx) S fx fy tx ty k = Sk at *
      have r1 := hD fy fx k hfy hfy8 hfx hfx8 hk0 hk3
      have r2 := hD ty tx k hty hty8 htx htx8 hk0 hk3
      have r3 := quot_le r1.1 hw
      obtain ⟨eB, _⟩ := giveBy_eq hw hfx hfx8 hfy hfy8 htx htx8 hty hty8 hD hk0 hk3
      have hm16 : IntKind.i16.wrap (min ((Sk.dye fy fx k).tdiv (S.wet fy fx)) (1000 - Sk.dye ty tx k)) = giveBy (S.wet fy fx) Sk fx fy tx ty k := by
        rw [eB, w16 (by omega)]; rfl
      have hw0 : S.wet fy fx ≠ 0 := by omega
      refine T_draw hti _ _ (by kernel_rfl) (by kernel_rfl) ?_
      simp only [go_sem, Nat.reduceBEq, Nat.reduceLT, Nat.reduceLeDiff, Nat.reduceAdd, Nat.reduceMul, Nat.reduceSub, Nat.reduceMod, Nat.reduceDiv, Nat.reduceEqDiff, Int.reduceToNat, Int.toNat_natCast, Bool.not_true, Bool.not_false, false_implies, true_implies, decide_true, decide_false, true_and, and_true, and_false, false_and, and_self, reduceIte, reduceCtorEq, Bool.false_eq_true, List.getElem?_cons_zero, List.getElem?_cons_succ, List.length_cons, List.length_nil, List.take_succ_cons, List.take_zero, List.drop_succ_cons, List.drop_zero, ne_eq, not_false_eq_true, Nat.add_zero, Nat.zero_add, Nat.mul_one, Int.cast_ofNat_Int, Int.reduceLE, Int.reduceLT, Int.reduceEq, Int.reduceNeg, Nat.le_refl, Nat.le_add_right, Nat.zero_le, forall_const, hne, hnk, hgi, hfx, hfx8, hfy, hfy8, htx, htx8, hty, hty8, hk0, hk3, hd1, hd2, hw0, w64 (n := Sk.dye fy fx k) (by omega), w64 (n := (Sk.dye fy fx k).tdiv (S.wet fy fx)) (by omega)]
      refine ⟨by omega, ?_⟩
      refine T_draw hti _ _ (by kernel_rfl) (by kernel_rfl) ?_
      simp only [go_sem, Nat.reduceBEq, Nat.reduceLT, Nat.reduceLeDiff, Nat.reduceAdd, Nat.reduceMul, Nat.reduceSub, Nat.reduceMod, Nat.reduceDiv, Nat.reduceEqDiff, Int.reduceToNat, Int.toNat_natCast, Bool.not_true, Bool.not_false, false_implies, true_implies, decide_true, decide_false, true_and, and_true, and_false, false_and, and_self, reduceIte, reduceCtorEq, Bool.false_eq_true, List.getElem?_cons_zero, List.getElem?_cons_succ, List.length_cons, List.length_nil, List.take_succ_cons, List.take_zero, List.drop_succ_cons, List.drop_zero, ne_eq, not_false_eq_true, Nat.add_zero, Nat.zero_add, Nat.mul_one, Int.cast_ofNat_Int, Int.reduceLE, Int.reduceLT, Int.reduceEq, Int.reduceNeg, Nat.le_refl, Nat.le_add_right, Nat.zero_le, forall_const, hne, hnk, hgi, hfx, hfx8, hfy, hfy8, htx, htx8, hty, hty8, hk0, hk3, hd1, hd2, w64 (n := Sk.dye ty tx k) (by omega), w64 (n := 1000 - Sk.dye ty tx k) (by omega)]
      refine ⟨by omega, (min_Q _ _ _ _ _).A ?_⟩
      simp only [go_sem, Nat.reduceBEq, Nat.reduceLT, Nat.reduceLeDiff, Nat.reduceAdd, Nat.reduceMul, Nat.reduceSub, Nat.reduceMod, Nat.reduceDiv, Nat.reduceEqDiff, Int.reduceToNat, Int.toNat_natCast, Bool.not_true, Bool.not_false, false_implies, true_implies, decide_true, decide_false, true_and, and_true, and_false, false_and, and_self, reduceIte, reduceCtorEq, Bool.false_eq_true, List.getElem?_cons_zero, List.getElem?_cons_succ, List.length_cons, List.length_nil, List.take_succ_cons, List.take_zero, List.drop_succ_cons, List.drop_zero, ne_eq, not_false_eq_true, Nat.add_zero, Nat.zero_add, Nat.mul_one, Int.cast_ofNat_Int, Int.reduceLE, Int.reduceLT, Int.reduceEq, Int.reduceNeg, Nat.le_refl, Nat.le_add_right, Nat.zero_le, forall_const]
      refine T_drawT hti 20 _ _ (by kernel_rfl) (by kernel_rfl) ?_
      have hS1 := hS'.setDye (v := IntKind.i16.wrap (Sk.dye fy fx k - giveBy (S.wet fy fx) Sk fx fy tx ty k)) k hfy hfy8 hfx hfx8 (by omega) (w16_in _)
      have hd3 := hS1.dyeN k hty hty8 htx htx8 (by omega)
      simp only at hd3
      simp only [go_sem, Nat.reduceBEq, Nat.reduceLT, Nat.reduceLeDiff, Nat.reduceAdd, Nat.reduceMul, Nat.reduceSub, Nat.reduceMod, Nat.reduceDiv, Nat.reduceEqDiff, Int.reduceToNat, Int.toNat_natCast, Bool.not_true, Bool.not_false, false_implies, true_implies, decide_true, decide_false, true_and, and_true, and_false, false_and, and_self, reduceIte, reduceCtorEq, Bool.false_eq_true, List.getElem?_cons_zero, List.getElem?_cons_succ, List.length_cons, List.length_nil, List.take_succ_cons, List.take_zero, List.drop_succ_cons, List.drop_zero, ne_eq, not_false_eq_true, Nat.add_zero, Nat.zero_add, Nat.mul_one, Int.cast_ofNat_Int, Int.reduceLE, Int.reduceLT, Int.reduceEq, Int.reduceNeg, Nat.le_refl, Nat.le_add_right, Nat.zero_le, forall_const, hne, hnk, hgi, hset_hset, hfx, hfx8, hfy, hfy8, htx, htx8, hty, hty8, hk0, hk3, hd1, hm16, hn1]
      refine ⟨by omega, by omega, ?_⟩
      refine T_drawT hti 20 _ _ (by kernel_rfl) (by kernel_rfl) ?_
      simp only [go_sem, Nat.reduceBEq, Nat.reduceLT, Nat.reduceLeDiff, Nat.reduceAdd, Nat.reduceMul, Nat.reduceSub, Nat.reduceMod, Nat.reduceDiv, Nat.reduceEqDiff, Int.reduceToNat, Int.toNat_natCast, Bool.not_true, Bool.not_false, false_implies, true_implies, decide_true, decide_false, true_and, and_true, and_false, false_and, and_self, reduceIte, reduceCtorEq, Bool.false_eq_true, List.getElem?_cons_zero, List.getElem?_cons_succ, List.length_cons, List.length_nil, List.take_succ_cons, List.take_zero, List.drop_succ_cons, List.drop_zero, ne_eq, not_false_eq_true, Nat.add_zero, Nat.zero_add, Nat.mul_one, Int.cast_ofNat_Int, Int.reduceLE, Int.reduceLT, Int.reduceEq, Int.reduceNeg, Nat.le_refl, Nat.le_add_right, Nat.zero_le, forall_const, hne, hnk, hgi, hset_hset, hfx, hfx8, hfy, hfy8, htx, htx8, hty, hty8, hk0, hk3, hd3, hm16, hn1]
      have hS2 := hS1.setDye (v := IntKind.i16.wrap ((Sk.setDye fy fx k (IntKind.i16.wrap (Sk.dye fy fx k - giveBy (S.wet fy fx) Sk fx fy tx ty k))).dye ty tx k + giveBy (S.wet fy fx) Sk fx fy tx ty k)) k hty hty8 htx htx8 (by omega) (w16_in _)
      have heq : (Sk.setDye fy fx k (IntKind.i16.wrap (Sk.dye fy fx k - giveBy (S.wet fy fx) Sk fx fy tx ty k))).setDye ty tx k (IntKind.i16.wrap ((Sk.setDye fy fx k (IntKind.i16.wrap (Sk.dye fy fx k - giveBy (S.wet fy fx) Sk fx fy tx ty k))).dye ty tx k + giveBy (S.wet fy fx) Sk fx fy tx ty k)) = giveN (S.wet fy fx) S fx fy tx ty (k + 1) := by
        simp only [giveN, hSk]; rfl
      refine ⟨by omega, by omega, ⟨(k + 1, _), by omega, Eq.subst (motive := fun X => ShAt _ o X) heq hS2, fun z hz => ?_⟩, by show 3 - (k + 1) < 3 - k; omega, ?_⟩
      · exact (upd_far (by omega)).trans ((upd_far (by omega)).trans (ho z hz))
      · refine Imp.id (by simp) ?_ ?_
        · simp only [go_sem, Nat.reduceBEq, Nat.reduceLT, Nat.reduceLeDiff, Nat.reduceAdd, Nat.reduceMul, Nat.reduceSub, Nat.reduceMod, Nat.reduceDiv, Nat.reduceEqDiff, Int.reduceToNat, Int.toNat_natCast, Bool.not_true, Bool.not_false, false_implies, true_implies, decide_true, decide_false, true_and, and_true, and_false, false_and, and_self, reduceIte, reduceCtorEq, Bool.false_eq_true, List.getElem?_cons_zero, List.getElem?_cons_succ, List.length_cons, List.length_nil, List.take_succ_cons, List.take_zero, List.drop_succ_cons, List.drop_zero, ne_eq, not_false_eq_true, Nat.add_zero, Nat.zero_add, Nat.mul_one, Int.cast_ofNat_Int, Int.reduceLE, Int.reduceLT, Int.reduceEq, Int.reduceNeg, Nat.le_refl, Nat.le_add_right, Nat.zero_le, forall_const, w64 (n := (k : Int) + 1) (by omega), Int.natCast_add, Int.natCast_one]
          omega
        · exact impH.cons0 (hget_hit _ _ _) (by simp) (SegLe.flat (Nat.le_refl _) id (.inr rfl) fun z hz => ⟨rfl, pair_flat _ _ hz⟩) (impH.cons0 (by simp only [go_sem, Nat.reduceBEq, Nat.reduceLT, Nat.reduceLeDiff, Nat.reduceAdd, Nat.reduceMul, Nat.reduceSub, Nat.reduceMod, Nat.reduceDiv, Nat.reduceEqDiff, Int.reduceToNat, Int.toNat_natCast, Bool.not_true, Bool.not_false, false_implies, true_implies, decide_true, decide_false, true_and, and_true, and_false, false_and, and_self, reduceIte, reduceCtorEq, Bool.false_eq_true, List.getElem?_cons_zero, List.getElem?_cons_succ, List.length_cons, List.length_nil, List.take_succ_cons, List.take_zero, List.drop_succ_cons, List.drop_zero, ne_eq, not_false_eq_true, Nat.add_zero, Nat.zero_add, Nat.mul_one, Int.cast_ofNat_Int, Int.reduceLE, Int.reduceLT, Int.reduceEq, Int.reduceNeg, Nat.le_refl, Nat.le_add_right, Nat.zero_le, forall_const]) (by simp) (SegLe.flat (Nat.le_refl _) id (.inr rfl) fun z hz => ⟨rfl, pair_flat _ _ hz⟩)
            (impH.base0 (hok.hset (ShAt.below (sc := sc) hS2 (fun z hz => (upd_far (by omega)).trans ((upd_far (by omega)).trans (ho z hz))) (hok i _ hs).2)) (by simp) ((HExt.rfl.cons (Nat.le_refl n)).cons (by simp))))
    · have hk3 : k = 3 := by omega
      subst hk3
      refine T_drawT hti 15 _ _ (by kernel_rfl) (by kernel_rfl) ?_
      have hw2 : c' (o + 2 + fy.toNat * 8 + fx.toNat) = .int .i16 ((giveN (S.wet fy fx) S fx fy tx ty 3).wet fy fx) := hS'.wet hfy hfy8 hfx hfx8
      have hS1 := hS'.setWet (v := IntKind.i16.wrap ((giveN (S.wet fy fx) S fx fy tx ty 3).wet fy fx - 1)) hfy hfy8 hfx hfx8 (w16_in _)
      have hw3 := hS1.wet hty hty8 htx htx8
      simp only at hw3
      simp only [go_sem, Nat.reduceBEq, Nat.reduceLT, Nat.reduceLeDiff, Nat.reduceAdd, Nat.reduceMul, Nat.reduceSub, Nat.reduceMod, Nat.reduceDiv, Nat.reduceEqDiff, Int.reduceToNat, Int.toNat_natCast, Bool.not_true, Bool.not_false, false_implies, true_implies, decide_true, decide_false, true_and, and_true, and_false, false_and, and_self, reduceIte, reduceCtorEq, Bool.false_eq_true, List.getElem?_cons_zero, List.getElem?_cons_succ, List.length_cons, List.length_nil, List.take_succ_cons, List.take_zero, List.drop_succ_cons, List.drop_zero, ne_eq, not_false_eq_true, Nat.add_zero, Nat.zero_add, Nat.mul_one, Int.cast_ofNat_Int, Int.reduceLE, Int.reduceLT, Int.reduceEq, Int.reduceNeg, Nat.le_refl, Nat.le_add_right, Nat.zero_le, forall_const, hne, hnk, hgi, hset_hset, hfx, hfx8, hfy, hfy8, hw2, hn1]
      refine ⟨by omega, by omega, ?_⟩
      refine T_drawT hti 15 _ _ (by kernel_rfl) (by kernel_rfl) ?_
      simp only [go_sem, Nat.reduceBEq, Nat.reduceLT, Nat.reduceLeDiff, Nat.reduceAdd, Nat.reduceMul, Nat.reduceSub, Nat.reduceMod, Nat.reduceDiv, Nat.reduceEqDiff, Int.reduceToNat, Int.toNat_natCast, Bool.not_true, Bool.not_false, false_implies, true_implies, decide_true, decide_false, true_and, and_true, and_false, false_and, and_self, reduceIte, reduceCtorEq, Bool.false_eq_true, List.getElem?_cons_zero, List.getElem?_cons_succ, List.length_cons, List.length_nil, List.take_succ_cons, List.take_zero, List.drop_succ_cons, List.drop_zero, ne_eq, not_false_eq_true, Nat.add_zero, Nat.zero_add, Nat.mul_one, Int.cast_ofNat_Int, Int.reduceLE, Int.reduceLT, Int.reduceEq, Int.reduceNeg, Nat.le_refl, Nat.le_add_right, Nat.zero_le, forall_const, hne, hnk, hgi, hset_hset, htx, htx8, hty, hty8, hw3, hn1]
      exact ⟨by omega, by omega, ((HBut.set i n h _).cons (Nat.le_refl n)).cons (by omega), _, rfl, hS1.setWet hty hty8 htx htx8 (w16_in _), fun z hz => (upd_far (by omega)).trans ((upd_far (by omega)).trans (ho z hz))⟩
end
end Go.Proofs.Ytebpkdolmlloaaa.V
