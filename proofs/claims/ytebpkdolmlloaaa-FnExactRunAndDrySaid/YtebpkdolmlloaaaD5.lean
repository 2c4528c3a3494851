/- The reference's water of a sheet: the walk. -/
import Derived.Test.YtebpkdolmlloaaaD4
set_option linter.all false
namespace Go.Proofs.Ytebpkdolmlloaaa.V

theorem wat8 {S : Sh} (hG : Good S) (j : Nat) (hj : j ≤ 64) : 0 ≤ waterN S 8 j ∧ waterN S 8 j ≤ 200 * j := by
  have hc : ∀ k, k < j → 0 ≤ wetAt S 8 k ∧ wetAt S 8 k ≤ 200 := fun k hk => hG.wet _ _ (by omega) (by omega) (by omega) (by omega)
  have h1 := sumN_nonneg (f := wetAt S 8) (n := j) fun k hk => (hc k hk).1
  have h2 := sumN_bound (f := wetAt S 8) (n := j) (b := 200) fun k hk => (hc k hk).2
  unfold waterN
  omega
section
variable (cx : Cx) (h : List (Nat × Seg)) (n : Nat)
theorem water2_Q (i o : Nat) (s : Seg) (S : Sh) (hs : hget h i = some s) (hi : i < n) (hS : ShAt s o S) (hG : Good S) :
    CallQ Try.prog cx 30 [.ptr i o] h n (.int .i64 (waterN S 8 64)) := by
  have hlen := hS.1
  refine callQ_of_T (P := Try.prog) hti (nt := 26) (rs := [.tmp 2]) rfl rfl Try.call30 Try.func30 rfl _ (by simp only [go_sem, and_self]) (Nat.le_of_ble_eq_true rfl) _ (by first | exact trivial | (refine lt_flat rfl ?_; simp [SV.flat])) fun hok => ?_
  simp only [go_sem, Nat.reduceBEq, Nat.reduceLT, Nat.reduceLeDiff, Nat.reduceAdd, Nat.reduceMul, Nat.reduceSub, Nat.reduceMod, Nat.reduceDiv, Nat.reduceEqDiff, Int.reduceToNat, Int.toNat_natCast, Bool.not_true, Bool.not_false, false_implies, true_implies, decide_true, decide_false, true_and, and_true, and_false, false_and, and_self, reduceIte, reduceCtorEq, Bool.false_eq_true, List.getElem?_cons_zero, List.getElem?_cons_succ, List.length_cons, List.length_nil, List.take_succ_cons, List.take_zero, List.drop_succ_cons, List.drop_zero, ne_eq, not_false_eq_true, Nat.add_zero, Nat.zero_add, Nat.mul_one, Int.cast_ofNat_Int, Int.reduceLE, Int.reduceLT, Int.reduceEq, Int.reduceNeg, Nat.le_refl, Nat.le_add_right, Nat.zero_le, forall_const]
  refine T_lp (ι := { y : Nat // y ≤ 8 }) (fun y => ([(0, .ptr i o), (3, .int .i64 (waterN S 8 (y.1 * 8))), (4, .int .i64 y.1)], h, n)) (fun y => 8 - y.1) ⟨0, by omega⟩ ?_ ?_
  · refine Imp.id (by simp) ?_ (impH.base0 hok (Nat.le_refl n) HExt.rfl)
    simp only [go_sem, Nat.reduceBEq, Nat.reduceLT, Nat.reduceLeDiff, Nat.reduceAdd, Nat.reduceMul, Nat.reduceSub, Nat.reduceMod, Nat.reduceDiv, Nat.reduceEqDiff, Int.reduceToNat, Int.toNat_natCast, Bool.not_true, Bool.not_false, false_implies, true_implies, decide_true, decide_false, true_and, and_true, and_false, false_and, and_self, reduceIte, reduceCtorEq, Bool.false_eq_true, List.getElem?_cons_zero, List.getElem?_cons_succ, List.length_cons, List.length_nil, List.take_succ_cons, List.take_zero, List.drop_succ_cons, List.drop_zero, ne_eq, not_false_eq_true, Nat.add_zero, Nat.zero_add, Nat.mul_one, Int.cast_ofNat_Int, Int.reduceLE, Int.reduceLT, Int.reduceEq, Int.reduceNeg, Nat.le_refl, Nat.le_add_right, Nat.zero_le, forall_const, Nat.zero_mul, waterN, sumN]
    omega
  · rintro ⟨y, hy⟩
    simp only [go_sem, Nat.reduceBEq, Nat.reduceLT, Nat.reduceLeDiff, Nat.reduceAdd, Nat.reduceMul, Nat.reduceSub, Nat.reduceMod, Nat.reduceDiv, Nat.reduceEqDiff, Int.reduceToNat, Int.toNat_natCast, Bool.not_true, Bool.not_false, false_implies, true_implies, decide_true, decide_false, true_and, and_true, and_false, false_and, and_self, reduceIte, reduceCtorEq, Bool.false_eq_true, List.getElem?_cons_zero, List.getElem?_cons_succ, List.length_cons, List.length_nil, List.take_succ_cons, List.take_zero, List.drop_succ_cons, List.drop_zero, ne_eq, not_false_eq_true, Nat.add_zero, Nat.zero_add, Nat.mul_one, Int.cast_ofNat_Int, Int.reduceLE, Int.reduceLT, Int.reduceEq, Int.reduceNeg, Nat.le_refl, Nat.le_add_right, Nat.zero_le, forall_const, decide_eq_true_eq, decide_eq_false_iff_not]
    refine ⟨fun h1 => ?_, fun h1 => ?_⟩
    · refine T_lp (ι := { x : Nat // x ≤ 8 }) (fun x => ([(0, .ptr i o), (3, .int .i64 (waterN S 8 (y * 8 + x.1))), (4, .int .i64 y), (5, .int .i64 x.1)], h, n)) (fun x => 8 - x.1) ⟨0, by omega⟩ ?_ ?_
      · refine Imp.id (by simp) ?_ (impH.base0 hok (Nat.le_refl n) HExt.rfl)
        simp only [go_sem, Nat.reduceBEq, Nat.reduceLT, Nat.reduceLeDiff, Nat.reduceAdd, Nat.reduceMul, Nat.reduceSub, Nat.reduceMod, Nat.reduceDiv, Nat.reduceEqDiff, Int.reduceToNat, Int.toNat_natCast, Bool.not_true, Bool.not_false, false_implies, true_implies, decide_true, decide_false, true_and, and_true, and_false, false_and, and_self, reduceIte, reduceCtorEq, Bool.false_eq_true, List.getElem?_cons_zero, List.getElem?_cons_succ, List.length_cons, List.length_nil, List.take_succ_cons, List.take_zero, List.drop_succ_cons, List.drop_zero, ne_eq, not_false_eq_true, Nat.add_zero, Nat.zero_add, Nat.mul_one, Int.cast_ofNat_Int, Int.reduceLE, Int.reduceLT, Int.reduceEq, Int.reduceNeg, Nat.le_refl, Nat.le_add_right, Nat.zero_le, forall_const]
        omega
      · rintro ⟨x, hx⟩
        have hb := wat8 hG (y * 8 + x) (by omega)
        simp only [go_sem, Nat.reduceBEq, Nat.reduceLT, Nat.reduceLeDiff, Nat.reduceAdd, Nat.reduceMul, Nat.reduceSub, Nat.reduceMod, Nat.reduceDiv, Nat.reduceEqDiff, Int.reduceToNat, Int.toNat_natCast, Bool.not_true, Bool.not_false, false_implies, true_implies, decide_true, decide_false, true_and, and_true, and_false, false_and, and_self, reduceIte, reduceCtorEq, Bool.false_eq_true, List.getElem?_cons_zero, List.getElem?_cons_succ, List.length_cons, List.length_nil, List.take_succ_cons, List.take_zero, List.drop_succ_cons, List.drop_zero, ne_eq, not_false_eq_true, Nat.add_zero, Nat.zero_add, Nat.mul_one, Int.cast_ofNat_Int, Int.reduceLE, Int.reduceLT, Int.reduceEq, Int.reduceNeg, Nat.le_refl, Nat.le_add_right, Nat.zero_le, forall_const, hs, decide_eq_true_eq, decide_eq_false_iff_not]
        refine ⟨fun h2 => ?_, fun h2 => ?_⟩
        · have hxr : (0 : Int) ≤ x ∧ (x : Int) < 8 := ⟨by omega, h2⟩
          have hyr : (0 : Int) ≤ y ∧ (y : Int) < 8 := ⟨by omega, h1⟩
          have hw2 : s.c (o + 2 + y * 8 + x) = .int .i16 (S.wet y x) := by have := hS.wet hyr.1 hyr.2 hxr.1 hxr.2; simpa only [Int.toNat_natCast] using this
          have hwr := hG.wet y x hyr.1 hyr.2 hxr.1 hxr.2
          have hnx : waterN S 8 (y * 8 + (x + 1)) = waterN S 8 (y * 8 + x) + S.wet y x := by
            show sumN _ (y * 8 + x) + wetAt S 8 (y * 8 + x) = _
            unfold wetAt
            rw [show (y * 8 + x) / 8 = y by omega, show (y * 8 + x) % 8 = x by omega]; rfl
          simp only [go_sem, Nat.reduceBEq, Nat.reduceLT, Nat.reduceLeDiff, Nat.reduceAdd, Nat.reduceMul, Nat.reduceSub, Nat.reduceMod, Nat.reduceDiv, Nat.reduceEqDiff, Int.reduceToNat, Int.toNat_natCast, Bool.not_true, Bool.not_false, false_implies, true_implies, decide_true, decide_false, true_and, and_true, and_false, false_and, and_self, reduceIte, reduceCtorEq, Bool.false_eq_true, List.getElem?_cons_zero, List.getElem?_cons_succ, List.length_cons, List.length_nil, List.take_succ_cons, List.take_zero, List.drop_succ_cons, List.drop_zero, ne_eq, not_false_eq_true, Nat.add_zero, Nat.zero_add, Nat.mul_one, Int.cast_ofNat_Int, Int.reduceLE, Int.reduceLT, Int.reduceEq, Int.reduceNeg, Nat.le_refl, Nat.le_add_right, Nat.zero_le, forall_const, hxr, hyr, hw2, w64 (n := S.wet y x) (by omega), w64 (n := waterN S 8 (y * 8 + x) + S.wet y x) (by omega)]
          refine ⟨by omega, ⟨x + 1, by omega⟩, by show 8 - (x + 1) < 8 - x; omega, ?_⟩
          refine Imp.id (by simp) ?_ (impH.base0 hok (Nat.le_refl n) HExt.rfl)
          simp only [go_sem, Nat.reduceBEq, Nat.reduceLT, Nat.reduceLeDiff, Nat.reduceAdd, Nat.reduceMul, Nat.reduceSub, Nat.reduceMod, Nat.reduceDiv, Nat.reduceEqDiff, Int.reduceToNat, Int.toNat_natCast, Bool.not_true, Bool.not_false, false_implies, true_implies, decide_true, decide_false, true_and, and_true, and_false, false_and, and_self, reduceIte, reduceCtorEq, Bool.false_eq_true, List.getElem?_cons_zero, List.getElem?_cons_succ, List.length_cons, List.length_nil, List.take_succ_cons, List.take_zero, List.drop_succ_cons, List.drop_zero, ne_eq, not_false_eq_true, Nat.add_zero, Nat.zero_add, Nat.mul_one, Int.cast_ofNat_Int, Int.reduceLE, Int.reduceLT, Int.reduceEq, Int.reduceNeg, Nat.le_refl, Nat.le_add_right, Nat.zero_le, forall_const, hnx, w64 (n := (x : Int) + 1) (by omega), Int.natCast_add, Int.natCast_one]
          omega
        · have hx8 : x = 8 := by omega
          subst hx8
          refine ⟨⟨y + 1, by omega⟩, by show 8 - (y + 1) < 8 - y; omega, ?_⟩
          refine Imp.id (by simp) ?_ (impH.base0 hok (Nat.le_refl n) HExt.rfl)
          simp only [go_sem, Nat.reduceBEq, Nat.reduceLT, Nat.reduceLeDiff, Nat.reduceAdd, Nat.reduceMul, Nat.reduceSub, Nat.reduceMod, Nat.reduceDiv, Nat.reduceEqDiff, Int.reduceToNat, Int.toNat_natCast, Bool.not_true, Bool.not_false, false_implies, true_implies, decide_true, decide_false, true_and, and_true, and_false, false_and, and_self, reduceIte, reduceCtorEq, Bool.false_eq_true, List.getElem?_cons_zero, List.getElem?_cons_succ, List.length_cons, List.length_nil, List.take_succ_cons, List.take_zero, List.drop_succ_cons, List.drop_zero, ne_eq, not_false_eq_true, Nat.add_zero, Nat.zero_add, Nat.mul_one, Int.cast_ofNat_Int, Int.reduceLE, Int.reduceLT, Int.reduceEq, Int.reduceNeg, Nat.le_refl, Nat.le_add_right, Nat.zero_le, forall_const, show (y + 1) * 8 = y * 8 + 8 by omega, w64 (n := (y : Int) + 1) (by omega), Int.natCast_add, Int.natCast_one]
          omega
    · have hy8 : y = 8 := by omega
      subst hy8
      rfl
end

theorem sumN_split (f : Nat → Int) (a b : Nat) : sumN f (a + b) = sumN f a + sumN (fun k => f (a + k)) b := by
  induction b with
  | zero => simp [sumN]
  | succ b ih => rw [show a + (b + 1) = (a + b) + 1 by omega]; simp only [sumN, ih]; omega
theorem sumN_zero (f : Nat → Int) (n m : Nat) (h : n ≤ m) (h0 : ∀ k, n ≤ k → k < m → f k = 0) : sumN f m = sumN f n := by
  obtain ⟨d, rfl⟩ : ∃ d, m = n + d := ⟨m - n, by omega⟩
  rw [sumN_split, sumN_congr (g := fun _ => 0) fun k hk => h0 (n + k) (by omega) (by omega)]
  have : ∀ d, sumN (fun _ => 0) d = 0 := by intro d; induction d with
    | zero => rfl
    | succ d ih => simp [sumN, ih]
  rw [this]; omega
theorem sumN_rows (S : Sh) {W : Nat} (hW : 0 < W) : ∀ h, sumN (wetAt S W) (h * W) = sumN (fun y => sumN (fun x => S.wet y x) W) h
  | 0 => by simp [sumN]
  | h + 1 => by
    rw [Nat.succ_mul, sumN_split, sumN_rows S hW h]
    simp only [sumN]
    congr 1
    apply sumN_congr
    intro x hx
    unfold wetAt
    have h5 : (h * W + x) % W = x := by rw [Nat.mul_comm, Nat.mul_add_mod, Nat.mod_eq_of_lt hx]
    have h6 : (h * W + x) / W = h := by rw [Nat.mul_comm, Nat.mul_add_div hW, Nat.div_eq_of_lt hx, Nat.add_zero]
    rw [h5, h6]
/-- Places that a sheet does not have hold no water. -/
def Out (S : Sh) : Prop := ∀ y x : Int, 0 ≤ y → y < 8 → 0 ≤ x → x < 8 → hasB S x y = false → S.wet y x = 0
theorem Valid.out {S : Sh} (hV : Valid S) : Out S := fun y x a b c d hf => (hV.2 y x a b c d).2.2.2.elim (fun h => by rw [hf] at h; cases h.1) (fun h => h.1)
theorem water8 {S : Sh} {W H : Nat} (hs : Small S) (hO : Out S) (hW : S.wide = W) (hH : S.high = H) : waterN S 8 64 = water S W H := by
  unfold Small at hs
  have out : ∀ y x : Nat, y < 8 → x < 8 → (W ≤ x ∨ H ≤ y) → S.wet y x = 0 := by
    intro y x hy hx ho
    refine hO y x (by omega) (by omega) (by omega) (by omega) ?_
    rw [Bool.eq_false_iff]
    simp only [hasB, ne_eq, Bool.and_eq_true, decide_eq_true_eq, hW, hH]
    omega
  unfold water waterN
  rw [show 64 = 8 * 8 from rfl, sumN_rows S (by omega) 8, sumN_rows S (by omega) H]
  rw [sumN_zero _ H 8 (by omega) fun y hy hy8 => ?_]
  · apply sumN_congr
    intro y hy
    exact sumN_zero _ W 8 (by omega) fun x hx hx8 => out y x (by omega) hx8 (.inl hx)
  · have := sumN_zero (fun x => S.wet y x) 0 8 (by omega) fun x _ hx8 => out y x hy8 hx8 (.inr hy)
    exact this
theorem cell_has {W H j : Nat} {S : Sh} (hs : Small S) (hW : S.wide = W) (hH : S.high = H) (hj : j < H * W) : hasB S ((j % W : Nat) : Int) ((j / W : Nat) : Int) = true := by
  unfold Small at hs
  have hW0 : 0 < W := by omega
  have hm := Nat.mod_lt j hW0
  have hd : j / W < H := (Nat.div_lt_iff_lt_mul hW0).2 hj
  simp only [hasB, Bool.and_eq_true, decide_eq_true_eq, hW, hH]
  have h1 : 0 ≤ ((j % W : Nat) : Int) := Int.natCast_nonneg _
  have h2 : 0 ≤ ((j / W : Nat) : Int) := Int.natCast_nonneg _
  omega
theorem nbN_out {x y : Int} {L : List (Int × Int)} {a : Sh × Int} (hG : Good a.1) (hxy : hasB a.1 x y = true) (hL : ∀ q, q < L.length → hasB a.1 (L.getD q (0, 0)).1 (L.getD q (0, 0)).2 = true) (u v : Int) (huv : hasB a.1 u v = false) :
    ∀ q, q ≤ L.length → (nbN x y L a q).1.wet v u = a.1.wet v u
  | 0, _ => rfl
  | q + 1, hq => by
    have ih := nbN_out hG hxy hL u v huv q (by omega)
    obtain ⟨x0, x8, y0, y8⟩ := hasB_in hG.small hxy
    obtain ⟨l1, l2, l3, l4⟩ := hasB_in hG.small (hL q (by omega))
    obtain ⟨g1, g2, _, _⟩ := nbN_good (S0 := a.1) x0 x8 y0 y8 (fun q hq => hasB_in hG.small (hL q hq)) hG (.refl a.1) q (by omega)
    simp only [nbN, nbStep]
    split
    · rename_i h2
      rw [giveS_wet g1 x0 x8 y0 y8 l1 l2 l3 l4 h2, if_neg, if_neg, ih]
      · rintro ⟨rfl, rfl⟩; rw [hxy] at huv; cases huv
      · rintro ⟨rfl, rfl⟩; rw [hL q (by omega)] at huv; cases huv
    · exact ih
theorem runN_out {S : Sh} {W H : Nat} (hG : Good S) (hW : S.wide = W) (hH : S.high = H) (u v : Int) (huv : hasB S u v = false) : ∀ j, j ≤ H * W → (runN S W j).1.wet v u = S.wet v u
  | 0, _ => rfl
  | j + 1, hj => by
    have ih := runN_out hG hW hH u v huv j (by omega)
    obtain ⟨g1, g2, _, _⟩ := runN_good hG hW hH j (by omega)
    simp only [runN, runCell]
    split
    · exact ih
    · exact (nbN_out g1 (cell_has g1.small (g2.wide.trans hW) (g2.high.trans hH) (by omega)) (fun q hq => (nb_mem g1.small hq).1) u v (by rw [g2.hasB]; exact huv) _ (Nat.le_refl _)).trans ih
theorem dryS_out {S : Sh} {W H : Nat} (hG : Good S) (hW : S.wide = W) (hH : S.high = H) (u v : Int) (huv : hasB S u v = false) : (dryS S W H).1.wet v u = S.wet v u := by
  obtain ⟨g1, _⟩ := dryN_wet hG hW hH (H * W) (Nat.le_refl _)
  unfold dryS
  rw [g1, if_neg]
  rintro ⟨k, hk, rfl, rfl⟩
  rw [cell_has hG.small hW hH hk] at huv; cases huv
theorem radN_out {S : Sh} {W H : Nat} (hG : Good S) (hO : Out S) (hW : S.wide = W) (hH : S.high = H) : ∀ k, Out (radN S W H k)
  | 0 => hO
  | k + 1 => by
    obtain ⟨g1, g2⟩ := radN_good hG hW hH k
    have hW' := g2.wide.trans hW
    have hH' := g2.high.trans hH
    obtain ⟨a1, a2, _⟩ := runN_good g1 hW' hH' (H * W) (Nat.le_refl _)
    obtain ⟨_, b2⟩ := radN_good hG hW hH (k + 1)
    intro y x a b c d hf
    have hf0 : hasB S x y = false := by rw [← b2.hasB]; exact hf
    have hf1 : hasB (radN S W H k) x y = false := by rw [g2.hasB]; exact hf0
    have e1 := dryS_out a1 (a2.wide.trans hW') (a2.high.trans hH') x y (by rw [a2.hasB]; exact hf1)
    have e2 := runN_out g1 hW' hH' x y hf1 (H * W) (Nat.le_refl _)
    exact e1.trans (e2.trans (radN_out hG hO hW hH k y x a b c d hf1))
end Go.Proofs.Ytebpkdolmlloaaa.V
