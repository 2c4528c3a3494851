/- Neighbours of a cell: what the program's code shows of them. -/
import Derived.Test.YtebpkdolmlloaaaC0
set_option linter.all false
namespace Go.Proofs.Ytebpkdolmlloaaa.V

/-- Cells of a list of spots. -/
def spotsC (L : List (Int × Int)) : Nat → SV := fun k => if k % 2 = 0 then .int .i8 (L.getD (k / 2) (0, 0)).1 else .int .i8 (L.getD (k / 2) (0, 0)).2
theorem spotsC_flat (L : List (Int × Int)) (k : Nat) : (spotsC L k).flat := by unfold spotsC; split <;> trivial
theorem spotsC_x (L : List (Int × Int)) (j : Nat) : spotsC L (j * 2) = .int .i8 (L.getD j (0, 0)).1 := by
  unfold spotsC; rw [if_pos (by omega), show j * 2 / 2 = j by omega]
theorem spotsC_y (L : List (Int × Int)) (j : Nat) : spotsC L (j * 2 + 1) = .int .i8 (L.getD j (0, 0)).2 := by
  unfold spotsC; rw [if_neg (by omega), show (j * 2 + 1) / 2 = j by omega]

/-- The spots on the four sides. -/
def besideL (x y : Int) : List (Int × Int) := [(x, IntKind.i8.wrap (y - 1)), (IntKind.i8.wrap (x + 1), y), (x, IntKind.i8.wrap (y + 1)), (IntKind.i8.wrap (x - 1), y)]

section
variable (cx : Cx) (h : List (Nat × Seg)) (n : Nat)

theorem beside_E (x y : Int) (K : HK) (hK : K (.sl n 0 4 4) ((n, ⟨8, spotsC (besideL x y), true, some (86, 8)⟩) :: h) (n + 1)) :
    CallE Try.prog cx 106 [spot x y] h n K := by
  refine CallE.imp1 (K := fun r h' n' => r = .sl (n + 1) 0 4 4 ∧ n' = n + 2 ∧ HExt n h h' ∧ ∃ s, hget h' (n + 1) = some s ∧ s.n = 8 ∧ s.rw = true ∧ s.own = some (86, 8) ∧ ∀ k, k < 8 → s.c k = spotsC (besideL x y) k) ?_ ?_
  · refine callE_of_T (P := Try.prog) hti (nt := 28) (rs := [.tmp 2]) rfl rfl Try.call106 Try.func106 rfl _ (by simp only [go_sem, and_self]) (Nat.le_of_ble_eq_true rfl) _ fun hok => ?_
    simp only [go_sem, Nat.reduceBEq, Nat.reduceLT, Nat.reduceLeDiff, Nat.reduceAdd, Nat.reduceMul, Nat.reduceSub, Nat.reduceMod, Nat.reduceDiv, Nat.reduceEqDiff, Int.reduceToNat, Int.toNat_natCast, Bool.not_true, Bool.not_false, false_implies, true_implies, decide_true, decide_false, true_and, and_true, and_false, false_and, and_self, reduceIte, reduceCtorEq, Bool.false_eq_true, List.getElem?_cons_zero, List.getElem?_cons_succ, List.length_cons, List.length_nil, List.take_succ_cons, List.take_zero, List.drop_succ_cons, List.drop_zero, ne_eq, not_false_eq_true, Nat.add_zero, Nat.zero_add, Nat.mul_one, Int.cast_ofNat_Int, Int.reduceLE, Int.reduceLT, Int.reduceEq, Int.reduceNeg, Nat.le_refl, Nat.le_add_right, Nat.zero_le, forall_const, HExt_cons, Option.some.injEq, exists_eq_left']
    intro k hk
    rcases (by omega : k = 0 ∨ k = 1 ∨ k = 2 ∨ k = 3 ∨ k = 4 ∨ k = 5 ∨ k = 6 ∨ k = 7) with rfl | rfl | rfl | rfl | rfl | rfl | rfl | rfl <;> rfl
  · rintro hok r h' n' ⟨rfl, rfl, hx, s, hs, h1, h2, h3, h4⟩
    exact ⟨n + 1, .sl n 0 4 4, _, n + 1, by simp, Nat.le_refl _, by simp only [ren_sl, sig_hit], Nat.lt_succ_self n,
      impH.cons1 hs (Nat.lt_succ_self n) (SegLe.flat (by simp [h1]) (fun _ => h2) (.inr h3.symm) fun k hk => ⟨h4 k hk, spotsC_flat _ _⟩) (impH.base1 hok (by simp) (Nat.le_refl n) hx), hK⟩

/-- Which element is the first of which something is so? -/
def firstOf (p : Int → Int → Bool) : List (Int × Int) → Int
  | [] => -1
  | a :: L => if p a.1 a.2 then 0 else if firstOf p L = -1 then -1 else firstOf p L + 1

theorem indexFunc_Q (i m cap : Nat) (L : List (Int × Int)) (s : Seg) (f a b : Nat) (G F : Nat → SV) (p : Int → Int → Bool) (r : Int)
    (hs : hget h i = some s) (hi : i < n) (hm : L.length = m) (hm9 : m ≤ 1000000000) (hn : m * 2 ≤ s.n) (hc : ∀ k, k < m * 2 → s.c k = spotsC L k) (hF : (SV.fn f a G b F).lt n)
    (hr0 : r = -1 → ∀ j, j < m → p (L.getD j (0, 0)).1 (L.getD j (0, 0)).2 = false) (hr1 : r ≠ -1 → 0 ≤ r ∧ r < m ∧ p (L.getD r.toNat (0, 0)).1 (L.getD r.toNat (0, 0)).2 = true ∧ ∀ j : Nat, (j : Int) < r → p (L.getD j (0, 0)).1 (L.getD j (0, 0)).2 = false)
    (hp : ∀ j, j < m → ∀ nt n0, CallQ Try.prog ⟨cx.w0, cx.W, nt, n0⟩ f (lst a G ++ [spot (L.getD j (0, 0)).1 (L.getD j (0, 0)).2] ++ lst b F) h n (.bool (p (L.getD j (0, 0)).1 (L.getD j (0, 0)).2))) :
    CallQ Try.prog cx 113 [.sl i 0 m cap, .fn f a G b F] h n (.int .i64 r) := by
  refine callQ_of_T (P := Try.prog) hti (nt := 19) (rs := [.tmp 4]) rfl rfl Try.call113 Try.func113 rfl _ (by simp only [go_sem, and_self]) (Nat.le_of_ble_eq_true rfl) _ (by first | exact trivial | (refine lt_flat rfl ?_; simp [SV.flat])) fun hok => ?_
  simp only [go_sem, Nat.reduceBEq, Nat.reduceLT, Nat.reduceLeDiff, Nat.reduceAdd, Nat.reduceMul, Nat.reduceSub, Nat.reduceMod, Nat.reduceDiv, Nat.reduceEqDiff, Int.reduceToNat, Int.toNat_natCast, Bool.not_true, Bool.not_false, false_implies, true_implies, decide_true, decide_false, true_and, and_true, and_false, false_and, and_self, reduceIte, reduceCtorEq, Bool.false_eq_true, List.getElem?_cons_zero, List.getElem?_cons_succ, List.length_cons, List.length_nil, List.take_succ_cons, List.take_zero, List.drop_succ_cons, List.drop_zero, ne_eq, not_false_eq_true, Nat.add_zero, Nat.zero_add, Nat.mul_one, Int.cast_ofNat_Int, Int.reduceLE, Int.reduceLT, Int.reduceEq, Int.reduceNeg, Nat.le_refl, Nat.le_add_right, Nat.zero_le, forall_const]
  refine T_lp (ι := { j : Nat // j ≤ m ∧ ∀ k, k < j → p (L.getD k (0, 0)).1 (L.getD k (0, 0)).2 = false })
    (fun j => ([(0, .sl i 0 m cap), (1, .fn f a G b F), (7, .int .i64 m), (8, .int .i64 j.1)], h, n)) (fun j => m - j.1) ⟨0, by simp⟩ ?_ ?_
  · refine Imp.id (by simp) ?_ ?_
    · simp only [go_sem, Nat.reduceBEq, Nat.reduceLT, Nat.reduceLeDiff, Nat.reduceAdd, Nat.reduceMul, Nat.reduceSub, Nat.reduceMod, Nat.reduceDiv, Nat.reduceEqDiff, Int.reduceToNat, Int.toNat_natCast, Bool.not_true, Bool.not_false, false_implies, true_implies, decide_true, decide_false, true_and, and_true, and_false, false_and, and_self, reduceIte, reduceCtorEq, Bool.false_eq_true, List.getElem?_cons_zero, List.getElem?_cons_succ, List.length_cons, List.length_nil, List.take_succ_cons, List.take_zero, List.drop_succ_cons, List.drop_zero, ne_eq, not_false_eq_true, Nat.add_zero, Nat.zero_add, Nat.mul_one, Int.cast_ofNat_Int, Int.reduceLE, Int.reduceLT, Int.reduceEq, Int.reduceNeg, Nat.le_refl, Nat.le_add_right, Nat.zero_le, forall_const]
      exact ⟨hi, hF⟩
    · exact impH.base0 hok (by simp) (by simp only [go_sem, Nat.reduceBEq, Nat.reduceLT, Nat.reduceLeDiff, Nat.reduceAdd, Nat.reduceMul, Nat.reduceSub, Nat.reduceMod, Nat.reduceDiv, Nat.reduceEqDiff, Int.reduceToNat, Int.toNat_natCast, Bool.not_true, Bool.not_false, false_implies, true_implies, decide_true, decide_false, true_and, and_true, and_false, false_and, and_self, reduceIte, reduceCtorEq, Bool.false_eq_true, List.getElem?_cons_zero, List.getElem?_cons_succ, List.length_cons, List.length_nil, List.take_succ_cons, List.take_zero, List.drop_succ_cons, List.drop_zero, ne_eq, not_false_eq_true, Nat.add_zero, Nat.zero_add, Nat.mul_one, Int.cast_ofNat_Int, Int.reduceLE, Int.reduceLT, Int.reduceEq, Int.reduceNeg, Nat.le_refl, Nat.le_add_right, Nat.zero_le, forall_const])
  · rintro ⟨j, hj, hall⟩
    simp only [go_sem, Nat.reduceBEq, Nat.reduceLT, Nat.reduceLeDiff, Nat.reduceAdd, Nat.reduceMul, Nat.reduceSub, Nat.reduceMod, Nat.reduceDiv, Nat.reduceEqDiff, Int.reduceToNat, Int.toNat_natCast, Bool.not_true, Bool.not_false, false_implies, true_implies, decide_true, decide_false, true_and, and_true, and_false, false_and, and_self, reduceIte, reduceCtorEq, Bool.false_eq_true, List.getElem?_cons_zero, List.getElem?_cons_succ, List.length_cons, List.length_nil, List.take_succ_cons, List.take_zero, List.drop_succ_cons, List.drop_zero, ne_eq, not_false_eq_true, Nat.add_zero, Nat.zero_add, Nat.mul_one, Int.cast_ofNat_Int, Int.reduceLE, Int.reduceLT, Int.reduceEq, Int.reduceNeg, Nat.le_refl, Nat.le_add_right, Nat.zero_le, forall_const, hs, decide_eq_true_eq, decide_eq_false_iff_not]
    refine ⟨fun h1 => ⟨⟨by omega, h1⟩, by omega, ?_⟩, fun h1 => ?_⟩
    · simp only [hc (j * 2) (by omega), hc (j * 2 + 1) (by omega), spotsC_x, spotsC_y]
      refine (hp j (by omega) _ _).A ?_
      simp only [go_sem, Nat.reduceBEq, Nat.reduceLT, Nat.reduceLeDiff, Nat.reduceAdd, Nat.reduceMul, Nat.reduceSub, Nat.reduceMod, Nat.reduceDiv, Nat.reduceEqDiff, Int.reduceToNat, Int.toNat_natCast, Bool.not_true, Bool.not_false, false_implies, true_implies, decide_true, decide_false, true_and, and_true, and_false, false_and, and_self, reduceIte, reduceCtorEq, Bool.false_eq_true, List.getElem?_cons_zero, List.getElem?_cons_succ, List.length_cons, List.length_nil, List.take_succ_cons, List.take_zero, List.drop_succ_cons, List.drop_zero, ne_eq, not_false_eq_true, Nat.add_zero, Nat.zero_add, Nat.mul_one, Int.cast_ofNat_Int, Int.reduceLE, Int.reduceLT, Int.reduceEq, Int.reduceNeg, Nat.le_refl, Nat.le_add_right, Nat.zero_le, forall_const]
      refine ⟨fun h2 => ?_, fun h2 => ⟨⟨j + 1, by omega, fun k hk => ?_⟩, by show m - (j + 1) < m - j; omega, ?_⟩⟩
      · rcases (by omega : r = -1 ∨ r ≠ -1) with hr | hr
        · have := hr0 hr j (by omega)
          rw [this] at h2; cases h2
        · obtain ⟨r0, r1, r2, r3⟩ := hr1 hr
          rcases (by omega : (j : Int) < r ∨ r < j ∨ r = j) with h | h | h
          · rw [r3 j h] at h2; cases h2
          · have := hall r.toNat (by omega)
            rw [r2] at this; cases this
          · rw [h]
      · rcases (by omega : k < j ∨ k = j) with h | rfl
        · exact hall k h
        · exact h2
      · refine Imp.id (by simp) ?_ (impH.base0 hok (by simp) (by simp only [go_sem, Nat.reduceBEq, Nat.reduceLT, Nat.reduceLeDiff, Nat.reduceAdd, Nat.reduceMul, Nat.reduceSub, Nat.reduceMod, Nat.reduceDiv, Nat.reduceEqDiff, Int.reduceToNat, Int.toNat_natCast, Bool.not_true, Bool.not_false, false_implies, true_implies, decide_true, decide_false, true_and, and_true, and_false, false_and, and_self, reduceIte, reduceCtorEq, Bool.false_eq_true, List.getElem?_cons_zero, List.getElem?_cons_succ, List.length_cons, List.length_nil, List.take_succ_cons, List.take_zero, List.drop_succ_cons, List.drop_zero, ne_eq, not_false_eq_true, Nat.add_zero, Nat.zero_add, Nat.mul_one, Int.cast_ofNat_Int, Int.reduceLE, Int.reduceLT, Int.reduceEq, Int.reduceNeg, Nat.le_refl, Nat.le_add_right, Nat.zero_le, forall_const]))
        simp only [go_sem, Nat.reduceBEq, Nat.reduceLT, Nat.reduceLeDiff, Nat.reduceAdd, Nat.reduceMul, Nat.reduceSub, Nat.reduceMod, Nat.reduceDiv, Nat.reduceEqDiff, Int.reduceToNat, Int.toNat_natCast, Bool.not_true, Bool.not_false, false_implies, true_implies, decide_true, decide_false, true_and, and_true, and_false, false_and, and_self, reduceIte, reduceCtorEq, Bool.false_eq_true, List.getElem?_cons_zero, List.getElem?_cons_succ, List.length_cons, List.length_nil, List.take_succ_cons, List.take_zero, List.drop_succ_cons, List.drop_zero, ne_eq, not_false_eq_true, Nat.add_zero, Nat.zero_add, Nat.mul_one, Int.cast_ofNat_Int, Int.reduceLE, Int.reduceLT, Int.reduceEq, Int.reduceNeg, Nat.le_refl, Nat.le_add_right, Nat.zero_le, forall_const, w64 (n := (j : Int) + 1) (by omega), Int.natCast_add, Int.natCast_one]
        exact ⟨hi, hF⟩
    · rcases (by omega : r = -1 ∨ r ≠ -1) with hr | hr
      · rw [hr]
      · obtain ⟨r0, r1, r2, r3⟩ := hr1 hr
        have := hall r.toNat (by omega)
        rw [r2] at this; cases this

theorem spotsC_take {a b : List (Int × Int)} {k : Nat} (h : k < a.length * 2) : spotsC (a ++ b) k = spotsC a k := by
  unfold spotsC
  have : (a ++ b).getD (k / 2) (0, 0) = a.getD (k / 2) (0, 0) := by
    rw [List.getD_eq_getElem?_getD, List.getD_eq_getElem?_getD, List.getElem?_append_left (by omega)]
  rw [this]
theorem take_filter (P : Int × Int → Bool) (L : List (Int × Int)) (j : Nat) (hj : j < L.length) : (L.take (j + 1)).filter P = (L.take j).filter P ++ (if P (L.getD j (0, 0)) then [L.getD j (0, 0)] else []) := by
  rw [List.take_succ, List.getElem?_eq_getElem hj, List.filter_append]
  congr 1
  simp [List.getD_eq_getElem?_getD, hj, List.filter_cons]
theorem filter_len (P : Int × Int → Bool) (L : List (Int × Int)) (j : Nat) : ((L.take j).filter P).length ≤ j := Nat.le_trans (List.length_filter_le _ _) (by simp; omega)
theorem filter_all {P : Int × Int → Bool} {L : List (Int × Int)} (j : Nat) (hj : j ≤ L.length) (hall : ∀ k, k < j → P (L.getD k (0, 0)) = true) : (L.take j).filter P = L.take j := by
  rw [List.filter_eq_self]
  intro a ha
  obtain ⟨k, hk, rfl⟩ := List.mem_iff_getElem.1 ha
  simp only [List.length_take] at hk
  have := hall k (by omega)
  rw [List.getD_eq_getElem?_getD, List.getElem?_eq_getElem (by omega)] at this
  simpa using this
theorem spotsC_take2 (L : List (Int × Int)) (j k : Nat) (h : k < j * 2) : spotsC (L.take j) k = spotsC L k := by
  unfold spotsC
  have : (L.take j).getD (k / 2) (0, 0) = L.getD (k / 2) (0, 0) := by
    rw [List.getD_eq_getElem?_getD, List.getD_eq_getElem?_getD, List.getElem?_take_of_lt (by omega)]
  rw [this]

theorem spotsC_last (A : List (Int × Int)) (x : Int × Int) : spotsC (A ++ [x]) (A.length * 2) = .int .i8 x.1 ∧ spotsC (A ++ [x]) (A.length * 2 + 1) = .int .i8 x.2 := by
  rw [spotsC_x, spotsC_y]
  simp [List.getD_eq_getElem?_getD]
/-- One spot written behind k others. -/
def putS (k : Nat) (x : Int × Int) (c : Nat → SV) : Nat → SV := fun z => if k * 2 ≤ z ∧ z < k * 2 + 2 then cl [.int .i8 x.1, .int .i8 x.2] (z - k * 2) else c z
theorem putS_0 (k : Nat) (x : Int × Int) (c : Nat → SV) : putS k x c (k * 2) = .int .i8 x.1 := by unfold putS; rw [if_pos (by omega), Nat.sub_self]; rfl
theorem putS_1 (k : Nat) (x : Int × Int) (c : Nat → SV) : putS k x c (k * 2 + 1) = .int .i8 x.2 := by unfold putS; rw [if_pos (by omega), show k * 2 + 1 - k * 2 = 1 by omega]; rfl
theorem putS_o (k : Nat) (x : Int × Int) (c : Nat → SV) (z : Nat) (h : z < k * 2 ∨ k * 2 + 2 ≤ z) : putS k x c z = c z := by unfold putS; rw [if_neg (by omega)]
theorem putS_flat (k : Nat) (x : Int × Int) {c : Nat → SV} {z : Nat} (h : (c z).flat) : (putS k x c z).flat := by
  rcases (by omega : z = k * 2 ∨ z = k * 2 + 1 ∨ (z < k * 2 ∨ k * 2 + 2 ≤ z)) with rfl | rfl | h'
  · rw [putS_0]; trivial
  · rw [putS_1]; trivial
  · rw [putS_o _ _ _ _ h']; exact h

theorem deleteFunc_E (i m cap : Nat) (L : List (Int × Int)) (s : Seg) (f a b : Nat) (G F : Nat → SV) (p : Int → Int → Bool) (r : Int)
    (hs : hget h i = some s) (hi : i < n) (hm : L.length = m) (hm9 : m ≤ 1000000000) (hcap : m ≤ cap) (hn : s.n = m * 2) (hrw : s.rw = true) (hc : ∀ k, k < m * 2 → s.c k = spotsC L k) (hF : (SV.fn f a G b F).lt n)
    (hr0 : r = -1 → ∀ j, j < m → p (L.getD j (0, 0)).1 (L.getD j (0, 0)).2 = false) (hr1 : r ≠ -1 → 0 ≤ r ∧ r < m ∧ p (L.getD r.toNat (0, 0)).1 (L.getD r.toNat (0, 0)).2 = true ∧ ∀ j : Nat, (j : Int) < r → p (L.getD j (0, 0)).1 (L.getD j (0, 0)).2 = false)
    (hp : ∀ j, j < m → ∀ nt n0 h' n', n ≤ n' → HBut i n h h' → CallQ Try.prog ⟨cx.w0, cx.W, nt, n0⟩ f (lst a G ++ [spot (L.getD j (0, 0)).1 (L.getD j (0, 0)).2] ++ lst b F) h' n' (.bool (p (L.getD j (0, 0)).1 (L.getD j (0, 0)).2)))
    (K : HK) (hK : ∀ own, K (.sl i 0 (L.filter fun a => !p a.1 a.2).length cap) (hset h i ⟨(L.filter fun a => !p a.1 a.2).length * 2, spotsC (L.filter fun a => !p a.1 a.2), true, own⟩) n) :
    CallE Try.prog cx 105 [.sl i 0 m cap, .fn f a G b F] h n K := by
  generalize hP : (fun a : Int × Int => !p a.1 a.2) = P at *
  have hPj : ∀ j, P (L.getD j (0, 0)) = !p (L.getD j (0, 0)).1 (L.getD j (0, 0)).2 := fun j => by rw [← hP]
  obtain ⟨sn, sc, sr, so⟩ := s
  simp only at hn hrw hc
  subst hn hrw
  have hgi : ∀ t, hget (hset h i t) i = some t := fun t => by rw [hget_hset, if_pos rfl, hs]; rfl
  have hbut : ∀ t, HBut i n h (hset h i t) := fun t j hj hji u hu => by rw [hget_hset, if_neg (Ne.symm hji)]; exact hu
  refine CallE.imp0 (K := fun r h' n' => n ≤ n' ∧ r = .sl i 0 (L.filter P).length cap ∧ HBut i n h h' ∧ ∃ t, hget h' i = some t ∧ (L.filter P).length * 2 ≤ t.n ∧ t.rw = true ∧ t.own = so ∧ ∀ k, k < (L.filter P).length * 2 → t.c k = spotsC (L.filter P) k) ?_ ?_
  · refine callE_of_T (P := Try.prog) hti (nt := 42) (rs := [.tmp 4]) rfl rfl Try.call105 Try.func105 rfl _ (by simp only [go_sem, and_self]) (Nat.le_of_ble_eq_true rfl) _ fun hok => ?_
    simp only [go_sem, Nat.reduceBEq, Nat.reduceLT, Nat.reduceLeDiff, Nat.reduceAdd, Nat.reduceMul, Nat.reduceSub, Nat.reduceMod, Nat.reduceDiv, Nat.reduceEqDiff, Int.reduceToNat, Int.toNat_natCast, Bool.not_true, Bool.not_false, false_implies, true_implies, decide_true, decide_false, true_and, and_true, and_false, false_and, and_self, reduceIte, reduceCtorEq, Bool.false_eq_true, List.getElem?_cons_zero, List.getElem?_cons_succ, List.length_cons, List.length_nil, List.take_succ_cons, List.take_zero, List.drop_succ_cons, List.drop_zero, ne_eq, not_false_eq_true, Nat.add_zero, Nat.zero_add, Nat.mul_one, Int.cast_ofNat_Int, Int.reduceLE, Int.reduceLT, Int.reduceEq, Int.reduceNeg, Nat.le_refl, Nat.le_add_right, Nat.zero_le, forall_const]
    refine (indexFunc_Q ⟨cx.w0, cx.W, 42, n⟩ h n i m cap L _ f a b G F p r hs hi hm hm9 (Nat.le_refl _) hc hF hr0 hr1 (fun j hj nt n0 => hp j hj nt n0 h n (Nat.le_refl _) (fun _ _ _ _ h => h))).A ?_
    simp only [go_sem, Nat.reduceBEq, Nat.reduceLT, Nat.reduceLeDiff, Nat.reduceAdd, Nat.reduceMul, Nat.reduceSub, Nat.reduceMod, Nat.reduceDiv, Nat.reduceEqDiff, Int.reduceToNat, Int.toNat_natCast, Bool.not_true, Bool.not_false, false_implies, true_implies, decide_true, decide_false, true_and, and_true, and_false, false_and, and_self, reduceIte, reduceCtorEq, Bool.false_eq_true, List.getElem?_cons_zero, List.getElem?_cons_succ, List.length_cons, List.length_nil, List.take_succ_cons, List.take_zero, List.drop_succ_cons, List.drop_zero, ne_eq, not_false_eq_true, Nat.add_zero, Nat.zero_add, Nat.mul_one, Int.cast_ofNat_Int, Int.reduceLE, Int.reduceLT, Int.reduceEq, Int.reduceNeg, Nat.le_refl, Nat.le_add_right, Nat.zero_le, forall_const, decide_eq_true_eq, decide_eq_false_iff_not]
    refine ⟨fun h1 => ?_, fun h1 => ?_⟩
    · have hall : L.filter P = L := by
        have := filter_all (P := P) L.length (Nat.le_refl _) fun k hk => by rw [hPj, hr0 h1 k (by omega)]; rfl
        rwa [List.take_length] at this
      rw [hall, hm]
      exact ⟨rfl, fun _ _ _ _ h => h, _, hs, Nat.le_refl _, rfl, rfl, hc⟩
    · obtain ⟨r0, r1, r2, r3⟩ := hr1 h1
      refine T_lp (ι := { q : Nat × (Nat → SV) // q.1 ≤ m ∧ (∀ z, z < ((L.take q.1).filter P).length * 2 → q.2 z = spotsC ((L.take q.1).filter P) z) ∧ (∀ z, q.1 * 2 ≤ z → z < m * 2 → q.2 z = spotsC L z) ∧ ∀ z, z < m * 2 → (q.2 z).flat })
        (fun q => ([(0, .sl i 0 m cap), (1, .fn f a G b F), (5, .int .i64 ((L.take q.1.1).filter P).length), (6, .int .i64 q.1.1)], hset h i ⟨m * 2, q.1.2, true, so⟩, n)) (fun q => m - q.1.1)
        ⟨(r.toNat + 1, sc), by
          have hf : ((L.take (r.toNat + 1)).filter P) = L.take r.toNat := by
            rw [take_filter P L r.toNat (by omega), filter_all r.toNat (by omega) (fun k hk => by rw [hPj, r3 k (by omega)]; rfl), hPj, r2]
            simp
          refine ⟨by omega, fun z hz => ?_, fun z _ hz => hc z hz, fun z hz => by show (sc z).flat; rw [hc z hz]; exact spotsC_flat _ _⟩
          simp only [hf, List.length_take] at hz ⊢
          rw [hc z (by omega), spotsC_take2 L r.toNat z (by omega)]⟩ ?_ ?_
      · have hf : ((L.take (r.toNat + 1)).filter P) = L.take r.toNat := by
          rw [take_filter P L r.toNat (by omega), filter_all r.toNat (by omega) (fun k hk => by rw [hPj, r3 k (by omega)]; rfl), hPj, r2]
          simp
        refine Imp.id (by simp) ?_ ?_
        · simp only [go_sem, Nat.reduceBEq, Nat.reduceLT, Nat.reduceLeDiff, Nat.reduceAdd, Nat.reduceMul, Nat.reduceSub, Nat.reduceMod, Nat.reduceDiv, Nat.reduceEqDiff, Int.reduceToNat, Int.toNat_natCast, Bool.not_true, Bool.not_false, false_implies, true_implies, decide_true, decide_false, true_and, and_true, and_false, false_and, and_self, reduceIte, reduceCtorEq, Bool.false_eq_true, List.getElem?_cons_zero, List.getElem?_cons_succ, List.length_cons, List.length_nil, List.take_succ_cons, List.take_zero, List.drop_succ_cons, List.drop_zero, ne_eq, not_false_eq_true, Nat.add_zero, Nat.zero_add, Nat.mul_one, Int.cast_ofNat_Int, Int.reduceLE, Int.reduceLT, Int.reduceEq, Int.reduceNeg, Nat.le_refl, Nat.le_add_right, Nat.zero_le, forall_const, w64 (n := r + 1) (by omega), hf, List.length_take]
          refine ⟨hi, hF, ?_, ?_⟩
          · congr 1; omega
          · congr 1; omega
        · show impH h (sig []) n (hset h i ⟨m * 2, sc, true, so⟩)
          rw [hset_self hs]
          exact impH.base0 hok (by simp) (by simp only [go_sem, Nat.reduceBEq, Nat.reduceLT, Nat.reduceLeDiff, Nat.reduceAdd, Nat.reduceMul, Nat.reduceSub, Nat.reduceMod, Nat.reduceDiv, Nat.reduceEqDiff, Int.reduceToNat, Int.toNat_natCast, Bool.not_true, Bool.not_false, false_implies, true_implies, decide_true, decide_false, true_and, and_true, and_false, false_and, and_self, reduceIte, reduceCtorEq, Bool.false_eq_true, List.getElem?_cons_zero, List.getElem?_cons_succ, List.length_cons, List.length_nil, List.take_succ_cons, List.take_zero, List.drop_succ_cons, List.drop_zero, ne_eq, not_false_eq_true, Nat.add_zero, Nat.zero_add, Nat.mul_one, Int.cast_ofNat_Int, Int.reduceLE, Int.reduceLT, Int.reduceEq, Int.reduceNeg, Nat.le_refl, Nat.le_add_right, Nat.zero_le, forall_const])
      · rintro ⟨⟨j, c'⟩, hj, hk, hrest, hflat⟩
        simp only at hj hk hrest hflat
        have hlen := filter_len P L j
        have hne : (n == i) = false := by simp; omega
        simp only [go_sem, Nat.reduceBEq, Nat.reduceLT, Nat.reduceLeDiff, Nat.reduceAdd, Nat.reduceMul, Nat.reduceSub, Nat.reduceMod, Nat.reduceDiv, Nat.reduceEqDiff, Int.reduceToNat, Int.toNat_natCast, Bool.not_true, Bool.not_false, false_implies, true_implies, decide_true, decide_false, true_and, and_true, and_false, false_and, and_self, reduceIte, reduceCtorEq, Bool.false_eq_true, List.getElem?_cons_zero, List.getElem?_cons_succ, List.length_cons, List.length_nil, List.take_succ_cons, List.take_zero, List.drop_succ_cons, List.drop_zero, ne_eq, not_false_eq_true, Nat.add_zero, Nat.zero_add, Nat.mul_one, Int.cast_ofNat_Int, Int.reduceLE, Int.reduceLT, Int.reduceEq, Int.reduceNeg, Nat.le_refl, Nat.le_add_right, Nat.zero_le, forall_const, hgi, hne, decide_eq_true_eq, decide_eq_false_iff_not]
        refine ⟨fun h2 => ⟨⟨by omega, h2⟩, by omega, ?_⟩, fun h2 => ?_⟩
        · simp only [hrest (j * 2) (Nat.le_refl _) (by omega), hrest (j * 2 + 1) (by omega) (by omega), spotsC_x, spotsC_y]
          refine ⟨⟨trivial, trivial⟩, (hp j (by omega) _ _ _ _ (by simp) ((hbut _).cons (Nat.le_refl n))).A ?_⟩
          simp only [go_sem, Nat.reduceBEq, Nat.reduceLT, Nat.reduceLeDiff, Nat.reduceAdd, Nat.reduceMul, Nat.reduceSub, Nat.reduceMod, Nat.reduceDiv, Nat.reduceEqDiff, Int.reduceToNat, Int.toNat_natCast, Bool.not_true, Bool.not_false, false_implies, true_implies, decide_true, decide_false, true_and, and_true, and_false, false_and, and_self, reduceIte, reduceCtorEq, Bool.false_eq_true, List.getElem?_cons_zero, List.getElem?_cons_succ, List.length_cons, List.length_nil, List.take_succ_cons, List.take_zero, List.drop_succ_cons, List.drop_zero, ne_eq, not_false_eq_true, Nat.add_zero, Nat.zero_add, Nat.mul_one, Int.cast_ofNat_Int, Int.reduceLE, Int.reduceLT, Int.reduceEq, Int.reduceNeg, Nat.le_refl, Nat.le_add_right, Nat.zero_le, forall_const, hgi, hne, hset_hset]
          refine ⟨fun h3 => ⟨⟨by omega, by omega⟩, ⟨by omega, ?_⟩⟩, fun h3 => ?_⟩
          · have hf : (L.take (j + 1)).filter P = (L.take j).filter P ++ [L.getD j (0, 0)] := by
              rw [take_filter P L j (by omega), hPj, h3]; rfl
            refine ⟨⟨(j + 1, putS ((L.take j).filter P).length (L.getD j (0, 0)) c'), by omega, fun z hz => ?_, fun z hz hz2 => ?_, fun z hz => putS_flat _ _ (hflat z hz)⟩, by show m - (j + 1) < m - j; omega, ?_⟩
            · simp only [hf] at hz ⊢
              rw [List.length_append, List.length_singleton] at hz
              rcases (by omega : z < ((L.take j).filter P).length * 2 ∨ z = ((L.take j).filter P).length * 2 ∨ z = ((L.take j).filter P).length * 2 + 1) with h | h | h
              · rw [putS_o _ _ _ _ (.inl h), hk z h, spotsC_take (b := [L.getD j (0, 0)]) h]
              · rw [h, putS_0, (spotsC_last _ _).1]
              · rw [h, putS_1, (spotsC_last _ _).2]
            · have hz : (j + 1) * 2 ≤ z := hz
              show putS _ _ _ _ = _
              rw [putS_o _ _ _ _ (.inr (by omega))]
              exact hrest z (by omega) hz2
            · refine Imp.id (by simp) ?_ ?_
              · simp only [go_sem, Nat.reduceBEq, Nat.reduceLT, Nat.reduceLeDiff, Nat.reduceAdd, Nat.reduceMul, Nat.reduceSub, Nat.reduceMod, Nat.reduceDiv, Nat.reduceEqDiff, Int.reduceToNat, Int.toNat_natCast, Bool.not_true, Bool.not_false, false_implies, true_implies, decide_true, decide_false, true_and, and_true, and_false, false_and, and_self, reduceIte, reduceCtorEq, Bool.false_eq_true, List.getElem?_cons_zero, List.getElem?_cons_succ, List.length_cons, List.length_nil, List.take_succ_cons, List.take_zero, List.drop_succ_cons, List.drop_zero, ne_eq, not_false_eq_true, Nat.add_zero, Nat.zero_add, Nat.mul_one, Int.cast_ofNat_Int, Int.reduceLE, Int.reduceLT, Int.reduceEq, Int.reduceNeg, Nat.le_refl, Nat.le_add_right, Nat.zero_le, forall_const, w64 (n := (j : Int) + 1) (by omega), w64 (n := (((L.take j).filter P).length : Int) + 1) (by omega), Int.natCast_add, Int.natCast_one, hf, List.length_append, List.length_singleton]
                exact ⟨hi, hF⟩
              · refine impH.set0 hok (Nat.le_refl n) hs ((hbut _).cons (Nat.le_refl n)) ((hget_miss _ _ _ _ hne).trans (hgi _)) (SegLe.flat (Nat.le_refl _) id (.inr rfl) fun z hz => ⟨?_, putS_flat _ _ (hflat z hz)⟩)
                have hz : z < m * 2 := hz
                simp only [putS]
                split
                · rw [if_pos (by omega)]; congr 1; omega
                · rfl
          · have hf : (L.take (j + 1)).filter P = (L.take j).filter P := by
              rw [take_filter P L j (by omega), hPj, h3]; simp
            refine ⟨⟨(j + 1, c'), by omega, by simp only [hf]; exact hk, fun z hz hz2 => hrest z (by have hz : (j + 1) * 2 ≤ z := hz; omega) hz2, hflat⟩, by show m - (j + 1) < m - j; omega, ?_⟩
            refine Imp.id (by simp) ?_ ?_
            · simp only [go_sem, Nat.reduceBEq, Nat.reduceLT, Nat.reduceLeDiff, Nat.reduceAdd, Nat.reduceMul, Nat.reduceSub, Nat.reduceMod, Nat.reduceDiv, Nat.reduceEqDiff, Int.reduceToNat, Int.toNat_natCast, Bool.not_true, Bool.not_false, false_implies, true_implies, decide_true, decide_false, true_and, and_true, and_false, false_and, and_self, reduceIte, reduceCtorEq, Bool.false_eq_true, List.getElem?_cons_zero, List.getElem?_cons_succ, List.length_cons, List.length_nil, List.take_succ_cons, List.take_zero, List.drop_succ_cons, List.drop_zero, ne_eq, not_false_eq_true, Nat.add_zero, Nat.zero_add, Nat.mul_one, Int.cast_ofNat_Int, Int.reduceLE, Int.reduceLT, Int.reduceEq, Int.reduceNeg, Nat.le_refl, Nat.le_add_right, Nat.zero_le, forall_const, w64 (n := (j : Int) + 1) (by omega), Int.natCast_add, Int.natCast_one, hf]
              exact ⟨hi, hF⟩
            · refine impH.base0 (h0 := hset h i ⟨m * 2, c', true, so⟩) (hok.hset fun z hz => ?_) (Nat.le_refl n) (by simp only [go_sem, Nat.reduceBEq, Nat.reduceLT, Nat.reduceLeDiff, Nat.reduceAdd, Nat.reduceMul, Nat.reduceSub, Nat.reduceMod, Nat.reduceDiv, Nat.reduceEqDiff, Int.reduceToNat, Int.toNat_natCast, Bool.not_true, Bool.not_false, false_implies, true_implies, decide_true, decide_false, true_and, and_true, and_false, false_and, and_self, reduceIte, reduceCtorEq, Bool.false_eq_true, List.getElem?_cons_zero, List.getElem?_cons_succ, List.length_cons, List.length_nil, List.take_succ_cons, List.take_zero, List.drop_succ_cons, List.drop_zero, ne_eq, not_false_eq_true, Nat.add_zero, Nat.zero_add, Nat.mul_one, Int.cast_ofNat_Int, Int.reduceLE, Int.reduceLT, Int.reduceEq, Int.reduceNeg, Nat.le_refl, Nat.le_add_right, Nat.zero_le, forall_const, HExt_cons])
              exact (hflat z hz).below n
        · have hjm : j = m := by omega
          subst hjm
          have hft : (L.take j).filter P = L.filter P := by rw [← hm, List.take_length]
          simp only [hft] at *
          have hll : (L.filter P).length ≤ j := by omega
          refine ⟨⟨by omega, by omega, by omega⟩, ?_, ⟨by omega, by omega⟩, ?_, ?_, ?_⟩
          · split <;> omega
          · simp
          · rw [hset_hset]; exact hbut _
          · rw [hset_hset, hgi]
            refine ⟨_, rfl, by show _ ≤ j * 2; omega, rfl, rfl, fun z hz => ?_⟩
            show clrC _ _ _ _ _ = _
            unfold clrC
            rw [if_neg]
            · exact hk z hz
            · split <;> omega
  · rintro hok r h' n' ⟨h0, rfl, hx, t, ht, h1, h2, h3, h4⟩
    exact ⟨.sl i 0 (L.filter P).length cap, _, n, Nat.le_refl _, by simp only [ren_nil], hi, impH.set0 hok (Nat.le_refl n) hs hx ht (SegLe.flat h1 (fun _ => h2) (.inl rfl) fun k hk => ⟨h4 k hk, spotsC_flat _ _⟩), hK none⟩
end
end Go.Proofs.Ytebpkdolmlloaaa.V
