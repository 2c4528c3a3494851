/- Neighbours, giving, running, drying: what the program's code does to a sheet. -/
import Derived.Test.YtebpkdolmlloaaaC1
set_option linter.all false
namespace Go.Proofs.Ytebpkdolmlloaaa.V

/-- Sides of a sheet that has no more than 8 by 8 cells. -/
def Small (S : Sh) : Prop := 1 ≤ S.wide ∧ S.wide ≤ 8 ∧ 1 ≤ S.high ∧ S.high ≤ 8
theorem hasB_in {S : Sh} {x y : Int} (hS : Small S) (h : hasB S x y = true) : 0 ≤ x ∧ x < 8 ∧ 0 ≤ y ∧ y < 8 := by
  simp only [hasB, Bool.and_eq_true, decide_eq_true_eq] at h
  have := hS.2.1; have := hS.2.2.2
  omega

/-- The neighbours of a cell. -/
def nbB (S : Sh) (x y : Int) : Bool := !hasB S x y || waxB S x y
def nb (S : Sh) (x y : Int) : List (Int × Int) := (besideL x y).filter fun a => !nbB S a.1 a.2
/-- The number of the first of which something is so. -/
def fst4 (p : Int → Int → Bool) (L : List (Int × Int)) : Int :=
  match (List.range L.length).find? fun j => p (L.getD j (0, 0)).1 (L.getD j (0, 0)).2 with
  | some j => j
  | none => -1
theorem fst4_none {p : Int → Int → Bool} {L : List (Int × Int)} (h : fst4 p L = -1) : ∀ j, j < L.length → p (L.getD j (0, 0)).1 (L.getD j (0, 0)).2 = false := by
  unfold fst4 at h
  split at h
  · omega
  · rename_i hf
    intro j hj
    have := List.find?_eq_none.1 hf j (List.mem_range.2 hj)
    simpa using this
theorem fst4_some {p : Int → Int → Bool} {L : List (Int × Int)} (h : fst4 p L ≠ -1) : 0 ≤ fst4 p L ∧ fst4 p L < L.length ∧ p (L.getD (fst4 p L).toNat (0, 0)).1 (L.getD (fst4 p L).toNat (0, 0)).2 = true ∧
    ∀ j : Nat, (j : Int) < fst4 p L → p (L.getD j (0, 0)).1 (L.getD j (0, 0)).2 = false := by
  unfold fst4 at h ⊢
  split at h
  · rename_i j hf
    obtain ⟨h1, a, b, h2, h3⟩ := List.find?_eq_some_iff_append.1 hf
    have hlen : j < L.length := by
      have : j ∈ List.range L.length := by rw [h2]; simp
      exact List.mem_range.1 this
    refine ⟨by simp, by simpa using hlen, by simpa using h1, fun i hi => ?_⟩
    have hi' : i < j := by simpa using hi
    have hja : j = a.length := by
      have h4 : (List.range L.length)[a.length]? = some j := by rw [h2]; simp
      rw [List.getElem?_eq_some_iff] at h4
      obtain ⟨_, h4⟩ := h4
      simpa using h4.symm
    have hia : i ∈ a := by
      have h4 : (List.range L.length)[i]? = a[i]? := by rw [h2, List.getElem?_append_left (by omega)]
      rw [List.getElem?_eq_getElem (by simp; omega), List.getElem?_eq_getElem (by omega)] at h4
      simp at h4
      rw [h4]; exact List.getElem_mem _
    have := h3 i hia
    simpa using this
  · exact absurd rfl h

section
variable (cx : Cx) (h : List (Nat × Seg)) (n : Nat)

theorem nb1_Q (i o iv : Nat) (s sv : Seg) (S : Sh) (x y : Int) (hs : hget h i = some s) (hi : i < n) (hS : ShAt s o S) (hsm : Small S) (hv : hget h iv = some sv) (hvi : iv < n) (hvn : 1 ≤ sv.n) (hvc : sv.c 0 = .ptr i o) :
    CallQ Try.prog cx 107 [spot x y, .ptr iv 0] h n (.bool (nbB S x y)) := by
  have hne : (n == i) = false := by simp; omega
  have hnv : (n == iv) = false := by simp; omega
  refine callQ_of_T (P := Try.prog) hti (nt := 13) (rs := [.tmp 3]) rfl rfl Try.call107 Try.func107 rfl _ (by simp only [go_sem, and_self]) (Nat.le_of_ble_eq_true rfl) _ (by first | exact trivial | (refine lt_flat rfl ?_; simp [SV.flat])) fun hok => ?_
  simp only [go_sem, Nat.reduceBEq, Nat.reduceLT, Nat.reduceLeDiff, Nat.reduceAdd, Nat.reduceMul, Nat.reduceSub, Nat.reduceMod, Nat.reduceDiv, Nat.reduceEqDiff, Int.reduceToNat, Int.toNat_natCast, Bool.not_true, Bool.not_false, false_implies, true_implies, decide_true, decide_false, true_and, and_true, and_false, false_and, and_self, reduceIte, reduceCtorEq, Bool.false_eq_true, List.getElem?_cons_zero, List.getElem?_cons_succ, List.length_cons, List.length_nil, List.take_succ_cons, List.take_zero, List.drop_succ_cons, List.drop_zero, ne_eq, not_false_eq_true, Nat.add_zero, Nat.zero_add, Nat.mul_one, Int.cast_ofNat_Int, Int.reduceLE, Int.reduceLT, Int.reduceEq, Int.reduceNeg, Nat.le_refl, Nat.le_add_right, Nat.zero_le, forall_const, hnv, hv, hvc]
  refine ⟨by omega, (has_Q _ _ _ i o s S x y ((hget_miss _ _ _ _ hne).trans hs) (by omega) hS).A ?_⟩
  simp only [go_sem, Nat.reduceBEq, Nat.reduceLT, Nat.reduceLeDiff, Nat.reduceAdd, Nat.reduceMul, Nat.reduceSub, Nat.reduceMod, Nat.reduceDiv, Nat.reduceEqDiff, Int.reduceToNat, Int.toNat_natCast, Bool.not_true, Bool.not_false, false_implies, true_implies, decide_true, decide_false, true_and, and_true, and_false, false_and, and_self, reduceIte, reduceCtorEq, Bool.false_eq_true, List.getElem?_cons_zero, List.getElem?_cons_succ, List.length_cons, List.length_nil, List.take_succ_cons, List.take_zero, List.drop_succ_cons, List.drop_zero, ne_eq, not_false_eq_true, Nat.add_zero, Nat.zero_add, Nat.mul_one, Int.cast_ofNat_Int, Int.reduceLE, Int.reduceLT, Int.reduceEq, Int.reduceNeg, Nat.le_refl, Nat.le_add_right, Nat.zero_le, forall_const, hnv, hv, hvc, HExt_cons, SV.bool.injEq]
  refine ⟨fun h1 => ⟨hvn, ?_⟩, fun h1 => ?_⟩
  · have h1 : hasB S x y = true := by simpa using h1
    obtain ⟨x0, x8, y0, y8⟩ := hasB_in hsm h1
    refine (waxed_Q _ _ _ i o s S x y ((hget_miss _ _ _ _ hne).trans hs) (by omega) hS x0 y0 y8).A ?_
    simp only [go_sem, Nat.reduceBEq, Nat.reduceLT, Nat.reduceLeDiff, Nat.reduceAdd, Nat.reduceMul, Nat.reduceSub, Nat.reduceMod, Nat.reduceDiv, Nat.reduceEqDiff, Int.reduceToNat, Int.toNat_natCast, Bool.not_true, Bool.not_false, false_implies, true_implies, decide_true, decide_false, true_and, and_true, and_false, false_and, and_self, reduceIte, reduceCtorEq, Bool.false_eq_true, List.getElem?_cons_zero, List.getElem?_cons_succ, List.length_cons, List.length_nil, List.take_succ_cons, List.take_zero, List.drop_succ_cons, List.drop_zero, ne_eq, not_false_eq_true, Nat.add_zero, Nat.zero_add, Nat.mul_one, Int.cast_ofNat_Int, Int.reduceLE, Int.reduceLT, Int.reduceEq, Int.reduceNeg, Nat.le_refl, Nat.le_add_right, Nat.zero_le, forall_const, HExt_cons, SV.bool.injEq, nbB, h1, Bool.not_true, Bool.false_or]
  · simp only [nbB, h1, Bool.true_or]

theorem neighbours_E (i o : Nat) (s : Seg) (S : Sh) (x y : Int) (hs : hget h i = some s) (hi : i < n) (hS : ShAt s o S) (hsm : Small S) (K : HK)
    (hK : ∀ cap, K (.sl n 0 (nb S x y).length cap) ((n, ⟨(nb S x y).length * 2, spotsC (nb S x y), true, none⟩) :: h) (n + 1)) :
    CallE Try.prog cx 82 [.ptr i o, spot x y] h n K := by
  have hne : (n == i) = false := by simp; omega
  refine CallE.imp1 (K := fun r h' n' => r = .sl (n + 2) 0 (nb S x y).length 4 ∧ n' = n + 3 ∧ HExt n h h' ∧ ∃ t, hget h' (n + 2) = some t ∧ t.n = (nb S x y).length * 2 ∧ t.rw = true ∧ t.c = spotsC (nb S x y)) ?_ ?_
  · refine callE_of_T (P := Try.prog) hti (nt := 9) (rs := [.tmp 4]) rfl rfl Try.call82 Try.func82 rfl _ (by simp only [go_sem, and_self]) (Nat.le_of_ble_eq_true rfl) _ fun hok => ?_
    simp only [go_sem, Nat.reduceBEq, Nat.reduceLT, Nat.reduceLeDiff, Nat.reduceAdd, Nat.reduceMul, Nat.reduceSub, Nat.reduceMod, Nat.reduceDiv, Nat.reduceEqDiff, Int.reduceToNat, Int.toNat_natCast, Bool.not_true, Bool.not_false, false_implies, true_implies, decide_true, decide_false, true_and, and_true, and_false, false_and, and_self, reduceIte, reduceCtorEq, Bool.false_eq_true, List.getElem?_cons_zero, List.getElem?_cons_succ, List.length_cons, List.length_nil, List.take_succ_cons, List.take_zero, List.drop_succ_cons, List.drop_zero, ne_eq, not_false_eq_true, Nat.add_zero, Nat.zero_add, Nat.mul_one, Int.cast_ofNat_Int, Int.reduceLE, Int.reduceLT, Int.reduceEq, Int.reduceNeg, Nat.le_refl, Nat.le_add_right, Nat.zero_le, forall_const]
    refine callA_false (beside_E _ _ _ x y _ ?_)
    simp only [go_sem, Nat.reduceBEq, Nat.reduceLT, Nat.reduceLeDiff, Nat.reduceAdd, Nat.reduceMul, Nat.reduceSub, Nat.reduceMod, Nat.reduceDiv, Nat.reduceEqDiff, Int.reduceToNat, Int.toNat_natCast, Bool.not_true, Bool.not_false, false_implies, true_implies, decide_true, decide_false, true_and, and_true, and_false, false_and, and_self, reduceIte, reduceCtorEq, Bool.false_eq_true, List.getElem?_cons_zero, List.getElem?_cons_succ, List.length_cons, List.length_nil, List.take_succ_cons, List.take_zero, List.drop_succ_cons, List.drop_zero, ne_eq, not_false_eq_true, Nat.add_zero, Nat.zero_add, Nat.mul_one, Int.cast_ofNat_Int, Int.reduceLE, Int.reduceLT, Int.reduceEq, Int.reduceNeg, Nat.le_refl, Nat.le_add_right, Nat.zero_le, forall_const]
    refine callA_false (deleteFunc_E _ _ _ (n + 2) 4 4 (besideL x y) _ _ _ _ _ _ (nbB S) (fst4 (nbB S) (besideL x y)) (hget_hit _ _ _) (by omega) rfl (by omega) (Nat.le_refl _) rfl rfl (fun _ _ => rfl) ?_
      (fun h => fst4_none h) (fun h => fst4_some h) (fun j hj nt n0 h' n' hn hb => ?_) _ fun own => ?_)
    · exact fn_lt (xs := []) (ys := [.ptr n 0]) (fun v hv => by cases hv) (fun v hv => by simp at hv; subst hv; show n < _; omega)
    · show CallQ _ _ _ [spot _ _, .ptr n 0] h' n' _
      have hg : ∀ j t, j < n → hget h j = some t → hget h' j = some t := fun j t hj ht => hb j (by omega) (by omega) t (by simp only [hget]; rw [if_neg (by omega), if_neg (by omega), if_neg (by omega)]; exact ht)
      exact nb1_Q _ h' n' i o n s ⟨1, cl [.ptr i o], true, none⟩ S _ _ (hg i s hi hs) (by omega) hS hsm (hb n (by omega) (by omega) _ (by simp [hget])) (by omega) (Nat.le_refl _) rfl
    · simp only [go_sem, Nat.reduceBEq, Nat.reduceLT, Nat.reduceLeDiff, Nat.reduceAdd, Nat.reduceMul, Nat.reduceSub, Nat.reduceMod, Nat.reduceDiv, Nat.reduceEqDiff, Int.reduceToNat, Int.toNat_natCast, Bool.not_true, Bool.not_false, false_implies, true_implies, decide_true, decide_false, true_and, and_true, and_false, false_and, and_self, reduceIte, reduceCtorEq, Bool.false_eq_true, List.getElem?_cons_zero, List.getElem?_cons_succ, List.length_cons, List.length_nil, List.take_succ_cons, List.take_zero, List.drop_succ_cons, List.drop_zero, ne_eq, not_false_eq_true, Nat.add_zero, Nat.zero_add, Nat.mul_one, Int.cast_ofNat_Int, Int.reduceLE, Int.reduceLT, Int.reduceEq, Int.reduceNeg, Nat.le_refl, Nat.le_add_right, Nat.zero_le, forall_const]
      exact ⟨rfl, _, rfl, rfl, rfl, rfl⟩
  · rintro hok r h' n' ⟨rfl, rfl, hx, t, ht, h1, h2, h3⟩
    exact ⟨n + 2, .sl n 0 (nb S x y).length 4, _, n + 1, by simp, by simp, by simp only [ren_sl, sig_hit], Nat.lt_succ_self n,
      impH.cons1 ht (Nat.lt_succ_self n) (SegLe.flat (by simp [h1]) (fun _ => h2) (.inl rfl) fun k hk => ⟨by rw [h3], spotsC_flat _ _⟩) (impH.base1 hok (by simp) (Nat.le_refl n) hx), hK _⟩
end

/-! ### Changes of a sheet -/
def Sh.setDye (S : Sh) (y x i v : Int) : Sh := { S with dye := fun y' x' i' => if y' = y ∧ x' = x ∧ i' = i then v else S.dye y' x' i' }
def Sh.setWet (S : Sh) (y x v : Int) : Sh := { S with wet := fun y' x' => if y' = y ∧ x' = x then v else S.wet y' x' }
theorem w16_in (x : Int) : -32768 ≤ IntKind.i16.wrap x ∧ IntKind.i16.wrap x < 32768 := by
  simp [IntKind.wrap, IntKind.bits, IntKind.signed]; omega
theorem ShAt.dyeN {s : Seg} {o : Nat} {S : Sh} (h : ShAt s o S) {y x : Int} (k : Nat) (h1 : 0 ≤ y) (h2 : y < 8) (h3 : 0 ≤ x) (h4 : x < 8) (h6 : k < 3) :
    s.c (o + 66 + y.toNat * 24 + x.toNat * 3 + k) = .int .i16 (S.dye y x k) := by
  have := h.dye h1 h2 h3 h4 (i := (k : Int)) (by omega) (by omega)
  simpa using this
theorem ShAt.setDye {sn : Nat} {c : Nat → SV} {r : Bool} {w : Option (Nat × Nat)} {o : Nat} {S : Sh} (h : ShAt ⟨sn, c, r, w⟩ o S) {y x v : Int} (k : Nat) (h1 : 0 ≤ y) (h2 : y < 8) (h3 : 0 ≤ x) (h4 : x < 8) (h6 : k < 3) (hv : -32768 ≤ v ∧ v < 32768) :
    ShAt ⟨sn, upd c (o + 66 + y.toNat * 24 + x.toNat * 3 + k) (.int .i16 v), r, w⟩ o (S.setDye y x k v) := by
  obtain ⟨hl, ⟨R1, R2, R3, R4, R5⟩, a1, a2, a3, a4, a5⟩ := h
  have ne : ∀ z, o + z ≠ o + 66 + y.toNat * 24 + x.toNat * 3 + k → upd c (o + 66 + y.toNat * 24 + x.toNat * 3 + k) (.int .i16 v) (o + z) = c (o + z) := fun z hz => by simp [upd, hz]
  refine ⟨hl, ⟨R1, R2, R3, fun y' x' i' => ?_, R5⟩, ?_, ?_, fun y' x' b1 b2 b3 b4 => ?_, fun y' x' i' b1 b2 b3 b4 b5 b6 => ?_, fun y' b1 b2 => ?_⟩
  · simp only [Sh.setDye]; split
    · exact hv
    · exact R4 _ _ _
  · exact (ne 0 (by omega)).trans a1
  · exact (ne 1 (by omega)).trans a2
  · exact (ne _ (by omega)).trans (a3 y' x' b1 b2 b3 b4)
  · simp only [Sh.setDye]
    split
    · rename_i he
      obtain ⟨rfl, rfl, rfl⟩ := he
      simp [upd, Nat.add_assoc]
    · rename_i he
      exact (ne _ (by omega)).trans (a4 y' x' i' b1 b2 b3 b4 b5 b6)
  · exact (ne _ (by omega)).trans (a5 y' b1 b2)
theorem ShAt.setWet {sn : Nat} {c : Nat → SV} {r : Bool} {w : Option (Nat × Nat)} {o : Nat} {S : Sh} (h : ShAt ⟨sn, c, r, w⟩ o S) {y x v : Int} (h1 : 0 ≤ y) (h2 : y < 8) (h3 : 0 ≤ x) (h4 : x < 8) (hv : -32768 ≤ v ∧ v < 32768) :
    ShAt ⟨sn, upd c (o + 2 + y.toNat * 8 + x.toNat) (.int .i16 v), r, w⟩ o (S.setWet y x v) := by
  obtain ⟨hl, ⟨R1, R2, R3, R4, R5⟩, a1, a2, a3, a4, a5⟩ := h
  have ne : ∀ z, o + z ≠ o + 2 + y.toNat * 8 + x.toNat → upd c (o + 2 + y.toNat * 8 + x.toNat) (.int .i16 v) (o + z) = c (o + z) := fun z hz => by simp [upd, hz]
  refine ⟨hl, ⟨R1, R2, fun y' x' => ?_, R4, R5⟩, ?_, ?_, fun y' x' b1 b2 b3 b4 => ?_, fun y' x' i' b1 b2 b3 b4 b5 b6 => ?_, fun y' b1 b2 => ?_⟩
  · simp only [Sh.setWet]; split
    · exact hv
    · exact R3 _ _
  · exact (ne 0 (by omega)).trans a1
  · exact (ne 1 (by omega)).trans a2
  · simp only [Sh.setWet]
    split
    · rename_i he
      obtain ⟨rfl, rfl⟩ := he
      simp [upd, Nat.add_assoc]
    · rename_i he
      exact (ne _ (by omega)).trans (a3 y' x' b1 b2 b3 b4)
  · exact (ne _ (by omega)).trans (a4 y' x' i' b1 b2 b3 b4 b5 b6)
  · exact (ne _ (by omega)).trans (a5 y' b1 b2)

/-- A unit given: one ink, all inks, the water. -/
def giveBy (w : Int) (S : Sh) (fx fy tx ty : Int) (i : Int) : Int := min (IntKind.i16.wrap ((S.dye fy fx i).tdiv w)) (IntKind.i16.wrap (1000 - S.dye ty tx i))
def giveInk (w : Int) (S : Sh) (fx fy tx ty : Int) (i : Nat) : Sh :=
  (S.setDye fy fx i (IntKind.i16.wrap (S.dye fy fx i - giveBy w S fx fy tx ty i))).setDye ty tx i
    (IntKind.i16.wrap ((S.setDye fy fx i (IntKind.i16.wrap (S.dye fy fx i - giveBy w S fx fy tx ty i))).dye ty tx i + giveBy w S fx fy tx ty i))
def giveN (w : Int) (S : Sh) (fx fy tx ty : Int) : Nat → Sh
  | 0 => S
  | k + 1 => giveInk w (giveN w S fx fy tx ty k) fx fy tx ty k
def giveS (S : Sh) (fx fy tx ty : Int) : Sh :=
  let S3 := giveN (S.wet fy fx) S fx fy tx ty 3
  let S4 := S3.setWet fy fx (IntKind.i16.wrap (S3.wet fy fx - 1))
  S4.setWet ty tx (IntKind.i16.wrap (S4.wet ty tx + 1))

section
variable (cx : Cx) (h : List (Nat × Seg)) (n : Nat)

theorem give_E (i o : Nat) (s : Seg) (S : Sh) (fx fy tx ty : Int) (hs : hget h i = some s) (hi : i < n) (hrw : s.rw = true) (hS : ShAt s o S) (hw : S.wet fy fx ≠ 0)
    (hfx : 0 ≤ fx) (hfx8 : fx < 8) (hfy : 0 ≤ fy) (hfy8 : fy < 8) (htx : 0 ≤ tx) (htx8 : tx < 8) (hty : 0 ≤ ty) (hty8 : ty < 8) (K : HK)
    (hK : ∀ c' : Nat → SV, ShAt ⟨s.n, c', true, s.own⟩ o (giveS S fx fy tx ty) → (∀ z, z < o ∨ o + 266 ≤ z → c' z = s.c z) → K (.tup 0 (cl [])) (hset h i ⟨s.n, c', true, s.own⟩) n) :
    CallE Try.prog cx 83 [.ptr i o, spot fx fy, spot tx ty] h n K := by
  have hne : (n == i) = false := by simp; omega
  have hnk : ∀ k, (n + k == i) = false := fun k => by simp; omega
  obtain ⟨sn, sc, sr, so⟩ := s
  simp only at hrw
  subst hrw
  have hlen : o + 266 ≤ sn := hS.1
  have hn1 : (1 = sn) = False := by simp; omega
  refine CallE.imp0 (K := fun r h' n' => n ≤ n' ∧ r = .tup 0 (cl []) ∧ HBut i n h h' ∧ ∃ c' : Nat → SV, hget h' i = some ⟨sn, c', true, so⟩ ∧ ShAt ⟨sn, c', true, so⟩ o (giveS S fx fy tx ty) ∧ ∀ z, z < o ∨ o + 266 ≤ z → c' z = sc z) ?_ ?_
  rotate_left
  · rintro hok r h' n' ⟨h0, rfl, hx, c', ht, h1, h2⟩
    exact ⟨.tup 0 (cl []), _, n, Nat.le_refl _, by simp only [ren_nil], (fun j hj => by omega), impH.set0 hok (Nat.le_refl n) hs hx ht
      ⟨Nat.le_refl _, id, .inr rfl, fun k hk ρ => rfl, h1.below h2 (hok i _ hs).2⟩, hK c' h1 h2⟩
  refine callE_of_T (P := Try.prog) hti (nt := 99) (rs := []) rfl rfl Try.call83 Try.func83 rfl _ (by simp only [go_sem, and_self]) (Nat.le_of_ble_eq_true rfl) _ fun hok => ?_
  simp only [go_sem, Nat.reduceBEq, Nat.reduceLT, Nat.reduceLeDiff, Nat.reduceAdd, Nat.reduceMul, Nat.reduceSub, Nat.reduceMod, Nat.reduceDiv, Nat.reduceEqDiff, Int.reduceToNat, Int.toNat_natCast, Bool.not_true, Bool.not_false, false_implies, true_implies, decide_true, decide_false, true_and, and_true, and_false, false_and, and_self, reduceIte, reduceCtorEq, Bool.false_eq_true, List.getElem?_cons_zero, List.getElem?_cons_succ, List.length_cons, List.length_nil, List.take_succ_cons, List.take_zero, List.drop_succ_cons, List.drop_zero, ne_eq, not_false_eq_true, Nat.add_zero, Nat.zero_add, Nat.mul_one, Int.cast_ofNat_Int, Int.reduceLE, Int.reduceLT, Int.reduceEq, Int.reduceNeg, Nat.le_refl, Nat.le_add_right, Nat.zero_le, forall_const]
  refine T_draw hti _ _ (by kernel_rfl) (by kernel_rfl) ?_
  have hwet : sc (o + 2 + fy.toNat * 8 + fx.toNat) = .int .i16 (S.wet fy fx) := hS.wet hfy hfy8 hfx hfx8
  simp only [go_sem, Nat.reduceBEq, Nat.reduceLT, Nat.reduceLeDiff, Nat.reduceAdd, Nat.reduceMul, Nat.reduceSub, Nat.reduceMod, Nat.reduceDiv, Nat.reduceEqDiff, Int.reduceToNat, Int.toNat_natCast, Bool.not_true, Bool.not_false, false_implies, true_implies, decide_true, decide_false, true_and, and_true, and_false, false_and, and_self, reduceIte, reduceCtorEq, Bool.false_eq_true, List.getElem?_cons_zero, List.getElem?_cons_succ, List.length_cons, List.length_nil, List.take_succ_cons, List.take_zero, List.drop_succ_cons, List.drop_zero, ne_eq, not_false_eq_true, Nat.add_zero, Nat.zero_add, Nat.mul_one, Int.cast_ofNat_Int, Int.reduceLE, Int.reduceLT, Int.reduceEq, Int.reduceNeg, Nat.le_refl, Nat.le_add_right, Nat.zero_le, forall_const, hne, hnk, hs, hwet, hfx, hfx8, hfy, hfy8]
  refine ⟨by omega, ?_⟩
  refine T_lp (ι := { q : Nat × (Nat → SV) // q.1 ≤ 3 ∧ ShAt ⟨sn, q.2, true, so⟩ o (giveN (S.wet fy fx) S fx fy tx ty q.1) ∧ ∀ z, z < o ∨ o + 266 ≤ z → q.2 z = sc z })
    (fun q => ([(0, .ptr i o), (4, .ptr n 0), (5, .ptr (n + 1) 0), (6, .int .i16 (S.wet fy fx)), (21, .int .i64 q.1.1)],
      (n + 1, ⟨2, cl [.int .i8 tx, .int .i8 ty], true, none⟩) :: (n, ⟨2, cl [.int .i8 fx, .int .i8 fy], true, none⟩) :: hset h i ⟨sn, q.1.2, true, so⟩, n + 2)) (fun q => 3 - q.1.1) ⟨(0, sc), by omega, hS, fun _ _ => rfl⟩ ?_ ?_
  · refine Imp.id (by simp) ?_ ?_
    · simp only [go_sem, Nat.reduceBEq, Nat.reduceLT, Nat.reduceLeDiff, Nat.reduceAdd, Nat.reduceMul, Nat.reduceSub, Nat.reduceMod, Nat.reduceDiv, Nat.reduceEqDiff, Int.reduceToNat, Int.toNat_natCast, Bool.not_true, Bool.not_false, false_implies, true_implies, decide_true, decide_false, true_and, and_true, and_false, false_and, and_self, reduceIte, reduceCtorEq, Bool.false_eq_true, List.getElem?_cons_zero, List.getElem?_cons_succ, List.length_cons, List.length_nil, List.take_succ_cons, List.take_zero, List.drop_succ_cons, List.drop_zero, ne_eq, not_false_eq_true, Nat.add_zero, Nat.zero_add, Nat.mul_one, Int.cast_ofNat_Int, Int.reduceLE, Int.reduceLT, Int.reduceEq, Int.reduceNeg, Nat.le_refl, Nat.le_add_right, Nat.zero_le, forall_const]
      omega
    · rw [hset_self hs]
      exact impH.cons0 (hget_hit _ _ _) (by simp) (SegLe.flat (Nat.le_refl _) id (.inr rfl) fun z hz => ⟨rfl, cl_flat (l := [_, _]) (fun v hv => by simp at hv; rcases hv with rfl | rfl <;> trivial) hz⟩)
        (impH.cons0 ((hget_miss _ _ _ _ (by simp)).trans (hget_hit _ _ _)) (by simp) (SegLe.flat (Nat.le_refl _) id (.inr rfl) fun z hz => ⟨rfl, cl_flat (l := [_, _]) (fun v hv => by simp at hv; rcases hv with rfl | rfl <;> trivial) hz⟩)
          (impH.base0 hok (by simp) ((HExt.rfl.cons (Nat.le_refl n)).cons (by simp))))
  · rintro ⟨⟨k, c'⟩, hk, hS', ho⟩
    simp only at hk hS' ho
    have hgi : ∀ t, hget (hset h i t) i = some t := hget_hset_self hs
    simp only [go_sem, Nat.reduceBEq, Nat.reduceLT, Nat.reduceLeDiff, Nat.reduceAdd, Nat.reduceMul, Nat.reduceSub, Nat.reduceMod, Nat.reduceDiv, Nat.reduceEqDiff, Int.reduceToNat, Int.toNat_natCast, Bool.not_true, Bool.not_false, false_implies, true_implies, decide_true, decide_false, true_and, and_true, and_false, false_and, and_self, reduceIte, reduceCtorEq, Bool.false_eq_true, List.getElem?_cons_zero, List.getElem?_cons_succ, List.length_cons, List.length_nil, List.take_succ_cons, List.take_zero, List.drop_succ_cons, List.drop_zero, ne_eq, not_false_eq_true, Nat.add_zero, Nat.zero_add, Nat.mul_one, Int.cast_ofNat_Int, Int.reduceLE, Int.reduceLT, Int.reduceEq, Int.reduceNeg, Nat.le_refl, Nat.le_add_right, Nat.zero_le, forall_const, hne, hnk, hgi, decide_eq_true_eq, decide_eq_false_iff_not]
    refine ⟨fun h1 => ?_, fun h1 => ?_⟩
    · have hd1 : c' (o + 66 + fy.toNat * 24 + fx.toNat * 3 + k) = .int .i16 ((giveN (S.wet fy fx) S fx fy tx ty k).dye fy fx k) := hS'.dyeN k hfy hfy8 hfx hfx8 (by omega)
      have hd2 : c' (o + 66 + ty.toNat * 24 + tx.toNat * 3 + k) = .int .i16 ((giveN (S.wet fy fx) S fx fy tx ty k).dye ty tx k) := hS'.dyeN k hty hty8 htx htx8 (by omega)
      have hk0 : (0 : Int) ≤ k := by omega
      have hk3 : (k : Int) < 3 := by omega
      refine T_draw hti _ _ (by kernel_rfl) (by kernel_rfl) ?_
      simp only [go_sem, Nat.reduceBEq, Nat.reduceLT, Nat.reduceLeDiff, Nat.reduceAdd, Nat.reduceMul, Nat.reduceSub, Nat.reduceMod, Nat.reduceDiv, Nat.reduceEqDiff, Int.reduceToNat, Int.toNat_natCast, Bool.not_true, Bool.not_false, false_implies, true_implies, decide_true, decide_false, true_and, and_true, and_false, false_and, and_self, reduceIte, reduceCtorEq, Bool.false_eq_true, List.getElem?_cons_zero, List.getElem?_cons_succ, List.length_cons, List.length_nil, List.take_succ_cons, List.take_zero, List.drop_succ_cons, List.drop_zero, ne_eq, not_false_eq_true, Nat.add_zero, Nat.zero_add, Nat.mul_one, Int.cast_ofNat_Int, Int.reduceLE, Int.reduceLT, Int.reduceEq, Int.reduceNeg, Nat.le_refl, Nat.le_add_right, Nat.zero_le, forall_const, hne, hnk, hgi, hfx, hfx8, hfy, hfy8, htx, htx8, hty, hty8, hk0, hk3]
      refine T_draw hti _ _ (by kernel_rfl) (by kernel_rfl) ?_
      have hS1 := hS'.setDye (v := IntKind.i16.wrap ((giveN (S.wet fy fx) S fx fy tx ty k).dye fy fx k - min (IntKind.i16.wrap (((giveN (S.wet fy fx) S fx fy tx ty k).dye fy fx k).tdiv (S.wet fy fx))) (IntKind.i16.wrap (1000 - (giveN (S.wet fy fx) S fx fy tx ty k).dye ty tx k))))
        k hfy hfy8 hfx hfx8 (by omega) (w16_in _)
      have hd3 := hS1.dyeN k hty hty8 htx htx8 (by omega)
      simp only at hd3
      simp only [go_sem, Nat.reduceBEq, Nat.reduceLT, Nat.reduceLeDiff, Nat.reduceAdd, Nat.reduceMul, Nat.reduceSub, Nat.reduceMod, Nat.reduceDiv, Nat.reduceEqDiff, Int.reduceToNat, Int.toNat_natCast, Bool.not_true, Bool.not_false, false_implies, true_implies, decide_true, decide_false, true_and, and_true, and_false, false_and, and_self, reduceIte, reduceCtorEq, Bool.false_eq_true, List.getElem?_cons_zero, List.getElem?_cons_succ, List.length_cons, List.length_nil, List.take_succ_cons, List.take_zero, List.drop_succ_cons, List.drop_zero, ne_eq, not_false_eq_true, Nat.add_zero, Nat.zero_add, Nat.mul_one, Int.cast_ofNat_Int, Int.reduceLE, Int.reduceLT, Int.reduceEq, Int.reduceNeg, Nat.le_refl, Nat.le_add_right, Nat.zero_le, forall_const, hne, hnk, hgi, hset_hset, hd1, hd2, hd3, hw, hn1]
      refine ⟨by omega, by omega, by omega, by omega, by omega, by omega, ⟨(k + 1, _), by omega, hS1.setDye (v := IntKind.i16.wrap (_ + min (IntKind.i16.wrap (((giveN (S.wet fy fx) S fx fy tx ty k).dye fy fx k).tdiv (S.wet fy fx))) (IntKind.i16.wrap (1000 - (giveN (S.wet fy fx) S fx fy tx ty k).dye ty tx k)))) k hty hty8 htx htx8 (by omega) (w16_in _), fun z hz => ?_⟩, by show 3 - (k + 1) < 3 - k; omega, ?_⟩
      · exact (upd_far (by omega)).trans ((upd_far (by omega)).trans (ho z hz))
      · refine Imp.id (by simp) ?_ ?_
        · simp only [go_sem, Nat.reduceBEq, Nat.reduceLT, Nat.reduceLeDiff, Nat.reduceAdd, Nat.reduceMul, Nat.reduceSub, Nat.reduceMod, Nat.reduceDiv, Nat.reduceEqDiff, Int.reduceToNat, Int.toNat_natCast, Bool.not_true, Bool.not_false, false_implies, true_implies, decide_true, decide_false, true_and, and_true, and_false, false_and, and_self, reduceIte, reduceCtorEq, Bool.false_eq_true, List.getElem?_cons_zero, List.getElem?_cons_succ, List.length_cons, List.length_nil, List.take_succ_cons, List.take_zero, List.drop_succ_cons, List.drop_zero, ne_eq, not_false_eq_true, Nat.add_zero, Nat.zero_add, Nat.mul_one, Int.cast_ofNat_Int, Int.reduceLE, Int.reduceLT, Int.reduceEq, Int.reduceNeg, Nat.le_refl, Nat.le_add_right, Nat.zero_le, forall_const, w64 (n := (k : Int) + 1) (by omega), Int.natCast_add, Int.natCast_one]
          omega
        · refine impH.cons0 (hget_hit _ _ _) (by simp) (SegLe.flat (Nat.le_refl _) id (.inr rfl) fun z hz => ⟨rfl, ?_⟩) (impH.cons0 ((hget_miss _ _ _ _ (by simp)).trans (hget_hit _ _ _)) (by simp) (SegLe.flat (Nat.le_refl _) id (.inr rfl) fun z hz => ⟨rfl, ?_⟩)
            (impH.base0 (hok.hset (ShAt.below (sc := sc) (hS1.setDye k hty hty8 htx htx8 (by omega) (w16_in _)) (fun z hz => ?_) (hok i _ hs).2)) (by simp) ((HExt.rfl.cons (Nat.le_refl n)).cons (by simp))))
          · exact cl_flat (l := [_, _]) (fun v hv => by simp at hv; rcases hv with rfl | rfl <;> trivial) hz
          · exact cl_flat (l := [_, _]) (fun v hv => by simp at hv; rcases hv with rfl | rfl <;> trivial) hz
          · exact (upd_far (by omega)).trans ((upd_far (by omega)).trans (ho z hz))
    · have hk3 : k = 3 := by omega
      subst hk3
      refine T_drawT hti 15 _ _ (by kernel_rfl) (by kernel_rfl) ?_
      have hw2 : c' (o + 2 + fy.toNat * 8 + fx.toNat) = .int .i16 ((giveN (S.wet fy fx) S fx fy tx ty 3).wet fy fx) := hS'.wet hfy hfy8 hfx hfx8
      have hS1 := hS'.setWet (v := IntKind.i16.wrap ((giveN (S.wet fy fx) S fx fy tx ty 3).wet fy fx - 1)) hfy hfy8 hfx hfx8 (w16_in _)
      have hw3 := hS1.wet hty hty8 htx htx8
      simp only at hw3
      simp only [go_sem, Nat.reduceBEq, Nat.reduceLT, Nat.reduceLeDiff, Nat.reduceAdd, Nat.reduceMul, Nat.reduceSub, Nat.reduceMod, Nat.reduceDiv, Nat.reduceEqDiff, Int.reduceToNat, Int.toNat_natCast, Bool.not_true, Bool.not_false, false_implies, true_implies, decide_true, decide_false, true_and, and_true, and_false, false_and, and_self, reduceIte, reduceCtorEq, Bool.false_eq_true, List.getElem?_cons_zero, List.getElem?_cons_succ, List.length_cons, List.length_nil, List.take_succ_cons, List.take_zero, List.drop_succ_cons, List.drop_zero, ne_eq, not_false_eq_true, Nat.add_zero, Nat.zero_add, Nat.mul_one, Int.cast_ofNat_Int, Int.reduceLE, Int.reduceLT, Int.reduceEq, Int.reduceNeg, Nat.le_refl, Nat.le_add_right, Nat.zero_le, forall_const, hne, hnk, hgi, hset_hset, hfx, hfx8, hfy, hfy8, hw2, hn1]
      refine ⟨by omega, by omega, ?_⟩
      refine T_drawT hti 15 _ _ (by kernel_rfl) (by kernel_rfl) ?_
      simp only [go_sem, Nat.reduceBEq, Nat.reduceLT, Nat.reduceLeDiff, Nat.reduceAdd, Nat.reduceMul, Nat.reduceSub, Nat.reduceMod, Nat.reduceDiv, Nat.reduceEqDiff, Int.reduceToNat, Int.toNat_natCast, Bool.not_true, Bool.not_false, false_implies, true_implies, decide_true, decide_false, true_and, and_true, and_false, false_and, and_self, reduceIte, reduceCtorEq, Bool.false_eq_true, List.getElem?_cons_zero, List.getElem?_cons_succ, List.length_cons, List.length_nil, List.take_succ_cons, List.take_zero, List.drop_succ_cons, List.drop_zero, ne_eq, not_false_eq_true, Nat.add_zero, Nat.zero_add, Nat.mul_one, Int.cast_ofNat_Int, Int.reduceLE, Int.reduceLT, Int.reduceEq, Int.reduceNeg, Nat.le_refl, Nat.le_add_right, Nat.zero_le, forall_const, hne, hnk, hgi, hset_hset, htx, htx8, hty, hty8, hw3, hn1]
      exact ⟨by omega, by omega, ((HBut.set i n h _).cons (Nat.le_refl n)).cons (by omega), _, rfl, hS1.setWet hty hty8 htx htx8 (w16_in _), fun z hz => (upd_far (by omega)).trans ((upd_far (by omega)).trans (ho z hz))⟩
end
end Go.Proofs.Ytebpkdolmlloaaa.V
