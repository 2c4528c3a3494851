/- Part 4 of the texts that this proof stands on: a symbolic walk over the program, what its functions and the reference's do, plain laws. -/
import Derived.Test.YtjepjeaecmioaaaZpta
import Derived.Test.YtjepjeaecmioaaaV17
import Derived.Test.YtjepjeaecmioaaaZptc
import Derived.Test.YtjepjeaecmioaaaZptb
set_option linter.all false

/- The law's spots, and lists of spots that are alike. -/
namespace Go.Proofs.Ytjepjeaecmioaaa.V
theorem wr_at {N o k : Nat} {v : SV} {c : Nat → SV} (hk : k < N) : (if o = 0 ∧ 1 = N then cl [v] else upd c o v) k = upd c o v k := by
  split
  · rename_i e
    obtain ⟨rfl, rfl⟩ := e
    obtain rfl : k = 0 := by omega
    rfl
  · rfl
theorem wr_flat {N o : Nat} {v : SV} {c : Nat → SV} (hv : v.flat) (hc : ∀ k, k < N → (c k).flat) : ∀ k, k < N → ((if o = 0 ∧ 1 = N then cl [v] else upd c o v) k).flat := fun k hk => by
  rw [wr_at hk]; unfold upd; split
  · exact hv
  · exact hc k hk
section
variable (cx : Cx) (h : List (Nat × Seg)) (n : Nat)
theorem toSpot_Q (x y : Int) : CallQ Try.prog cx 19 [spot x y] h n (spot x y) := by
  refine callQ_of_T (P := Try.prog) hti (nt := 11) (rs := [.cell 2 53]) rfl rfl Try.call19 Try.func19 rfl _ (by simp only [go_sem, and_self]) (Nat.le_of_ble_eq_true rfl) _ (by first | exact trivial | (refine lt_flat rfl ?_; simp [SV.flat]; done) | simp only [go_sem]) fun hok => ?_
  simp only [go_sem, Nat.reduceBEq, Nat.reduceLT, Nat.reduceLeDiff, Nat.reduceAdd, Nat.reduceMul, Nat.reduceSub, Nat.reduceMod, Nat.reduceDiv, Nat.reduceEqDiff, Int.reduceToNat, reduceIte, reduceCtorEq, Int.reduceLE, Int.reduceLT, Int.reduceEq, Int.reduceNeg, Int.reduceAdd, Int.reduceSub, Int.reduceMul]
theorem eqSpot_Q (x y x' y' : Int) : CallQ Try.prog cx 59 [spot x y, spot x' y'] h n (.bool (decide (x = x' ∧ y = y'))) := by
  refine callQ_of_T (P := Try.prog) hti (nt := 15) (rs := [.tmp 4]) rfl rfl Try.call59 Try.func59 rfl _ (by simp only [go_sem, and_self]) (Nat.le_of_ble_eq_true rfl) _ (by first | exact trivial | (refine lt_flat rfl ?_; simp [SV.flat]; done) | simp only [go_sem]) fun hok => ?_
  simp only [go_sem, Nat.reduceBEq, Nat.reduceLT, Nat.reduceLeDiff, Nat.reduceAdd, Nat.reduceMul, Nat.reduceSub, Nat.reduceMod, Nat.reduceDiv, Nat.reduceEqDiff, Int.reduceToNat, reduceIte, reduceCtorEq, Int.reduceLE, Int.reduceLT, Int.reduceEq, Int.reduceNeg, Int.reduceAdd, Int.reduceSub, Int.reduceMul]
  by_cases hx : x = x'
  · by_cases hy : y = y'
    · simp only [go_sem, Nat.reduceBEq, Nat.reduceLT, Nat.reduceLeDiff, Nat.reduceAdd, Nat.reduceMul, Nat.reduceSub, Nat.reduceMod, Nat.reduceDiv, Nat.reduceEqDiff, Int.reduceToNat, reduceIte, reduceCtorEq, Int.reduceLE, Int.reduceLT, Int.reduceEq, Int.reduceNeg, Int.reduceAdd, Int.reduceSub, Int.reduceMul, hx, hy]
    · simp only [go_sem, Nat.reduceBEq, Nat.reduceLT, Nat.reduceLeDiff, Nat.reduceAdd, Nat.reduceMul, Nat.reduceSub, Nat.reduceMod, Nat.reduceDiv, Nat.reduceEqDiff, Int.reduceToNat, reduceIte, reduceCtorEq, Int.reduceLE, Int.reduceLT, Int.reduceEq, Int.reduceNeg, Int.reduceAdd, Int.reduceSub, Int.reduceMul, hx, hy]
  · simp only [go_sem, Nat.reduceBEq, Nat.reduceLT, Nat.reduceLeDiff, Nat.reduceAdd, Nat.reduceMul, Nat.reduceSub, Nat.reduceMod, Nat.reduceDiv, Nat.reduceEqDiff, Int.reduceToNat, reduceIte, reduceCtorEq, Int.reduceLE, Int.reduceLT, Int.reduceEq, Int.reduceNeg, Int.reduceAdd, Int.reduceSub, Int.reduceMul, hx]
theorem eqSpotS_Q (i cap i' cap' : Nat) (L : List (Int × Int)) (s s' : Seg) (hs : hget h i = some s) (hi : i < n) (hL : SpsAt s L) (hs' : hget h i' = some s') (hi' : i' < n) (hL' : SpsAt s' L) (hm9 : L.length ≤ 1000000000) :
    CallQ Try.prog cx 21 [.sl i 0 L.length cap, .sl i' 0 L.length cap'] h n (.bool true) := by
  have hn := hL.1; have hn' := hL'.1
  refine callQ_of_T (P := Try.prog) hti (nt := 27) (rs := [.tmp 4]) rfl rfl Try.call21 Try.func21 rfl _ (by simp only [go_sem, and_self]) (Nat.le_of_ble_eq_true rfl) _ (by first | exact trivial | (refine lt_flat rfl ?_; simp [SV.flat]; done) | simp only [go_sem]) fun hok => ?_
  simp only [go_sem, Nat.reduceBEq, Nat.reduceLT, Nat.reduceLeDiff, Nat.reduceAdd, Nat.reduceMul, Nat.reduceSub, Nat.reduceMod, Nat.reduceDiv, Nat.reduceEqDiff, Int.reduceToNat, reduceIte, reduceCtorEq, Int.reduceLE, Int.reduceLT, Int.reduceEq, Int.reduceNeg, Int.reduceAdd, Int.reduceSub, Int.reduceMul]
  refine T_lp (ι := { q : Nat // q ≤ L.length }) (fun q => ([(0, .sl i 0 L.length cap), (1, .sl i' 0 L.length cap'), (5, .int .i64 q.1)], h, n)) (fun q => L.length - q.1) ⟨0, by omega⟩ ?_ ?_
  · refine Imp.id (by simp) ?_ (impH.base0 hok (by simp) HExt.rfl)
    simp only [go_sem, Nat.reduceBEq, Nat.reduceLT, Nat.reduceLeDiff, Nat.reduceAdd, Nat.reduceMul, Nat.reduceSub, Nat.reduceMod, Nat.reduceDiv, Nat.reduceEqDiff, Int.reduceToNat, reduceIte, reduceCtorEq, Int.reduceLE, Int.reduceLT, Int.reduceEq, Int.reduceNeg, Int.reduceAdd, Int.reduceSub, Int.reduceMul]
    exact ⟨hi, hi'⟩
  · rintro ⟨q, hq⟩
    simp only [go_sem, Nat.reduceBEq, Nat.reduceLT, Nat.reduceLeDiff, Nat.reduceAdd, Nat.reduceMul, Nat.reduceSub, Nat.reduceMod, Nat.reduceDiv, Nat.reduceEqDiff, Int.reduceToNat, reduceIte, reduceCtorEq, Int.reduceLE, Int.reduceLT, Int.reduceEq, Int.reduceNeg, Int.reduceAdd, Int.reduceSub, Int.reduceMul, decide_eq_true_eq, decide_eq_false_iff_not]
    refine ⟨fun h1 => ?_, fun h1 => ?_⟩
    · have r1 : (0 : Int) ≤ q ∧ (q : Int) < L.length := ⟨by omega, by omega⟩
      have b1 : q * 2 ≤ s.n - 2 := by omega
      have b2 : q * 2 ≤ s'.n - 2 := by omega
      have b3 : 2 ≤ s.n := by omega
      have b4 : 2 ≤ s'.n := by omega
      refine T_draw hti _ _ (by kernel_rfl) (by kernel_rfl) ?_
      simp only [go_sem, Nat.reduceBEq, Nat.reduceLT, Nat.reduceLeDiff, Nat.reduceAdd, Nat.reduceMul, Nat.reduceSub, Nat.reduceMod, Nat.reduceDiv, Nat.reduceEqDiff, Int.reduceToNat, reduceIte, reduceCtorEq, Int.reduceLE, Int.reduceLT, Int.reduceEq, Int.reduceNeg, Int.reduceAdd, Int.reduceSub, Int.reduceMul, hs, hs', r1, b1, b2, b3, b4, hL.x (j := q) (by omega), hL.y (j := q) (by omega), hL'.x (j := q) (by omega), hL'.y (j := q) (by omega)]
      refine ⟨by omega, by omega, (eqSpot_Q _ _ _ _ _ _ _).A ?_⟩
      simp only [go_sem, Nat.reduceBEq, Nat.reduceLT, Nat.reduceLeDiff, Nat.reduceAdd, Nat.reduceMul, Nat.reduceSub, Nat.reduceMod, Nat.reduceDiv, Nat.reduceEqDiff, Int.reduceToNat, reduceIte, reduceCtorEq, Int.reduceLE, Int.reduceLT, Int.reduceEq, Int.reduceNeg, Int.reduceAdd, Int.reduceSub, Int.reduceMul]
      refine ⟨⟨q + 1, by omega⟩, by show L.length - (q + 1) < L.length - q; omega, ?_⟩
      refine Imp.id (by simp) ?_ (impH.base0 hok (by simp) HExt.rfl)
      simp only [go_sem, Nat.reduceBEq, Nat.reduceLT, Nat.reduceLeDiff, Nat.reduceAdd, Nat.reduceMul, Nat.reduceSub, Nat.reduceMod, Nat.reduceDiv, Nat.reduceEqDiff, Int.reduceToNat, reduceIte, reduceCtorEq, Int.reduceLE, Int.reduceLT, Int.reduceEq, Int.reduceNeg, Int.reduceAdd, Int.reduceSub, Int.reduceMul, w64 (n := (q : Int) + 1) (by omega), Int.natCast_add, Int.natCast_one]
      exact ⟨hi, hi'⟩
    · simp only [go_sem, Nat.reduceBEq, Nat.reduceLT, Nat.reduceLeDiff, Nat.reduceAdd, Nat.reduceMul, Nat.reduceSub, Nat.reduceMod, Nat.reduceDiv, Nat.reduceEqDiff, Int.reduceToNat, reduceIte, reduceCtorEq, Int.reduceLE, Int.reduceLT, Int.reduceEq, Int.reduceNeg, Int.reduceAdd, Int.reduceSub, Int.reduceMul]
end
end Go.Proofs.Ytjepjeaecmioaaa.V

/- Giving from a place to another: give, isShare, plus; the program's own walks. -/
namespace Go.Proofs.Ytjepjeaecmioaaa.V

/-- How much goes of v, as a share tells. -/
def giveQ (v share : Int) : Int := (v * share).tdiv 16
theorem giveQ_in {v share : Int} (hv : 0 ≤ v ∧ v ≤ 1000) (hs : 1 ≤ share ∧ share ≤ 15) : 0 ≤ v * share ∧ v * share ≤ 15000 ∧ 0 ≤ giveQ v share ∧ giveQ v share ≤ v := by
  have m0 : 0 ≤ v * share := Int.mul_nonneg hv.1 (by omega)
  have m2 : v * share ≤ v * 15 := Int.mul_le_mul_of_nonneg_left hs.2 hv.1
  refine ⟨m0, by omega, ?_, ?_⟩
  · unfold giveQ; rw [Int.tdiv_eq_ediv_of_nonneg m0]; omega
  · unfold giveQ; rw [Int.tdiv_eq_ediv_of_nonneg m0]; omega
section
variable (cx : Cx) (h : List (Nat × Seg)) (n : Nat)
theorem isShare_Q (share : Int) : CallQ Try.prog cx 31 [.int .i64 share] h n (.bool (decide (1 ≤ share ∧ share ≤ 15))) := by
  refine callQ_of_T (P := Try.prog) hti (nt := 5) (rs := [.tmp 2]) rfl rfl Try.call31 Try.func31 rfl _ (by simp only [go_sem, and_self]) (Nat.le_of_ble_eq_true rfl) _ (by first | exact trivial | (refine lt_flat rfl ?_; simp [SV.flat]; done) | simp only [go_sem]) fun hok => ?_
  simp only [go_sem, Nat.reduceBEq, Nat.reduceLT, Nat.reduceLeDiff, Nat.reduceAdd, Nat.reduceMul, Nat.reduceSub, Nat.reduceMod, Nat.reduceDiv, Nat.reduceEqDiff, Int.reduceToNat, reduceIte, reduceCtorEq, Int.reduceLE, Int.reduceLT, Int.reduceEq, Int.reduceNeg, Int.reduceAdd, Int.reduceSub, Int.reduceMul]
  refine (within_Q _ _ _ _ _ _).A ?_
  simp only [go_sem, Nat.reduceBEq, Nat.reduceLT, Nat.reduceLeDiff, Nat.reduceAdd, Nat.reduceMul, Nat.reduceSub, Nat.reduceMod, Nat.reduceDiv, Nat.reduceEqDiff, Int.reduceToNat, reduceIte, reduceCtorEq, Int.reduceLE, Int.reduceLT, Int.reduceEq, Int.reduceNeg, Int.reduceAdd, Int.reduceSub, Int.reduceMul]
theorem isLevel_Q (level : Int) : CallQ Try.prog cx 32 [.int .i64 level] h n (.bool (decide (0 ≤ level ∧ level ≤ 3000))) := by
  refine callQ_of_T (P := Try.prog) hti (nt := 5) (rs := [.tmp 2]) rfl rfl Try.call32 Try.func32 rfl _ (by simp only [go_sem, and_self]) (Nat.le_of_ble_eq_true rfl) _ (by first | exact trivial | (refine lt_flat rfl ?_; simp [SV.flat]; done) | simp only [go_sem]) fun hok => ?_
  simp only [go_sem, Nat.reduceBEq, Nat.reduceLT, Nat.reduceLeDiff, Nat.reduceAdd, Nat.reduceMul, Nat.reduceSub, Nat.reduceMod, Nat.reduceDiv, Nat.reduceEqDiff, Int.reduceToNat, reduceIte, reduceCtorEq, Int.reduceLE, Int.reduceLT, Int.reduceEq, Int.reduceNeg, Int.reduceAdd, Int.reduceSub, Int.reduceMul]
  refine (within_Q _ _ _ _ _ _).A ?_
  simp only [go_sem, Nat.reduceBEq, Nat.reduceLT, Nat.reduceLeDiff, Nat.reduceAdd, Nat.reduceMul, Nat.reduceSub, Nat.reduceMod, Nat.reduceDiv, Nat.reduceEqDiff, Int.reduceToNat, reduceIte, reduceCtorEq, Int.reduceLE, Int.reduceLT, Int.reduceEq, Int.reduceNeg, Int.reduceAdd, Int.reduceSub, Int.reduceMul]
theorem give0_E (i a : Nat) (s : Seg) (v share : Int) (hs : hget h i = some s) (hi : i < n) (hrw : s.rw = true) (ha : a < s.n) (hn2 : 2 ≤ s.n) (hv : s.c a = .int .i16 v) (hr : 0 ≤ v ∧ v ≤ 1000) (h2 : 1 ≤ share ∧ share ≤ 15) (K : HK)
    (hK : K (.int .i64 (giveQ v share)) (hset h i ⟨s.n, upd s.c a (.int .i16 (v - giveQ v share)), true, s.own⟩) n) :
    CallE Try.prog cx 71 [.ptr i a, .raw (.pointer none), .int .i64 share, .int .i64 0] h n K := by
  obtain ⟨m0, m1, m2, m3⟩ := giveQ_in hr h2
  have b1 : a ≤ s.n - 1 := by omega
  have b2 : 1 ≤ s.n := by omega
  have b3 : a + 1 ≤ s.n := by omega
  have b4 : ¬ (a = 0 ∧ 1 = s.n) := by omega
  have e : (v * share).tdiv 16 = giveQ v share := rfl
  refine callE_of_T (P := Try.prog) hti (nt := 42) (rs := [.tmp 8]) rfl rfl Try.call71 Try.func71 rfl _ (by simp only [go_sem, and_self]) (Nat.le_of_ble_eq_true rfl) _ fun hok => ?_
  simp only [go_sem, Nat.reduceBEq, Nat.reduceLT, Nat.reduceLeDiff, Nat.reduceAdd, Nat.reduceMul, Nat.reduceSub, Nat.reduceMod, Nat.reduceDiv, Nat.reduceEqDiff, Int.reduceToNat, reduceIte, reduceCtorEq, Int.reduceLE, Int.reduceLT, Int.reduceEq, Int.reduceNeg, Int.reduceAdd, Int.reduceSub, Int.reduceMul, hs, hi, hv, b1, b2, b3, b4, hrw, e, w64 (n := v) (by omega), w64 (n := v * share) (by omega), w64 (n := giveQ v share) (by omega), w16 (n := giveQ v share) (by omega), w16 (n := v - giveQ v share) (by omega), if_false]
  exact hK
theorem give1_E (i a b : Nat) (s : Seg) (v u share most : Int) (hs : hget h i = some s) (hi : i < n) (hrw : s.rw = true) (ha : a < s.n) (hb : b < s.n) (hab : a ≠ b) (hn2 : 2 ≤ s.n) (hv : s.c a = .int .i16 v) (hu : s.c b = .int .i16 u) (hr : 0 ≤ v ∧ v ≤ 1000) (hq : 0 ≤ u ∧ u ≤ most) (hm : most ≤ 1000) (h2 : 1 ≤ share ∧ share ≤ 15) (K : HK)
    (hK : K (.int .i64 (min (giveQ v share) (most - u))) (hset h i ⟨s.n, upd (upd s.c b (.int .i16 (u + min (giveQ v share) (most - u)))) a (.int .i16 (v - min (giveQ v share) (most - u))), true, s.own⟩) n) :
    CallE Try.prog cx 71 [.ptr i a, .ptr i b, .int .i64 share, .int .i64 most] h n K := by
  obtain ⟨m0, m1, m2, m3⟩ := giveQ_in hr h2
  have b1 : a ≤ s.n - 1 := by omega
  have b2 : 1 ≤ s.n := by omega
  have b3 : a + 1 ≤ s.n := by omega
  have b4 : ¬ (a = 0 ∧ 1 = s.n) := by omega
  have c1 : b ≤ s.n - 1 := by omega
  have c3 : b + 1 ≤ s.n := by omega
  have c4 : ¬ (b = 0 ∧ 1 = s.n) := by omega
  have e : (v * share).tdiv 16 = giveQ v share := rfl
  have hx : 0 ≤ min (giveQ v share) (most - u) ∧ min (giveQ v share) (most - u) ≤ v ∧ u + min (giveQ v share) (most - u) ≤ 1000 := by omega
  generalize hy : min (giveQ v share) (most - u) = y at *
  have hg : ∀ c, hget (hset h i ⟨s.n, c, true, s.own⟩) i = some ⟨s.n, c, true, s.own⟩ := fun c => hget_hset_self hs _
  refine callE_of_T (P := Try.prog) hti (nt := 42) (rs := [.tmp 8]) rfl rfl Try.call71 Try.func71 rfl _ (by simp only [go_sem, and_self]) (Nat.le_of_ble_eq_true rfl) _ fun hok => ?_
  simp only [go_sem, Nat.reduceBEq, Nat.reduceLT, Nat.reduceLeDiff, Nat.reduceAdd, Nat.reduceMul, Nat.reduceSub, Nat.reduceMod, Nat.reduceDiv, Nat.reduceEqDiff, Int.reduceToNat, reduceIte, reduceCtorEq, Int.reduceLE, Int.reduceLT, Int.reduceEq, Int.reduceNeg, Int.reduceAdd, Int.reduceSub, Int.reduceMul, hs, hi, hv, hu, b1, b2, b3, b4, c1, c3, c4, hrw, e, hg, w64 (n := v) (by omega), w64 (n := u) (by omega), w64 (n := most - u) (by omega), w64 (n := v * share) (by omega), w64 (n := giveQ v share) (by omega), hy, w16 (n := y) (by omega), w16 (n := u + y) (by omega), w16 (n := v - y) (by omega), upd_far hab, if_false]
  exact hK
end
end Go.Proofs.Ytjepjeaecmioaaa.V

/- Passing down: the plain model, its cells in memory. -/
namespace Go.Proofs.Ytjepjeaecmioaaa.V

/-! ### Stacks of good sheets of the same sides -/
structure PG (L : List Sh) (W H : Nat) (S : Sh) : Prop where
  good : Good S
  R : ShR S
  wide : S.wide = W
  high : S.high = H
def PGood (L : List Sh) (W H : Nat) : Prop := ∀ i, i < L.length → PG L W H (L.getD i sh0)
theorem getD_set (L : List Sh) (i j : Nat) (S : Sh) : (L.set i S).getD j sh0 = if i = j ∧ i < L.length then S else L.getD j sh0 := by
  simp only [List.getD_eq_getElem?_getD, List.getElem?_set]
  by_cases h : i = j
  · subst h
    by_cases h2 : i < L.length
    · simp [h2]
    · simp [h2]
  · simp [h]
theorem PGood.set {L : List Sh} {W H i : Nat} {S : Sh} (h : PGood L W H) (h1 : Good S) (h2 : ShR S) (h3 : S.wide = W) (h4 : S.high = H) : PGood (L.set i S) W H := by
  intro j hj
  rw [List.length_set] at hj
  rw [getD_set]
  split
  · exact ⟨h1, h2, h3, h4⟩
  · exact ⟨(h j hj).good, (h j hj).R, (h j hj).wide, (h j hj).high⟩
theorem PGood.stR {L : List Sh} {W H : Nat} (h : PGood L W H) : StR L := fun i hi => (h i hi).R
theorem Good.setDye {S : Sh} (h : Good S) {y x i v : Int} (hv : 0 ≤ v ∧ v ≤ 1000) : Good (S.setDye y x i v) :=
  ⟨h.small, h.wet, fun y' x' i' a b c d e f => by
    show 0 ≤ (if y' = y ∧ x' = x ∧ i' = i then v else S.dye y' x' i') ∧ (if y' = y ∧ x' = x ∧ i' = i then v else S.dye y' x' i') ≤ 1000
    split
    · exact hv
    · exact h.dye y' x' i' a b c d e f⟩
theorem Good.setWet {S : Sh} (h : Good S) {y x v : Int} (hv : 0 ≤ v ∧ v ≤ 200) : Good (S.setWet y x v) :=
  ⟨h.small, fun y' x' a b c d => by
    show 0 ≤ (if y' = y ∧ x' = x then v else S.wet y' x') ∧ (if y' = y ∧ x' = x then v else S.wet y' x') ≤ 200
    split
    · exact hv
    · exact h.wet y' x' a b c d, h.dye⟩
theorem PGood.setDye {L : List Sh} {W H i : Nat} (h : PGood L W H) (hi : i < L.length) {y x k v : Int} (hv : 0 ≤ v ∧ v ≤ 1000) : PGood (L.set i ((L.getD i sh0).setDye y x k v)) W H :=
  h.set ((h i hi).good.setDye hv) ((h i hi).R.setDye (by omega)) (h i hi).wide (h i hi).high
theorem PGood.setWet {L : List Sh} {W H i : Nat} (h : PGood L W H) (hi : i < L.length) {y x v : Int} (hv : 0 ≤ v ∧ v ≤ 200) : PGood (L.set i ((L.getD i sh0).setWet y x v)) W H :=
  h.set ((h i hi).good.setWet hv) ((h i hi).R.setWet (by omega)) (h i hi).wide (h i hi).high

/-! ### Cells of a stack -/
section
variable (L : List Sh) (i : Nat) {y x : Int} (v : Int)
theorem stC_wet (h1 : 0 ≤ y) (h2 : y < 8) (h3 : 0 ≤ x) (h4 : x < 8) : stC L (i * 266 + 2 + y.toNat * 8 + x.toNat) = .int .i16 ((L.getD i sh0).wet y x) := by
  rw [show i * 266 + 2 + y.toNat * 8 + x.toNat = i * 266 + (2 + y.toNat * 8 + x.toNat) by omega, stC_at L i (by omega), shC_wet _ _ _ h1 h2 h3 h4]
theorem stC_dye (k : Nat) (h1 : 0 ≤ y) (h2 : y < 8) (h3 : 0 ≤ x) (h4 : x < 8) (h5 : k < 3) : stC L (i * 266 + 66 + y.toNat * 24 + x.toNat * 3 + k) = .int .i16 ((L.getD i sh0).dye y x k) := by
  rw [show i * 266 + 66 + y.toNat * 24 + x.toNat * 3 + k = i * 266 + (66 + y.toNat * 24 + x.toNat * 3 + k) by omega, stC_at L i (by omega), shC_dyeN _ _ _ k h1 h2 h3 h4 h5]
theorem stC_setWet (hi : i < L.length) (h1 : 0 ≤ y) (h2 : y < 8) (h3 : 0 ≤ x) (h4 : x < 8) : upd (stC L) (i * 266 + 2 + y.toNat * 8 + x.toNat) (.int .i16 v) = stC (L.set i ((L.getD i sh0).setWet y x v)) := by
  rw [show i * 266 + 2 + y.toNat * 8 + x.toNat = i * 266 + (2 + y.toNat * 8 + x.toNat) by omega]
  exact stC_set hi (by omega) (shC_setWet _ _ _ _ h1 h2 h3 h4)
theorem stC_setDye (hi : i < L.length) (k : Nat) (h1 : 0 ≤ y) (h2 : y < 8) (h3 : 0 ≤ x) (h4 : x < 8) (h5 : k < 3) : upd (stC L) (i * 266 + 66 + y.toNat * 24 + x.toNat * 3 + k) (.int .i16 v) = stC (L.set i ((L.getD i sh0).setDye y x k v)) := by
  rw [show i * 266 + 66 + y.toNat * 24 + x.toNat * 3 + k = i * 266 + (66 + y.toNat * 24 + x.toNat * 3 + k) by omega]
  exact stC_set hi (by omega) (shC_setDyeN _ _ _ _ k h1 h2 h3 h4 h5)
end
theorem upd_comm {c : Nat → SV} {a b : Nat} {u v : SV} (h : a ≠ b) : upd (upd c a u) b v = upd (upd c b v) a u := by
  funext z
  unfold upd
  by_cases h1 : z = a
  · by_cases h2 : z = b
    · omega
    · simp [h1, h]
  · simp [h1]

/-! ### The table's part; a sheet's giving to the one below -/
structure Pst where
  L : List Sh
  d : Nat → Int
  w : Int
section
variable (share : Int) (i : Nat) (x y : Int)
def tbK (S : Pst) (k : Nat) : Pst :=
  ⟨S.L.set i ((S.L.getD i sh0).setDye y x k ((S.L.getD i sh0).dye y x k - giveQ ((S.L.getD i sh0).dye y x k) share)), fun k' => if k' = k then IntKind.i64.wrap (S.d k + giveQ ((S.L.getD i sh0).dye y x k) share) else S.d k', S.w⟩
def tbKs (S : Pst) : Nat → Pst
  | 0 => S
  | k + 1 => tbK share i x y (tbKs S k) k
def tbW (S : Pst) : Pst :=
  ⟨S.L.set i ((S.L.getD i sh0).setWet y x ((S.L.getD i sh0).wet y x - giveQ ((S.L.getD i sh0).wet y x) share)), S.d, IntKind.i64.wrap (S.w + giveQ ((S.L.getD i sh0).wet y x) share)⟩
def tbC (S : Pst) : Pst := if (S.L.getD i sh0).wet y x = 0 then S else tbW share i x y (tbKs share i x y S 3)
def gvB (L : List Sh) (k : Nat) : Int := min (giveQ ((L.getD i sh0).dye y x k) share) (1000 - (L.getD (i + 1) sh0).dye y x k)
def gvK (L : List Sh) (k : Nat) : List Sh :=
  (L.set i ((L.getD i sh0).setDye y x k ((L.getD i sh0).dye y x k - gvB share i x y L k))).set (i + 1) ((L.getD (i + 1) sh0).setDye y x k ((L.getD (i + 1) sh0).dye y x k + gvB share i x y L k))
def gvKs (L : List Sh) : Nat → List Sh
  | 0 => L
  | k + 1 => gvK share i x y (gvKs L k) k
def gvA (L : List Sh) : Int := min (giveQ ((L.getD i sh0).wet y x) share) (200 - (L.getD (i + 1) sh0).wet y x)
def gvW (L : List Sh) : List Sh :=
  (L.set i ((L.getD i sh0).setWet y x ((L.getD i sh0).wet y x - gvA share i x y L))).set (i + 1) ((L.getD (i + 1) sh0).setWet y x ((L.getD (i + 1) sh0).wet y x + gvA share i x y L))
def gvC (L : List Sh) : List Sh := if (L.getD i sh0).wet y x = 0 ∨ waxB (L.getD (i + 1) sh0) x y = true then L else gvW share i x y (gvKs share i x y L 3)
end
def tbN (share : Int) (i W : Nat) (S : Pst) : Nat → Pst
  | 0 => S
  | j + 1 => tbC share i ((j % W : Nat) : Int) ((j / W : Nat) : Int) (tbN share i W S j)
def gvN (share : Int) (i W : Nat) (L : List Sh) : Nat → List Sh
  | 0 => L
  | j + 1 => gvC share i ((j % W : Nat) : Int) ((j / W : Nat) : Int) (gvN share i W L j)
/-- The sheets below m are still to give. -/
def passM (share : Int) (W H : Nat) : Nat → List Sh → List Sh
  | 0, L => L
  | m + 1, L => passM share W H m (gvN share m W L (H * W))
def passS (share : Int) (W H : Nat) (L : List Sh) : Pst :=
  if L = [] then ⟨L, fun _ => 0, 0⟩ else
    let S := tbN share (L.length - 1) W ⟨L, fun _ => 0, 0⟩ (H * W)
    ⟨passM share W H (L.length - 1) S.L, S.d, S.w⟩

section
variable {share : Int} (hsh : 1 ≤ share ∧ share ≤ 15) {i W H : Nat} {x y : Int} (hx : 0 ≤ x) (hx8 : x < 8) (hy : 0 ≤ y) (hy8 : y < 8)
include hsh hx hx8 hy hy8
theorem tbK_ok {S : Pst} (hG : PGood S.L W H) (hi : i < S.L.length) (k : Nat) (hk : k < 3) : PGood (tbK share i x y S k).L W H := by
  have h1 := (hG i hi).good.dye y x k hy hy8 hx hx8 (by omega) (by omega)
  have h2 := giveQ_in h1 hsh
  exact hG.setDye hi (by omega)
theorem tbKs_ok {S : Pst} (hG : PGood S.L W H) (hi : i < S.L.length) : ∀ k, k ≤ 3 → PGood (tbKs share i x y S k).L W H ∧ (tbKs share i x y S k).L.length = S.L.length ∧ ((tbKs share i x y S k).L.getD i sh0).wet y x = (S.L.getD i sh0).wet y x
  | 0, _ => ⟨hG, rfl, rfl⟩
  | k + 1, hk => by
    obtain ⟨h1, h2, h3⟩ := tbKs_ok hG hi k (by omega)
    refine ⟨tbK_ok hsh hx hx8 hy hy8 h1 (by omega) k (by omega), by simp only [tbKs, tbK, List.length_set]; exact h2, ?_⟩
    simp only [tbKs, tbK, getD_set]
    rw [if_pos ⟨trivial, by omega⟩]
    exact h3
theorem tbC_ok {S : Pst} (hG : PGood S.L W H) (hi : i < S.L.length) : PGood (tbC share i x y S).L W H ∧ (tbC share i x y S).L.length = S.L.length := by
  unfold tbC
  split
  · exact ⟨hG, rfl⟩
  · obtain ⟨h1, h2, h3⟩ := tbKs_ok hsh hx hx8 hy hy8 hG hi 3 (by omega)
    have h4 := (h1 i (by omega)).good.wet y x hy hy8 hx hx8
    have h5 := giveQ_in (v := ((tbKs share i x y S 3).L.getD i sh0).wet y x) (by omega) hsh
    exact ⟨h1.setWet (by omega) (by omega), by simp only [tbW, List.length_set]; exact h2⟩
theorem gvB_in {L : List Sh} (hG : PGood L W H) (hi : i + 1 < L.length) (k : Nat) (hk : k < 3) : 0 ≤ gvB share i x y L k ∧ gvB share i x y L k ≤ (L.getD i sh0).dye y x k ∧ gvB share i x y L k ≤ 1000 - (L.getD (i + 1) sh0).dye y x k := by
  have h1 := (hG i (by omega)).good.dye y x k hy hy8 hx hx8 (by omega) (by omega)
  have h2 := (hG (i + 1) hi).good.dye y x k hy hy8 hx hx8 (by omega) (by omega)
  have h3 := giveQ_in h1 hsh
  unfold gvB
  omega
theorem gvK_ok {L : List Sh} (hG : PGood L W H) (hi : i + 1 < L.length) (k : Nat) (hk : k < 3) : PGood (gvK share i x y L k) W H := by
  have h1 := (hG i (by omega)).good.dye y x k hy hy8 hx hx8 (by omega) (by omega)
  have h2 := (hG (i + 1) hi).good.dye y x k hy hy8 hx hx8 (by omega) (by omega)
  have h3 := gvB_in hsh hx hx8 hy hy8 hG hi k hk
  unfold gvK
  have := hG.setDye (i := i) (by omega) (y := y) (x := x) (k := k) (v := (L.getD i sh0).dye y x k - gvB share i x y L k) (by omega)
  exact this.set ((hG (i + 1) hi).good.setDye (by omega)) ((hG (i + 1) hi).R.setDye (by omega)) (hG (i + 1) hi).wide (hG (i + 1) hi).high
theorem gvKs_ok {L : List Sh} (hG : PGood L W H) (hi : i + 1 < L.length) : ∀ k, k ≤ 3 → PGood (gvKs share i x y L k) W H ∧ (gvKs share i x y L k).length = L.length ∧
    ((gvKs share i x y L k).getD i sh0).wet y x = (L.getD i sh0).wet y x ∧ ((gvKs share i x y L k).getD (i + 1) sh0).wet y x = (L.getD (i + 1) sh0).wet y x
  | 0, _ => ⟨hG, rfl, rfl, rfl⟩
  | k + 1, hk => by
    obtain ⟨h1, h2, h3, h4⟩ := gvKs_ok hG hi k (by omega)
    refine ⟨gvK_ok hsh hx hx8 hy hy8 h1 (by omega) k (by omega), by simp only [gvKs, gvK, List.length_set]; exact h2, ?_, ?_⟩
    · simp only [gvKs, gvK, getD_set, List.length_set]
      rw [if_neg (by omega), if_pos ⟨trivial, by omega⟩]
      exact h3
    · simp only [gvKs, gvK, getD_set, List.length_set]
      rw [if_pos ⟨trivial, by omega⟩]
      exact h4
theorem gvA_in {L : List Sh} (hG : PGood L W H) (hi : i + 1 < L.length) : 0 ≤ gvA share i x y L ∧ gvA share i x y L ≤ (L.getD i sh0).wet y x ∧ gvA share i x y L ≤ 200 - (L.getD (i + 1) sh0).wet y x := by
  have h1 := (hG i (by omega)).good.wet y x hy hy8 hx hx8
  have h2 := (hG (i + 1) hi).good.wet y x hy hy8 hx hx8
  have h3 := giveQ_in (v := (L.getD i sh0).wet y x) (by omega) hsh
  unfold gvA
  omega
theorem gvC_ok {L : List Sh} (hG : PGood L W H) (hi : i + 1 < L.length) : PGood (gvC share i x y L) W H ∧ (gvC share i x y L).length = L.length := by
  unfold gvC
  split
  · exact ⟨hG, rfl⟩
  · obtain ⟨h1, h2, _⟩ := gvKs_ok hsh hx hx8 hy hy8 hG hi 3 (by omega)
    have h4 := (h1 i (by omega)).good.wet y x hy hy8 hx hx8
    have h6 := (h1 (i + 1) (by omega)).good.wet y x hy hy8 hx hx8
    have h5 := gvA_in (i := i) hsh hx hx8 hy hy8 h1 (by omega)
    refine ⟨?_, by simp only [gvW, List.length_set]; exact h2⟩
    unfold gvW
    have := h1.setWet (i := i) (by omega) (y := y) (x := x) (v := ((gvKs share i x y L 3).getD i sh0).wet y x - gvA share i x y (gvKs share i x y L 3)) (by omega)
    exact this.set ((h1 (i + 1) (by omega)).good.setWet (by omega)) ((h1 (i + 1) (by omega)).R.setWet (by omega)) (h1 (i + 1) (by omega)).wide (h1 (i + 1) (by omega)).high
end
theorem PGood.sides {L : List Sh} {W H : Nat} (h : PGood L W H) (h0 : 0 < L.length) : Small (L.getD 0 sh0) ∧ W ≤ 8 ∧ H ≤ 8 ∧ H * W ≤ 64 := by
  have h1 := h 0 h0
  have hs := h1.good.small
  have hw := h1.wide; have hh := h1.high
  have hWH : W ≤ 8 ∧ H ≤ 8 := by have := hs; unfold Small at this; omega
  exact ⟨hs, hWH.1, hWH.2, Nat.mul_le_mul hWH.2 hWH.1⟩
theorem PGood.cell {L : List Sh} {W H : Nat} (h : PGood L W H) (h0 : 0 < L.length) {j : Nat} (hj : j < H * W) : 0 ≤ ((j % W : Nat) : Int) ∧ ((j % W : Nat) : Int) < 8 ∧ 0 ≤ ((j / W : Nat) : Int) ∧ ((j / W : Nat) : Int) < 8 :=
  cell_in (h.sides h0).1 (h 0 h0).wide (h 0 h0).high hj
section
variable {share : Int} (hsh : 1 ≤ share ∧ share ≤ 15) {i W H : Nat}
include hsh
theorem tbN_ok {S : Pst} (hG : PGood S.L W H) (hi : i < S.L.length) : ∀ j, j ≤ H * W → PGood (tbN share i W S j).L W H ∧ (tbN share i W S j).L.length = S.L.length
  | 0, _ => ⟨hG, rfl⟩
  | j + 1, hj => by
    obtain ⟨h1, h2⟩ := tbN_ok hG hi j (by omega)
    obtain ⟨x0, x8, y0, y8⟩ := hG.cell (by omega) (j := j) (by omega)
    obtain ⟨h3, h4⟩ := tbC_ok hsh x0 x8 y0 y8 h1 (i := i) (by omega)
    exact ⟨h3, h4.trans h2⟩
theorem gvN_ok {L : List Sh} (hG : PGood L W H) (hi : i + 1 < L.length) : ∀ j, j ≤ H * W → PGood (gvN share i W L j) W H ∧ (gvN share i W L j).length = L.length
  | 0, _ => ⟨hG, rfl⟩
  | j + 1, hj => by
    obtain ⟨h1, h2⟩ := gvN_ok hG hi j (by omega)
    obtain ⟨x0, x8, y0, y8⟩ := hG.cell (by omega) (j := j) (by omega)
    obtain ⟨h3, h4⟩ := gvC_ok hsh x0 x8 y0 y8 h1 (i := i) (by omega)
    exact ⟨h3, h4.trans h2⟩
theorem passM_ok : ∀ (m : Nat) {L : List Sh}, PGood L W H → m < L.length → PGood (passM share W H m L) W H ∧ (passM share W H m L).length = L.length
  | 0, L, hG, _ => ⟨hG, rfl⟩
  | m + 1, L, hG, hm => by
    obtain ⟨h1, h2⟩ := gvN_ok (i := m) hsh hG hm (H * W) (Nat.le_refl _)
    obtain ⟨h3, h4⟩ := passM_ok m h1 (by omega)
    exact ⟨h3, h4.trans h2⟩
theorem passS_ok {L : List Sh} (hG : PGood L W H) : PGood (passS share W H L).L W H ∧ (passS share W H L).L.length = L.length := by
  unfold passS
  split
  · exact ⟨hG, rfl⟩
  · rename_i h0
    have hl : 0 < L.length := List.length_pos_iff.2 h0
    obtain ⟨h1, h2⟩ := tbN_ok (i := L.length - 1) hsh (S := ⟨L, fun _ => 0, 0⟩) hG (by show L.length - 1 < L.length; omega) (H * W) (Nat.le_refl _)
    have h2' : (tbN share (L.length - 1) W ⟨L, fun _ => 0, 0⟩ (H * W)).L.length = L.length := h2
    obtain ⟨h3, h4⟩ := passM_ok hsh (L.length - 1) h1 (by omega)
    exact ⟨h3, h4.trans h2⟩
end

/-! ### What is written -/
theorem stS_n (L : List Sh) (w : Option (Nat × Nat)) : (stS L w).n = L.length * 266 := rfl
theorem stS_c (L : List Sh) (w : Option (Nat × Nat)) : (stS L w).c = stC L := rfl
theorem stS_own (L : List Sh) (w : Option (Nat × Nat)) : (stS L w).own = w := rfl
section
variable {share : Int} {i : Nat} {x y : Int} (h1 : 0 ≤ y) (h2 : y < 8) (h3 : 0 ≤ x) (h4 : x < 8)
include h1 h2 h3 h4
theorem tbK_mem {S : Pst} {q : Nat} (hi : i < S.L.length) (hq : q < 3) :
    (⟨(stS S.L none).n, upd (stS S.L none).c (i * 266 + 66 + y.toNat * 24 + x.toNat * 3 + q) (.int .i16 ((S.L.getD i sh0).dye y x q - giveQ ((S.L.getD i sh0).dye y x q) share)), true, (stS S.L none).own⟩ : Seg) = stS (tbK share i x y S q).L none := by
  show (⟨S.L.length * 266, upd (stC S.L) _ _, true, none⟩ : Seg) = _
  rw [stC_setDye S.L i _ hi q h1 h2 h3 h4 hq]
  unfold stS tbK
  simp only [List.length_set]
theorem tbW_mem {S : Pst} (hi : i < S.L.length) :
    (⟨(stS S.L none).n, upd (stS S.L none).c (i * 266 + 2 + y.toNat * 8 + x.toNat) (.int .i16 ((S.L.getD i sh0).wet y x - giveQ ((S.L.getD i sh0).wet y x) share)), true, (stS S.L none).own⟩ : Seg) = stS (tbW share i x y S).L none := by
  show (⟨S.L.length * 266, upd (stC S.L) _ _, true, none⟩ : Seg) = _
  rw [stC_setWet S.L i _ hi h1 h2 h3 h4]
  unfold stS tbW
  simp only [List.length_set]
theorem gvK_mem' {L : List Sh} {q : Nat} (hi : i + 1 < L.length) (hq : q < 3) :
    (⟨(stS L none).n, upd (upd (stS L none).c (i * 266 + 66 + y.toNat * 24 + x.toNat * 3 + q) (.int .i16 ((L.getD i sh0).dye y x q - gvB share i x y L q))) ((i + 1) * 266 + 66 + y.toNat * 24 + x.toNat * 3 + q) (.int .i16 ((L.getD (i + 1) sh0).dye y x q + gvB share i x y L q)), true, (stS L none).own⟩ : Seg) = stS (gvK share i x y L q) none := by
  show (⟨L.length * 266, upd (upd (stC L) _ _) _ _, true, none⟩ : Seg) = _
  rw [stC_setDye L i _ (by omega) q h1 h2 h3 h4 hq]
  have e : (L.set i ((L.getD i sh0).setDye y x q ((L.getD i sh0).dye y x q - gvB share i x y L q))).getD (i + 1) sh0 = L.getD (i + 1) sh0 := by rw [getD_set, if_neg (by omega)]
  rw [stC_setDye _ (i + 1) _ (by rw [List.length_set]; exact hi) q h1 h2 h3 h4 hq, e]
  unfold stS gvK
  simp only [List.length_set]
theorem gvK_mem {L : List Sh} {q : Nat} (hi : i + 1 < L.length) (hq : q < 3) :
    (⟨(stS L none).n, upd (upd (stS L none).c ((i + 1) * 266 + 66 + y.toNat * 24 + x.toNat * 3 + q) (.int .i16 ((L.getD (i + 1) sh0).dye y x q + gvB share i x y L q))) (i * 266 + 66 + y.toNat * 24 + x.toNat * 3 + q) (.int .i16 ((L.getD i sh0).dye y x q - gvB share i x y L q)), true, (stS L none).own⟩ : Seg) = stS (gvK share i x y L q) none := by
  rw [upd_comm (by omega)]
  exact gvK_mem' h1 h2 h3 h4 hi hq
theorem gvW_mem' {L : List Sh} (hi : i + 1 < L.length) :
    (⟨(stS L none).n, upd (upd (stS L none).c (i * 266 + 2 + y.toNat * 8 + x.toNat) (.int .i16 ((L.getD i sh0).wet y x - gvA share i x y L))) ((i + 1) * 266 + 2 + y.toNat * 8 + x.toNat) (.int .i16 ((L.getD (i + 1) sh0).wet y x + gvA share i x y L)), true, (stS L none).own⟩ : Seg) = stS (gvW share i x y L) none := by
  show (⟨L.length * 266, upd (upd (stC L) _ _) _ _, true, none⟩ : Seg) = _
  rw [stC_setWet L i _ (by omega) h1 h2 h3 h4]
  have e : (L.set i ((L.getD i sh0).setWet y x ((L.getD i sh0).wet y x - gvA share i x y L))).getD (i + 1) sh0 = L.getD (i + 1) sh0 := by rw [getD_set, if_neg (by omega)]
  rw [stC_setWet _ (i + 1) _ (by rw [List.length_set]; exact hi) h1 h2 h3 h4, e]
  unfold stS gvW
  simp only [List.length_set]
theorem gvW_mem {L : List Sh} (hi : i + 1 < L.length) :
    (⟨(stS L none).n, upd (upd (stS L none).c ((i + 1) * 266 + 2 + y.toNat * 8 + x.toNat) (.int .i16 ((L.getD (i + 1) sh0).wet y x + gvA share i x y L))) (i * 266 + 2 + y.toNat * 8 + x.toNat) (.int .i16 ((L.getD i sh0).wet y x - gvA share i x y L)), true, (stS L none).own⟩ : Seg) = stS (gvW share i x y L) none := by
  rw [upd_comm (by omega)]
  exact gvW_mem' h1 h2 h3 h4 hi
end

/-! ### Sums in memory -/
def dC (d : Nat → Int) : Nat → SV := fun k => .int .i64 (d k)
theorem dC_flat (d : Nat → Int) (k : Nat) : (dC d k).flat := trivial
theorem dC_cl {d : Nat → Int} {a b c : Int} (h0 : a = d 0) (h1 : b = d 1) (h2 : c = d 2) {z : Nat} (hz : z < 3) : cl [.int .i64 a, .int .i64 b, .int .i64 c] z = dC d z := by
  subst h0 h1 h2
  rcases (by omega : z = 0 ∨ z = 1 ∨ z = 2) with rfl | rfl | rfl <;> rfl
theorem dC_zero {z : Nat} (hz : z < 3) : cl [.int .i64 0, .int .i64 0, .int .i64 0] z = dC (fun _ => 0) z := dC_cl (d := fun _ => 0) rfl rfl rfl hz
theorem dC_upd (d : Nat → Int) (q : Nat) (v : Int) : upd (dC d) q (.int .i64 v) = dC fun k => if k = q then v else d k := by
  funext z; unfold upd dC; split <;> simp [*]
@[go_sem] theorem dC_eq (d : Nat → Int) (k : Nat) : dC d k = .int .i64 (d k) := rfl
end Go.Proofs.Ytjepjeaecmioaaa.V

/- Stacks, by the reference: small functions, validity. -/
namespace Go.Proofs.Ytjepjeaecmioaaa.V
/-- A stack as it should be. -/
def StOk1 (L : List Sh) (i : Nat) : Prop := Valid (L.getD i sh0) ∧ (L.getD i sh0).wide = (L.getD 0 sh0).wide ∧ (L.getD i sh0).high = (L.getD 0 sh0).high
def StOk (L : List Sh) : Prop := L.length ≤ 6 ∧ ∀ i, i < L.length → StOk1 L i
open Classical in
noncomputable def stokB (L : List Sh) : Bool := decide (StOk L)
theorem stokB_t {L : List Sh} (h : StOk L) : stokB L = true := by simp [stokB, h]
theorem stokB_f {L : List Sh} (h : ¬ StOk L) : stokB L = false := by simp [stokB, h]
theorem stokB_len {L : List Sh} (h : ∀ i, i < L.length → StOk1 L i) : decide ((L.length : Int) ≤ 6) = stokB L := by
  by_cases h6 : L.length ≤ 6
  · rw [stokB_t ⟨h6, h⟩]; simp; omega
  · rw [stokB_f (fun hk => h6 hk.1)]; simp; omega
section
variable (cx : Cx) (h : List (Nat × Seg)) (n : Nat)
theorem share2_Q (share : Int) : CallQ Try.prog cx 61 [.int .i64 share] h n (.bool (decide (1 ≤ share ∧ share ≤ 15))) := by
  refine callQ_of_T (P := Try.prog) hti (nt := 5) (rs := [.tmp 2]) rfl rfl Try.call61 Try.func61 rfl _ (by simp only [go_sem, and_self]) (Nat.le_of_ble_eq_true rfl) _ (by first | exact trivial | (refine lt_flat rfl ?_; simp [SV.flat]; done) | simp only [go_sem]) fun hok => ?_
  simp only [go_sem, Nat.reduceBEq, Nat.reduceLT, Nat.reduceLeDiff, Nat.reduceAdd, Nat.reduceMul, Nat.reduceSub, Nat.reduceMod, Nat.reduceDiv, Nat.reduceEqDiff, Int.reduceToNat, reduceIte, reduceCtorEq, Int.reduceLE, Int.reduceLT, Int.reduceEq, Int.reduceNeg, Int.reduceAdd, Int.reduceSub, Int.reduceMul]
  refine (in_Q _ _ _ _ _ _).A ?_
  simp only [go_sem, Nat.reduceBEq, Nat.reduceLT, Nat.reduceLeDiff, Nat.reduceAdd, Nat.reduceMul, Nat.reduceSub, Nat.reduceMod, Nat.reduceDiv, Nat.reduceEqDiff, Int.reduceToNat, reduceIte, reduceCtorEq, Int.reduceLE, Int.reduceLT, Int.reduceEq, Int.reduceNeg, Int.reduceAdd, Int.reduceSub, Int.reduceMul]
theorem level2_Q (level : Int) : CallQ Try.prog cx 27 [.int .i64 level] h n (.bool (decide (0 ≤ level ∧ level ≤ 3000))) := by
  refine callQ_of_T (P := Try.prog) hti (nt := 5) (rs := [.tmp 2]) rfl rfl Try.call27 Try.func27 rfl _ (by simp only [go_sem, and_self]) (Nat.le_of_ble_eq_true rfl) _ (by first | exact trivial | (refine lt_flat rfl ?_; simp [SV.flat]; done) | simp only [go_sem]) fun hok => ?_
  simp only [go_sem, Nat.reduceBEq, Nat.reduceLT, Nat.reduceLeDiff, Nat.reduceAdd, Nat.reduceMul, Nat.reduceSub, Nat.reduceMod, Nat.reduceDiv, Nat.reduceEqDiff, Int.reduceToNat, reduceIte, reduceCtorEq, Int.reduceLE, Int.reduceLT, Int.reduceEq, Int.reduceNeg, Int.reduceAdd, Int.reduceSub, Int.reduceMul]
  refine (in_Q _ _ _ _ _ _).A ?_
  simp only [go_sem, Nat.reduceBEq, Nat.reduceLT, Nat.reduceLeDiff, Nat.reduceAdd, Nat.reduceMul, Nat.reduceSub, Nat.reduceMod, Nat.reduceDiv, Nat.reduceEqDiff, Int.reduceToNat, reduceIte, reduceCtorEq, Int.reduceLE, Int.reduceLT, Int.reduceEq, Int.reduceNeg, Int.reduceAdd, Int.reduceSub, Int.reduceMul]
theorem max2_Q (a b : Int) : CallQ Try.prog cx 63 [.int .i64 a, .int .i64 b] h n (.int .i64 (max a b)) := by
  refine callQ_of_T (P := Try.prog) hti (nt := 10) (rs := [.tmp 4]) rfl rfl Try.call63 Try.func63 rfl _ (by simp only [go_sem, and_self]) (Nat.le_of_ble_eq_true rfl) _ (by first | exact trivial | (refine lt_flat rfl ?_; simp [SV.flat]; done) | simp only [go_sem]) fun hok => ?_
  by_cases hab : b < a
  · simp only [go_sem, Nat.reduceBEq, Nat.reduceLT, Nat.reduceLeDiff, Nat.reduceAdd, Nat.reduceMul, Nat.reduceSub, Nat.reduceMod, Nat.reduceDiv, Nat.reduceEqDiff, Int.reduceToNat, reduceIte, reduceCtorEq, Int.reduceLE, Int.reduceLT, Int.reduceEq, Int.reduceNeg, Int.reduceAdd, Int.reduceSub, Int.reduceMul, hab, show max a b = a by omega]
  · simp only [go_sem, Nat.reduceBEq, Nat.reduceLT, Nat.reduceLeDiff, Nat.reduceAdd, Nat.reduceMul, Nat.reduceSub, Nat.reduceMod, Nat.reduceDiv, Nat.reduceEqDiff, Int.reduceToNat, reduceIte, reduceCtorEq, Int.reduceLE, Int.reduceLT, Int.reduceEq, Int.reduceNeg, Int.reduceAdd, Int.reduceSub, Int.reduceMul, hab, show max a b = b by omega]
set_option maxRecDepth 100000 in
theorem stok2_Q (A : SV) (L : List Sh) (hA : StArg h n A L) (hLR : StR L) (hm9 : L.length ≤ 10000000) : CallQ Try.prog cx 60 [A] h n (.bool (stokB L)) := by
  rcases hA with ⟨rfl, rfl⟩ | ⟨i, cap, s, rfl, hi, hs, hL⟩
  · have e : stokB [] = true := stokB_t ⟨by simp, fun i hi => by simp at hi⟩
    refine callQ_of_T (P := Try.prog) hti (nt := 42) (rs := [.tmp 2]) rfl rfl Try.call60 Try.func60 rfl _ (by simp only [go_sem, and_self]) (Nat.le_of_ble_eq_true rfl) _ (by first | exact trivial | (refine lt_flat rfl ?_; simp [SV.flat]; done) | simp only [go_sem]) fun hok => ?_
    simp only [go_sem, Nat.reduceBEq, Nat.reduceLT, Nat.reduceLeDiff, Nat.reduceAdd, Nat.reduceMul, Nat.reduceSub, Nat.reduceMod, Nat.reduceDiv, Nat.reduceEqDiff, Int.reduceToNat, reduceIte, reduceCtorEq, Int.reduceLE, Int.reduceLT, Int.reduceEq, Int.reduceNeg, Int.reduceAdd, Int.reduceSub, Int.reduceMul, e]
    refine T_unroll 0 ?_
    simp only [go_sem, Nat.reduceBEq, Nat.reduceLT, Nat.reduceLeDiff, Nat.reduceAdd, Nat.reduceMul, Nat.reduceSub, Nat.reduceMod, Nat.reduceDiv, Nat.reduceEqDiff, Int.reduceToNat, reduceIte, reduceCtorEq, Int.reduceLE, Int.reduceLT, Int.reduceEq, Int.reduceNeg, Int.reduceAdd, Int.reduceSub, Int.reduceMul]
  have hn := hL.1
  refine callQ_of_T (P := Try.prog) hti (nt := 42) (rs := [.tmp 2]) rfl rfl Try.call60 Try.func60 rfl _ (by simp only [go_sem, and_self]) (Nat.le_of_ble_eq_true rfl) _ (by first | exact trivial | (refine lt_flat rfl ?_; simp [SV.flat]; done) | simp only [go_sem]) fun hok => ?_
  simp only [go_sem, Nat.reduceBEq, Nat.reduceLT, Nat.reduceLeDiff, Nat.reduceAdd, Nat.reduceMul, Nat.reduceSub, Nat.reduceMod, Nat.reduceDiv, Nat.reduceEqDiff, Int.reduceToNat, reduceIte, reduceCtorEq, Int.reduceLE, Int.reduceLT, Int.reduceEq, Int.reduceNeg, Int.reduceAdd, Int.reduceSub, Int.reduceMul]
  refine T_lp (ι := { q : Nat // q ≤ L.length ∧ ∀ k, k < q → StOk1 L k }) (fun q => ([(0, .sl i 0 L.length cap), (3, .int .i64 q.1)], h, n)) (fun q => L.length - q.1) ⟨0, by omega, fun k hk => absurd hk (Nat.not_lt_zero k)⟩ ?_ ?_
  · refine Imp.id (by simp) ?_ (impH.base0 hok (by simp) HExt.rfl)
    simp only [go_sem, Nat.reduceBEq, Nat.reduceLT, Nat.reduceLeDiff, Nat.reduceAdd, Nat.reduceMul, Nat.reduceSub, Nat.reduceMod, Nat.reduceDiv, Nat.reduceEqDiff, Int.reduceToNat, reduceIte, reduceCtorEq, Int.reduceLE, Int.reduceLT, Int.reduceEq, Int.reduceNeg, Int.reduceAdd, Int.reduceSub, Int.reduceMul]
    exact hi
  · rintro ⟨q, hq, hall⟩
    simp only [go_sem, Nat.reduceBEq, Nat.reduceLT, Nat.reduceLeDiff, Nat.reduceAdd, Nat.reduceMul, Nat.reduceSub, Nat.reduceMod, Nat.reduceDiv, Nat.reduceEqDiff, Int.reduceToNat, reduceIte, reduceCtorEq, Int.reduceLE, Int.reduceLT, Int.reduceEq, Int.reduceNeg, Int.reduceAdd, Int.reduceSub, Int.reduceMul, decide_eq_true_eq, decide_eq_false_iff_not]
    refine ⟨fun h1 => ?_, fun h1 => ?_⟩
    · have r1 : (0 : Int) ≤ q ∧ (q : Int) < L.length := ⟨by omega, by omega⟩
      have r0 : (0 : Int) < L.length := by omega
      have b1 : q * 266 ≤ s.n - 1 := by omega
      have b2 : q * 266 + 1 ≤ s.n - 1 := by omega
      have b5 : 1 ≤ s.n := by omega
      have b6 : 2 ≤ s.n := by omega
      have hq1 : q < L.length := by omega
      have hS := hL.sh hLR hq1
      have hS0 := hL.sh hLR (i := 0) (by omega)
      have ew := hS.wide; have eh := hS.high
      have ew0 := hS0.wide; have eh0 := hS0.high
      simp only [Nat.zero_mul, Nat.zero_add] at ew0 eh0
      have fin : ¬ StOk1 L q → stokB L = false := fun h2 => stokB_f fun h3 => h2 (h3.2 q hq1)
      refine T_draw hti _ _ (by kernel_rfl) (by kernel_rfl) ?_
      simp only [go_sem, Nat.reduceBEq, Nat.reduceLT, Nat.reduceLeDiff, Nat.reduceAdd, Nat.reduceMul, Nat.reduceSub, Nat.reduceMod, Nat.reduceDiv, Nat.reduceEqDiff, Int.reduceToNat, reduceIte, reduceCtorEq, Int.reduceLE, Int.reduceLT, Int.reduceEq, Int.reduceNeg, Int.reduceAdd, Int.reduceSub, Int.reduceMul, r1, r0]
      refine (ok2_Q _ _ _ i (q * 266) s (L.getD q sh0) hs (by omega) hS).A ?_
      by_cases hV : Valid (L.getD q sh0)
      rotate_left
      · simp only [go_sem, Nat.reduceBEq, Nat.reduceLT, Nat.reduceLeDiff, Nat.reduceAdd, Nat.reduceMul, Nat.reduceSub, Nat.reduceMod, Nat.reduceDiv, Nat.reduceEqDiff, Int.reduceToNat, reduceIte, reduceCtorEq, Int.reduceLE, Int.reduceLT, Int.reduceEq, Int.reduceNeg, Int.reduceAdd, Int.reduceSub, Int.reduceMul, validB_false hV, fin (fun h => hV h.1)]
      by_cases hw : (L.getD q sh0).wide = (L.getD 0 sh0).wide
      rotate_left
      · simp only [go_sem, Nat.reduceBEq, Nat.reduceLT, Nat.reduceLeDiff, Nat.reduceAdd, Nat.reduceMul, Nat.reduceSub, Nat.reduceMod, Nat.reduceDiv, Nat.reduceEqDiff, Int.reduceToNat, reduceIte, reduceCtorEq, Int.reduceLE, Int.reduceLT, Int.reduceEq, Int.reduceNeg, Int.reduceAdd, Int.reduceSub, Int.reduceMul, validB_true hV, hs, hi, r1, r0, ew, eh, ew0, eh0, b1, b2, b5, b6, hw, fin (fun h => hw h.2.1)]
        (try omega)
      rw [hw] at ew
      by_cases hh : (L.getD q sh0).high = (L.getD 0 sh0).high
      rotate_left
      · simp only [go_sem, Nat.reduceBEq, Nat.reduceLT, Nat.reduceLeDiff, Nat.reduceAdd, Nat.reduceMul, Nat.reduceSub, Nat.reduceMod, Nat.reduceDiv, Nat.reduceEqDiff, Int.reduceToNat, reduceIte, reduceCtorEq, Int.reduceLE, Int.reduceLT, Int.reduceEq, Int.reduceNeg, Int.reduceAdd, Int.reduceSub, Int.reduceMul, validB_true hV, hs, hi, r1, r0, ew, eh, ew0, eh0, b1, b2, b5, b6, hh, fin (fun h => hh h.2.2)]
        (try omega)
      rw [hh] at eh
      simp only [go_sem, Nat.reduceBEq, Nat.reduceLT, Nat.reduceLeDiff, Nat.reduceAdd, Nat.reduceMul, Nat.reduceSub, Nat.reduceMod, Nat.reduceDiv, Nat.reduceEqDiff, Int.reduceToNat, reduceIte, reduceCtorEq, Int.reduceLE, Int.reduceLT, Int.reduceEq, Int.reduceNeg, Int.reduceAdd, Int.reduceSub, Int.reduceMul, validB_true hV, hs, hi, r1, r0, ew, eh, ew0, eh0, b1, b2, b5, b6]
      refine ⟨by omega, by omega, ⟨q + 1, by omega, fun k hk => by rcases (by omega : k < q ∨ k = q) with h | rfl; exact hall k h; exact ⟨hV, hw, hh⟩⟩, by show L.length - (q + 1) < L.length - q; omega, ?_⟩
      refine Imp.id (by simp) ?_ (impH.base0 hok (by simp) HExt.rfl)
      simp only [go_sem, Nat.reduceBEq, Nat.reduceLT, Nat.reduceLeDiff, Nat.reduceAdd, Nat.reduceMul, Nat.reduceSub, Nat.reduceMod, Nat.reduceDiv, Nat.reduceEqDiff, Int.reduceToNat, reduceIte, reduceCtorEq, Int.reduceLE, Int.reduceLT, Int.reduceEq, Int.reduceNeg, Int.reduceAdd, Int.reduceSub, Int.reduceMul, w64 (n := (q : Int) + 1) (by omega), Int.natCast_add, Int.natCast_one]
      exact hi
    · have hq' : q = L.length := by omega
      subst hq'
      have := stokB_len hall
      simp only [go_sem, Nat.reduceBEq, Nat.reduceLT, Nat.reduceLeDiff, Nat.reduceAdd, Nat.reduceMul, Nat.reduceSub, Nat.reduceMod, Nat.reduceDiv, Nat.reduceEqDiff, Int.reduceToNat, reduceIte, reduceCtorEq, Int.reduceLE, Int.reduceLT, Int.reduceEq, Int.reduceNeg, Int.reduceAdd, Int.reduceSub, Int.reduceMul, this]
noncomputable def stAskC (L : List Sh) (share : Int) (fine : Bool) : Int := if stokB L then (if (decide (1 ≤ share ∧ share ≤ 15) && fine) then 0 else 2) else 1
theorem stAsked2_Q (A : SV) (L : List Sh) (hA : StArg h n A L) (hLR : StR L) (hm9 : L.length ≤ 10000000) (share : Int) (fine : Bool) :
    CallQ Try.prog cx 26 [A, .int .i64 share, .bool fine] h n (.int .i64 (stAskC L share fine)) := by
  have hAo := hA.ok
  refine callQ_of_T (P := Try.prog) hti (nt := 17) (rs := [.tmp 6]) rfl rfl Try.call26 Try.func26 rfl _ (by simp only [go_sem, hAo]) (Nat.le_of_ble_eq_true rfl) _ (by trivial) fun hok => ?_
  simp only [go_sem, Nat.reduceBEq, Nat.reduceLT, Nat.reduceLeDiff, Nat.reduceAdd, Nat.reduceMul, Nat.reduceSub, Nat.reduceMod, Nat.reduceDiv, Nat.reduceEqDiff, Int.reduceToNat, reduceIte, reduceCtorEq, Int.reduceLE, Int.reduceLT, Int.reduceEq, Int.reduceNeg, Int.reduceAdd, Int.reduceSub, Int.reduceMul, hAo]
  refine (stok2_Q _ _ _ A L hA hLR hm9).A ?_
  unfold stAskC
  by_cases hs : stokB L = true
  rotate_left
  · simp only [go_sem, Nat.reduceBEq, Nat.reduceLT, Nat.reduceLeDiff, Nat.reduceAdd, Nat.reduceMul, Nat.reduceSub, Nat.reduceMod, Nat.reduceDiv, Nat.reduceEqDiff, Int.reduceToNat, reduceIte, reduceCtorEq, Int.reduceLE, Int.reduceLT, Int.reduceEq, Int.reduceNeg, Int.reduceAdd, Int.reduceSub, Int.reduceMul, hs]
  simp only [go_sem, Nat.reduceBEq, Nat.reduceLT, Nat.reduceLeDiff, Nat.reduceAdd, Nat.reduceMul, Nat.reduceSub, Nat.reduceMod, Nat.reduceDiv, Nat.reduceEqDiff, Int.reduceToNat, reduceIte, reduceCtorEq, Int.reduceLE, Int.reduceLT, Int.reduceEq, Int.reduceNeg, Int.reduceAdd, Int.reduceSub, Int.reduceMul, hs]
  refine (share2_Q _ _ _ share).A ?_
  by_cases h1 : 1 ≤ share ∧ share ≤ 15
  · cases fine <;> simp only [go_sem, Nat.reduceBEq, Nat.reduceLT, Nat.reduceLeDiff, Nat.reduceAdd, Nat.reduceMul, Nat.reduceSub, Nat.reduceMod, Nat.reduceDiv, Nat.reduceEqDiff, Int.reduceToNat, reduceIte, reduceCtorEq, Int.reduceLE, Int.reduceLT, Int.reduceEq, Int.reduceNeg, Int.reduceAdd, Int.reduceSub, Int.reduceMul, h1]
  · simp only [go_sem, Nat.reduceBEq, Nat.reduceLT, Nat.reduceLeDiff, Nat.reduceAdd, Nat.reduceMul, Nat.reduceSub, Nat.reduceMod, Nat.reduceDiv, Nat.reduceEqDiff, Int.reduceToNat, reduceIte, reduceCtorEq, Int.reduceLE, Int.reduceLT, Int.reduceEq, Int.reduceNeg, Int.reduceAdd, Int.reduceSub, Int.reduceMul, h1]
end
end Go.Proofs.Ytjepjeaecmioaaa.V

/- Passing down: the reference's walk. -/
namespace Go.Proofs.Ytjepjeaecmioaaa.V
section
variable (cx : Cx) (h : List (Nat × Seg)) (n : Nat)
set_option maxRecDepth 100000 in
set_option maxHeartbeats 1600000 in
theorem give2_E5 (i m : Nat) (L : List Sh) (W H : Nat) (share : Int) (hs : hget h i = some (stS L none)) (hi : i < n) (hG : PGood L W H) (hm : m + 1 < L.length) (hsh : 1 ≤ share ∧ share ≤ 15) (K : HK)
    (hK : K (.tup 0 (cl [])) (hset h i (stS (gvN share m W L (H * W)) none)) n) :
    CallE Try.prog cx 66 [.ptr i (m * 266), .ptr i ((m + 1) * 266), .int .i64 share] h n K := by
  refine CallE.to _ (hset h i (stS (gvN share m W L (H * W)) none)) (by simp only [go_sem, Nat.reduceBEq, Nat.reduceLT, Nat.reduceLeDiff, Nat.reduceAdd, Nat.reduceMul, Nat.reduceSub, Nat.reduceMod, Nat.reduceDiv, Nat.reduceEqDiff, Int.reduceToNat, reduceIte, reduceCtorEq, Int.reduceLE, Int.reduceLT, Int.reduceEq, Int.reduceNeg, Int.reduceAdd, Int.reduceSub, Int.reduceMul]) (fun hok => hok_set hok fun k hk => stC_flat _ _) hK ?_
  have hgi : ∀ t, hget (hset h i t) i = some t := hget_hset_self hs
  obtain ⟨hsm, hW8, hH8, hWH2⟩ := hG.sides (by omega)
  have hS := shAt_stS (own := none) (i := m) (by omega) (hG m (by omega)).R
  refine callE_of_T (P := Try.prog) hti (nt := 169) (rs := []) rfl rfl Try.call66 Try.func66 rfl _ (by simp only [go_sem, and_self]) (Nat.le_of_ble_eq_true rfl) _ fun hok => ?_
  simp only [go_sem, Nat.reduceBEq, Nat.reduceLT, Nat.reduceLeDiff, Nat.reduceAdd, Nat.reduceMul, Nat.reduceSub, Nat.reduceMod, Nat.reduceDiv, Nat.reduceEqDiff, Int.reduceToNat, reduceIte, reduceCtorEq, Int.reduceLE, Int.reduceLT, Int.reduceEq, Int.reduceNeg, Int.reduceAdd, Int.reduceSub, Int.reduceMul]
  refine callA_false (spots_E _ _ _ i (m * 266) _ (L.getD m sh0) W H (by first | (simp only [go_sem, Nat.reduceBEq, Nat.reduceLT, Nat.reduceLeDiff, Nat.reduceAdd, Nat.reduceMul, Nat.reduceSub, Nat.reduceMod, Nat.reduceDiv, Nat.reduceEqDiff, Int.reduceToNat, reduceIte, reduceCtorEq, Int.reduceLE, Int.reduceLT, Int.reduceEq, Int.reduceNeg, Int.reduceAdd, Int.reduceSub, Int.reduceMul, hs, hi]; done) | (simp only [go_sem, Nat.reduceBEq, Nat.reduceLT, Nat.reduceLeDiff, Nat.reduceAdd, Nat.reduceMul, Nat.reduceSub, Nat.reduceMod, Nat.reduceDiv, Nat.reduceEqDiff, Int.reduceToNat, reduceIte, reduceCtorEq, Int.reduceLE, Int.reduceLT, Int.reduceEq, Int.reduceNeg, Int.reduceAdd, Int.reduceSub, Int.reduceMul, hs, hi]; rfl)) (by omega) hS (hG m (by omega)).wide (hG m (by omega)).high hW8 hH8 _ fun cap hc1 hc2 => ?_)
  simp only [go_sem, Nat.reduceBEq, Nat.reduceLT, Nat.reduceLeDiff, Nat.reduceAdd, Nat.reduceMul, Nat.reduceSub, Nat.reduceMod, Nat.reduceDiv, Nat.reduceEqDiff, Int.reduceToNat, reduceIte, reduceCtorEq, Int.reduceLE, Int.reduceLT, Int.reduceEq, Int.reduceNeg, Int.reduceAdd, Int.reduceSub, Int.reduceMul]
  refine T_lp (ι := { j : Nat // j ≤ H * W })
    (fun j => ([(0, .ptr i (m * 266)), (1, .ptr i ((m + 1) * 266)), (2, .int .i64 share), (6, .sl n 0 (H * W) cap), (7, .int .i64 j.1)],
      (n, ⟨H * W * 2, cellC W, true, none⟩) :: hset h i (stS (gvN share m W L j.1) none), n + 1)) (fun j => H * W - j.1) ⟨0, Nat.zero_le _⟩ ?_ ?_
  · refine Imp.id (by simp) ?_ ?_
    · simp only [go_sem, Nat.reduceBEq, Nat.reduceLT, Nat.reduceLeDiff, Nat.reduceAdd, Nat.reduceMul, Nat.reduceSub, Nat.reduceMod, Nat.reduceDiv, Nat.reduceEqDiff, Int.reduceToNat, reduceIte, reduceCtorEq, Int.reduceLE, Int.reduceLT, Int.reduceEq, Int.reduceNeg, Int.reduceAdd, Int.reduceSub, Int.reduceMul]
      omega
    · simp only [go_sem, Nat.reduceBEq, Nat.reduceLT, Nat.reduceLeDiff, Nat.reduceAdd, Nat.reduceMul, Nat.reduceSub, Nat.reduceMod, Nat.reduceDiv, Nat.reduceEqDiff, Int.reduceToNat, reduceIte, reduceCtorEq, Int.reduceLE, Int.reduceLT, Int.reduceEq, Int.reduceNeg, Int.reduceAdd, Int.reduceSub, Int.reduceMul, gvN]
      rw [hset_self hs]
      (repeat (refine impH.cons0 (by first | (simp only [go_sem, Nat.reduceBEq, Nat.reduceLT, Nat.reduceLeDiff, Nat.reduceAdd, Nat.reduceMul, Nat.reduceSub, Nat.reduceMod, Nat.reduceDiv, Nat.reduceEqDiff, Int.reduceToNat, reduceIte, reduceCtorEq, Int.reduceLE, Int.reduceLT, Int.reduceEq, Int.reduceNeg, Int.reduceAdd, Int.reduceSub, Int.reduceMul, hget_hset_self]; done) | (simp only [go_sem, Nat.reduceBEq, Nat.reduceLT, Nat.reduceLeDiff, Nat.reduceAdd, Nat.reduceMul, Nat.reduceSub, Nat.reduceMod, Nat.reduceDiv, Nat.reduceEqDiff, Int.reduceToNat, reduceIte, reduceCtorEq, Int.reduceLE, Int.reduceLT, Int.reduceEq, Int.reduceNeg, Int.reduceAdd, Int.reduceSub, Int.reduceMul, hget_hset_self]; rfl)) (by simp) ?_ ?_; · exact SegLe.flat (Nat.le_refl _) id (by first | exact .inr rfl | exact .inl rfl) fun z hz => ⟨by first | rfl | exact dC_zero hz | exact dC_cl (by rfl) (by rfl) (by rfl) hz, by first | exact shC_flat _ _ | exact brC_flat _ hz | exact pair_flat _ _ hz | exact cellC_flat _ _ | exact dC_flat _ _ | exact stC_flat _ _ | exact cl_flat (l := [_, _, _, _, _]) (by simp [SV.flat]) hz | exact cl_flat (l := [_, _, _]) (by simp [SV.flat]) hz | trivial⟩)); exact impH.base0 (by first | exact hok | exact hok_set hok (fun k hk => stC_flat _ _) | exact hok_set hok (fun k hk => shC_flat _ _)) (by simp) (by first | (simp only [go_sem, Nat.reduceBEq, Nat.reduceLT, Nat.reduceLeDiff, Nat.reduceAdd, Nat.reduceMul, Nat.reduceSub, Nat.reduceMod, Nat.reduceDiv, Nat.reduceEqDiff, Int.reduceToNat, reduceIte, reduceCtorEq, Int.reduceLE, Int.reduceLT, Int.reduceEq, Int.reduceNeg, Int.reduceAdd, Int.reduceSub, Int.reduceMul, HExt_cons]; done) | (simp only [go_sem, Nat.reduceBEq, Nat.reduceLT, Nat.reduceLeDiff, Nat.reduceAdd, Nat.reduceMul, Nat.reduceSub, Nat.reduceMod, Nat.reduceDiv, Nat.reduceEqDiff, Int.reduceToNat, reduceIte, reduceCtorEq, Int.reduceLE, Int.reduceLT, Int.reduceEq, Int.reduceNeg, Int.reduceAdd, Int.reduceSub, Int.reduceMul, HExt_cons]; exact HExt.rfl))
  · rintro ⟨j, hj⟩
    obtain ⟨hD, hDl⟩ := gvN_ok (i := m) hsh hG hm j hj
    simp only [go_sem, Nat.reduceBEq, Nat.reduceLT, Nat.reduceLeDiff, Nat.reduceAdd, Nat.reduceMul, Nat.reduceSub, Nat.reduceMod, Nat.reduceDiv, Nat.reduceEqDiff, Int.reduceToNat, reduceIte, reduceCtorEq, Int.reduceLE, Int.reduceLT, Int.reduceEq, Int.reduceNeg, Int.reduceAdd, Int.reduceSub, Int.reduceMul, decide_eq_true_eq, decide_eq_false_iff_not]
    refine ⟨fun h1 => ?_, fun h1 => ?_⟩
    · obtain ⟨x0, x8, y0, y8⟩ := hG.cell (by omega) (j := j) (by omega)
      have r1 : (0 : Int) ≤ j ∧ (j : Int) < ((H * W : Nat) : Int) := ⟨by omega, h1⟩
      have b1 : j * 2 ≤ H * W * 2 - 2 := by omega
      have b3 : 2 ≤ H * W * 2 := by omega
      have b4 : j * 2 + 2 ≤ H * W * 2 := by omega
      have hsucc : gvN share m W L (j + 1) = gvC share m ((j % W : Nat) : Int) ((j / W : Nat) : Int) (gvN share m W L j) := rfl
      simp only [go_sem, Nat.reduceBEq, Nat.reduceLT, Nat.reduceLeDiff, Nat.reduceAdd, Nat.reduceMul, Nat.reduceSub, Nat.reduceMod, Nat.reduceDiv, Nat.reduceEqDiff, Int.reduceToNat, reduceIte, reduceCtorEq, Int.reduceLE, Int.reduceLT, Int.reduceEq, Int.reduceNeg, Int.reduceAdd, Int.reduceSub, Int.reduceMul, r1, b1, b3, b4, cellC_x, cellC_y]
      generalize hX : ((j % W : Nat) : Int) = X at *
      generalize hY : ((j / W : Nat) : Int) = Y at *
      generalize hDD : gvN share m W L j = D at *
      have hw0 := (hD m (by omega)).good.wet Y X y0 y8 x0 x8
      have hv := stC_wet D m y0 y8 x0 x8
      have bw : m * 266 + 2 + Y.toNat * 8 + X.toNat ≤ D.length * 266 - 1 := by omega
      have bw1 : m * 266 + 2 + Y.toNat * 8 + X.toNat + 1 ≤ D.length * 266 := by omega
      have b1l : 1 ≤ D.length * 266 := by omega
      have hgS : hget (hset h i (stS D none)) i = some ⟨D.length * 266, stC D, true, none⟩ := hgi _
      refine T_draw hti _ _ (by kernel_rfl) (by kernel_rfl) ?_
      simp only [go_sem, Nat.reduceBEq, Nat.reduceLT, Nat.reduceLeDiff, Nat.reduceAdd, Nat.reduceMul, Nat.reduceSub, Nat.reduceMod, Nat.reduceDiv, Nat.reduceEqDiff, Int.reduceToNat, reduceIte, reduceCtorEq, Int.reduceLE, Int.reduceLT, Int.reduceEq, Int.reduceNeg, Int.reduceAdd, Int.reduceSub, Int.reduceMul, hgS, hi, x0, x8, y0, y8, hv, bw, bw1, b1l, w64 (n := (D.getD m sh0).wet Y X) (by omega)]
      by_cases hw : (D.getD m sh0).wet Y X = 0
      · have hD' : gvC share m X Y D = D := by unfold gvC; rw [if_pos (.inl hw)]
        simp only [go_sem, Nat.reduceBEq, Nat.reduceLT, Nat.reduceLeDiff, Nat.reduceAdd, Nat.reduceMul, Nat.reduceSub, Nat.reduceMod, Nat.reduceDiv, Nat.reduceEqDiff, Int.reduceToNat, reduceIte, reduceCtorEq, Int.reduceLE, Int.reduceLT, Int.reduceEq, Int.reduceNeg, Int.reduceAdd, Int.reduceSub, Int.reduceMul, hw]
        refine ⟨⟨j + 1, by omega⟩, by show H * W - (j + 1) < H * W - j; omega, ?_⟩
        rw [hsucc, hD']
        refine Imp.id (by simp) ?_ ?_
        · simp only [go_sem, Nat.reduceBEq, Nat.reduceLT, Nat.reduceLeDiff, Nat.reduceAdd, Nat.reduceMul, Nat.reduceSub, Nat.reduceMod, Nat.reduceDiv, Nat.reduceEqDiff, Int.reduceToNat, reduceIte, reduceCtorEq, Int.reduceLE, Int.reduceLT, Int.reduceEq, Int.reduceNeg, Int.reduceAdd, Int.reduceSub, Int.reduceMul, w64 (n := (j : Int) + 1) (by omega), Int.natCast_add, Int.natCast_one]
          omega
        · (repeat (refine impH.cons0 (by first | (simp only [go_sem, Nat.reduceBEq, Nat.reduceLT, Nat.reduceLeDiff, Nat.reduceAdd, Nat.reduceMul, Nat.reduceSub, Nat.reduceMod, Nat.reduceDiv, Nat.reduceEqDiff, Int.reduceToNat, reduceIte, reduceCtorEq, Int.reduceLE, Int.reduceLT, Int.reduceEq, Int.reduceNeg, Int.reduceAdd, Int.reduceSub, Int.reduceMul, hget_hset_self]; done) | (simp only [go_sem, Nat.reduceBEq, Nat.reduceLT, Nat.reduceLeDiff, Nat.reduceAdd, Nat.reduceMul, Nat.reduceSub, Nat.reduceMod, Nat.reduceDiv, Nat.reduceEqDiff, Int.reduceToNat, reduceIte, reduceCtorEq, Int.reduceLE, Int.reduceLT, Int.reduceEq, Int.reduceNeg, Int.reduceAdd, Int.reduceSub, Int.reduceMul, hget_hset_self]; rfl)) (by simp) ?_ ?_; · exact SegLe.flat (Nat.le_refl _) id (by first | exact .inr rfl | exact .inl rfl) fun z hz => ⟨by first | rfl | exact dC_zero hz | exact dC_cl (by rfl) (by rfl) (by rfl) hz, by first | exact shC_flat _ _ | exact brC_flat _ hz | exact pair_flat _ _ hz | exact cellC_flat _ _ | exact dC_flat _ _ | exact stC_flat _ _ | exact cl_flat (l := [_, _, _, _, _]) (by simp [SV.flat]) hz | exact cl_flat (l := [_, _, _]) (by simp [SV.flat]) hz | trivial⟩)); exact impH.base0 (by first | exact hok | exact hok_set hok (fun k hk => stC_flat _ _) | exact hok_set hok (fun k hk => shC_flat _ _)) (by simp) (by first | (simp only [go_sem, Nat.reduceBEq, Nat.reduceLT, Nat.reduceLeDiff, Nat.reduceAdd, Nat.reduceMul, Nat.reduceSub, Nat.reduceMod, Nat.reduceDiv, Nat.reduceEqDiff, Int.reduceToNat, reduceIte, reduceCtorEq, Int.reduceLE, Int.reduceLT, Int.reduceEq, Int.reduceNeg, Int.reduceAdd, Int.reduceSub, Int.reduceMul, HExt_cons]; done) | (simp only [go_sem, Nat.reduceBEq, Nat.reduceLT, Nat.reduceLeDiff, Nat.reduceAdd, Nat.reduceMul, Nat.reduceSub, Nat.reduceMod, Nat.reduceDiv, Nat.reduceEqDiff, Int.reduceToNat, reduceIte, reduceCtorEq, Int.reduceLE, Int.reduceLT, Int.reduceEq, Int.reduceNeg, Int.reduceAdd, Int.reduceSub, Int.reduceMul, HExt_cons]; exact HExt.rfl))
      have hSb := shAt_stS (own := none) (i := m + 1) (by omega) (hD (m + 1) (by omega)).R
      simp only [go_sem, Nat.reduceBEq, Nat.reduceLT, Nat.reduceLeDiff, Nat.reduceAdd, Nat.reduceMul, Nat.reduceSub, Nat.reduceMod, Nat.reduceDiv, Nat.reduceEqDiff, Int.reduceToNat, reduceIte, reduceCtorEq, Int.reduceLE, Int.reduceLT, Int.reduceEq, Int.reduceNeg, Int.reduceAdd, Int.reduceSub, Int.reduceMul, hw]
      refine (waxed2_Q _ _ _ i ((m + 1) * 266) _ (D.getD (m + 1) sh0) X Y (by first | (simp only [go_sem, Nat.reduceBEq, Nat.reduceLT, Nat.reduceLeDiff, Nat.reduceAdd, Nat.reduceMul, Nat.reduceSub, Nat.reduceMod, Nat.reduceDiv, Nat.reduceEqDiff, Int.reduceToNat, reduceIte, reduceCtorEq, Int.reduceLE, Int.reduceLT, Int.reduceEq, Int.reduceNeg, Int.reduceAdd, Int.reduceSub, Int.reduceMul, hgi, hi]; done) | (simp only [go_sem, Nat.reduceBEq, Nat.reduceLT, Nat.reduceLeDiff, Nat.reduceAdd, Nat.reduceMul, Nat.reduceSub, Nat.reduceMod, Nat.reduceDiv, Nat.reduceEqDiff, Int.reduceToNat, reduceIte, reduceCtorEq, Int.reduceLE, Int.reduceLT, Int.reduceEq, Int.reduceNeg, Int.reduceAdd, Int.reduceSub, Int.reduceMul, hgi, hi]; rfl)) (by omega) hSb x0 (by omega) y0 y8).A ?_
      by_cases hwx : waxB (D.getD (m + 1) sh0) X Y = true
      · have hD' : gvC share m X Y D = D := by unfold gvC; rw [if_pos (.inr hwx)]
        simp only [go_sem, Nat.reduceBEq, Nat.reduceLT, Nat.reduceLeDiff, Nat.reduceAdd, Nat.reduceMul, Nat.reduceSub, Nat.reduceMod, Nat.reduceDiv, Nat.reduceEqDiff, Int.reduceToNat, reduceIte, reduceCtorEq, Int.reduceLE, Int.reduceLT, Int.reduceEq, Int.reduceNeg, Int.reduceAdd, Int.reduceSub, Int.reduceMul, hwx]
        refine ⟨⟨j + 1, by omega⟩, by show H * W - (j + 1) < H * W - j; omega, ?_⟩
        rw [hsucc, hD']
        refine Imp.id (by simp) ?_ ?_
        · simp only [go_sem, Nat.reduceBEq, Nat.reduceLT, Nat.reduceLeDiff, Nat.reduceAdd, Nat.reduceMul, Nat.reduceSub, Nat.reduceMod, Nat.reduceDiv, Nat.reduceEqDiff, Int.reduceToNat, reduceIte, reduceCtorEq, Int.reduceLE, Int.reduceLT, Int.reduceEq, Int.reduceNeg, Int.reduceAdd, Int.reduceSub, Int.reduceMul, w64 (n := (j : Int) + 1) (by omega), Int.natCast_add, Int.natCast_one]
          omega
        · (repeat (refine impH.cons0 (by first | (simp only [go_sem, Nat.reduceBEq, Nat.reduceLT, Nat.reduceLeDiff, Nat.reduceAdd, Nat.reduceMul, Nat.reduceSub, Nat.reduceMod, Nat.reduceDiv, Nat.reduceEqDiff, Int.reduceToNat, reduceIte, reduceCtorEq, Int.reduceLE, Int.reduceLT, Int.reduceEq, Int.reduceNeg, Int.reduceAdd, Int.reduceSub, Int.reduceMul, hget_hset_self]; done) | (simp only [go_sem, Nat.reduceBEq, Nat.reduceLT, Nat.reduceLeDiff, Nat.reduceAdd, Nat.reduceMul, Nat.reduceSub, Nat.reduceMod, Nat.reduceDiv, Nat.reduceEqDiff, Int.reduceToNat, reduceIte, reduceCtorEq, Int.reduceLE, Int.reduceLT, Int.reduceEq, Int.reduceNeg, Int.reduceAdd, Int.reduceSub, Int.reduceMul, hget_hset_self]; rfl)) (by simp) ?_ ?_; · exact SegLe.flat (Nat.le_refl _) id (by first | exact .inr rfl | exact .inl rfl) fun z hz => ⟨by first | rfl | exact dC_zero hz | exact dC_cl (by rfl) (by rfl) (by rfl) hz, by first | exact shC_flat _ _ | exact brC_flat _ hz | exact pair_flat _ _ hz | exact cellC_flat _ _ | exact dC_flat _ _ | exact stC_flat _ _ | exact cl_flat (l := [_, _, _, _, _]) (by simp [SV.flat]) hz | exact cl_flat (l := [_, _, _]) (by simp [SV.flat]) hz | trivial⟩)); exact impH.base0 (by first | exact hok | exact hok_set hok (fun k hk => stC_flat _ _) | exact hok_set hok (fun k hk => shC_flat _ _)) (by simp) (by first | (simp only [go_sem, Nat.reduceBEq, Nat.reduceLT, Nat.reduceLeDiff, Nat.reduceAdd, Nat.reduceMul, Nat.reduceSub, Nat.reduceMod, Nat.reduceDiv, Nat.reduceEqDiff, Int.reduceToNat, reduceIte, reduceCtorEq, Int.reduceLE, Int.reduceLT, Int.reduceEq, Int.reduceNeg, Int.reduceAdd, Int.reduceSub, Int.reduceMul, HExt_cons]; done) | (simp only [go_sem, Nat.reduceBEq, Nat.reduceLT, Nat.reduceLeDiff, Nat.reduceAdd, Nat.reduceMul, Nat.reduceSub, Nat.reduceMod, Nat.reduceDiv, Nat.reduceEqDiff, Int.reduceToNat, reduceIte, reduceCtorEq, Int.reduceLE, Int.reduceLT, Int.reduceEq, Int.reduceNeg, Int.reduceAdd, Int.reduceSub, Int.reduceMul, HExt_cons]; exact HExt.rfl))
      simp only [go_sem, Nat.reduceBEq, Nat.reduceLT, Nat.reduceLeDiff, Nat.reduceAdd, Nat.reduceMul, Nat.reduceSub, Nat.reduceMod, Nat.reduceDiv, Nat.reduceEqDiff, Int.reduceToNat, reduceIte, reduceCtorEq, Int.reduceLE, Int.reduceLT, Int.reduceEq, Int.reduceNeg, Int.reduceAdd, Int.reduceSub, Int.reduceMul, hwx]
      have hC3 : gvC share m X Y D = gvW share m X Y (gvKs share m X Y D 3) := by unfold gvC; rw [if_neg (fun h => h.elim hw hwx)]
      refine T_lp (ι := { q : Nat // q ≤ 3 })
        (fun q => ([(0, .ptr i (m * 266)), (1, .ptr i ((m + 1) * 266)), (2, .int .i64 share), (6, .sl n 0 (H * W) cap), (7, .int .i64 j), (8, .ptr (n + 1) 0), (9, .int .i64 ((D.getD m sh0).wet Y X)), (10, .int .i64 q.1)],
          (n + 1, ⟨2, cl [.int .i8 X, .int .i8 Y], true, none⟩) :: (n, ⟨H * W * 2, cellC W, true, none⟩) :: hset h i (stS (gvKs share m X Y D q.1) none), n + 2)) (fun q => 3 - q.1) ⟨0, by omega⟩ ?_ ?_
      · refine Imp.id (by simp) ?_ ?_
        · simp only [go_sem, Nat.reduceBEq, Nat.reduceLT, Nat.reduceLeDiff, Nat.reduceAdd, Nat.reduceMul, Nat.reduceSub, Nat.reduceMod, Nat.reduceDiv, Nat.reduceEqDiff, Int.reduceToNat, reduceIte, reduceCtorEq, Int.reduceLE, Int.reduceLT, Int.reduceEq, Int.reduceNeg, Int.reduceAdd, Int.reduceSub, Int.reduceMul]
          omega
        · (repeat (refine impH.cons0 (by first | (simp only [go_sem, Nat.reduceBEq, Nat.reduceLT, Nat.reduceLeDiff, Nat.reduceAdd, Nat.reduceMul, Nat.reduceSub, Nat.reduceMod, Nat.reduceDiv, Nat.reduceEqDiff, Int.reduceToNat, reduceIte, reduceCtorEq, Int.reduceLE, Int.reduceLT, Int.reduceEq, Int.reduceNeg, Int.reduceAdd, Int.reduceSub, Int.reduceMul, hget_hset_self]; done) | (simp only [go_sem, Nat.reduceBEq, Nat.reduceLT, Nat.reduceLeDiff, Nat.reduceAdd, Nat.reduceMul, Nat.reduceSub, Nat.reduceMod, Nat.reduceDiv, Nat.reduceEqDiff, Int.reduceToNat, reduceIte, reduceCtorEq, Int.reduceLE, Int.reduceLT, Int.reduceEq, Int.reduceNeg, Int.reduceAdd, Int.reduceSub, Int.reduceMul, hget_hset_self]; rfl)) (by simp) ?_ ?_; · exact SegLe.flat (Nat.le_refl _) id (by first | exact .inr rfl | exact .inl rfl) fun z hz => ⟨by first | rfl | exact dC_zero hz | exact dC_cl (by rfl) (by rfl) (by rfl) hz, by first | exact shC_flat _ _ | exact brC_flat _ hz | exact pair_flat _ _ hz | exact cellC_flat _ _ | exact dC_flat _ _ | exact stC_flat _ _ | exact cl_flat (l := [_, _, _, _, _]) (by simp [SV.flat]) hz | exact cl_flat (l := [_, _, _]) (by simp [SV.flat]) hz | trivial⟩)); exact impH.base0 (by first | exact hok | exact hok_set hok (fun k hk => stC_flat _ _) | exact hok_set hok (fun k hk => shC_flat _ _)) (by simp) (by first | (simp only [go_sem, Nat.reduceBEq, Nat.reduceLT, Nat.reduceLeDiff, Nat.reduceAdd, Nat.reduceMul, Nat.reduceSub, Nat.reduceMod, Nat.reduceDiv, Nat.reduceEqDiff, Int.reduceToNat, reduceIte, reduceCtorEq, Int.reduceLE, Int.reduceLT, Int.reduceEq, Int.reduceNeg, Int.reduceAdd, Int.reduceSub, Int.reduceMul, HExt_cons]; done) | (simp only [go_sem, Nat.reduceBEq, Nat.reduceLT, Nat.reduceLeDiff, Nat.reduceAdd, Nat.reduceMul, Nat.reduceSub, Nat.reduceMod, Nat.reduceDiv, Nat.reduceEqDiff, Int.reduceToNat, reduceIte, reduceCtorEq, Int.reduceLE, Int.reduceLT, Int.reduceEq, Int.reduceNeg, Int.reduceAdd, Int.reduceSub, Int.reduceMul, HExt_cons]; exact HExt.rfl))
      · rintro ⟨q, hq⟩
        obtain ⟨k1, k2, k3, k4⟩ := gvKs_ok hsh x0 x8 y0 y8 hD (i := m) (by omega) q hq
        simp only [go_sem, Nat.reduceBEq, Nat.reduceLT, Nat.reduceLeDiff, Nat.reduceAdd, Nat.reduceMul, Nat.reduceSub, Nat.reduceMod, Nat.reduceDiv, Nat.reduceEqDiff, Int.reduceToNat, reduceIte, reduceCtorEq, Int.reduceLE, Int.reduceLT, Int.reduceEq, Int.reduceNeg, Int.reduceAdd, Int.reduceSub, Int.reduceMul, hi, decide_eq_true_eq, decide_eq_false_iff_not]
        refine ⟨fun h2 => ?_, fun h2 => ?_⟩
        · have hq3 : q < 3 := by omega
          have q0 : (0 : Int) ≤ q ∧ (q : Int) < 3 := ⟨by omega, h2⟩
          have hsuq : gvKs share m X Y D (q + 1) = gvK share m X Y (gvKs share m X Y D q) q := rfl
          generalize hE : gvKs share m X Y D q = E at *
          have hv := stC_dye E m q y0 y8 x0 x8 hq3
          have hu := stC_dye E (m + 1) q y0 y8 x0 x8 hq3
          have hr := (k1 m (by omega)).good.dye Y X q y0 y8 x0 x8 (by omega) (by omega)
          have hr2 := (k1 (m + 1) (by omega)).good.dye Y X q y0 y8 x0 x8 (by omega) (by omega)
          have hb := gvB_in hsh x0 x8 y0 y8 k1 (i := m) (by omega) q hq3
          have hmem := gvK_mem' (share := share) y0 y8 x0 x8 (L := E) (i := m) (by omega) hq3
          simp only [stS_n, stS_c, stS_own] at hmem
          obtain ⟨m0, m1, m2, m3⟩ := giveQ_in hr hsh
          have c1 : m * 266 + 66 + Y.toNat * 24 + X.toNat * 3 + q ≤ E.length * 266 - 1 := by omega
          have c2 : m * 266 + 66 + Y.toNat * 24 + X.toNat * 3 + q + 1 ≤ E.length * 266 := by omega
          have c3 : (m + 1) * 266 + 66 + Y.toNat * 24 + X.toNat * 3 + q ≤ E.length * 266 - 1 := by omega
          have c4 : (m + 1) * 266 + 66 + Y.toNat * 24 + X.toNat * 3 + q + 1 ≤ E.length * 266 := by omega
          have c5 : 1 ≤ E.length * 266 := by omega
          have c6 : (1 = E.length * 266) = False := eq_false (by omega)
          have hgE : hget (hset h i (stS E none)) i = some ⟨E.length * 266, stC E, true, none⟩ := hgi _
          have eq : ((E.getD m sh0).dye Y X q * share).tdiv 16 = giveQ ((E.getD m sh0).dye Y X q) share := rfl
          have eB : min (giveQ ((E.getD m sh0).dye Y X q) share) (1000 - (E.getD (m + 1) sh0).dye Y X q) = gvB share m X Y E q := rfl
          refine T_draw hti _ _ (by kernel_rfl) (by kernel_rfl) ?_
          simp only [go_sem, Nat.reduceBEq, Nat.reduceLT, Nat.reduceLeDiff, Nat.reduceAdd, Nat.reduceMul, Nat.reduceSub, Nat.reduceMod, Nat.reduceDiv, Nat.reduceEqDiff, Int.reduceToNat, reduceIte, reduceCtorEq, Int.reduceLE, Int.reduceLT, Int.reduceEq, Int.reduceNeg, Int.reduceAdd, Int.reduceSub, Int.reduceMul, hgE, hi, x0, x8, y0, y8, q0, hv, hu, c1, c2, c3, c4, c5, eq, w64 (n := (E.getD m sh0).dye Y X q) (by omega), w64 (n := (E.getD (m + 1) sh0).dye Y X q) (by omega), w64 (n := (E.getD m sh0).dye Y X q * share) (by omega), w64 (n := giveQ ((E.getD m sh0).dye Y X q) share) (by omega), w64 (n := 1000 - (E.getD (m + 1) sh0).dye Y X q) (by omega)]
          refine (min_Q _ _ _ _ _).A ?_
          simp only [go_sem, Nat.reduceBEq, Nat.reduceLT, Nat.reduceLeDiff, Nat.reduceAdd, Nat.reduceMul, Nat.reduceSub, Nat.reduceMod, Nat.reduceDiv, Nat.reduceEqDiff, Int.reduceToNat, reduceIte, reduceCtorEq, Int.reduceLE, Int.reduceLT, Int.reduceEq, Int.reduceNeg, Int.reduceAdd, Int.reduceSub, Int.reduceMul, eB]
          refine T_drawT hti 20 _ _ (by kernel_rfl) (by kernel_rfl) ?_
          simp only [go_sem, Nat.reduceBEq, Nat.reduceLT, Nat.reduceLeDiff, Nat.reduceAdd, Nat.reduceMul, Nat.reduceSub, Nat.reduceMod, Nat.reduceDiv, Nat.reduceEqDiff, Int.reduceToNat, reduceIte, reduceCtorEq, Int.reduceLE, Int.reduceLT, Int.reduceEq, Int.reduceNeg, Int.reduceAdd, Int.reduceSub, Int.reduceMul, hgE, hi, x0, x8, y0, y8, q0, hv, c1, c2, c5, c6, and_false, if_false, w16 (n := gvB share m X Y E q) (by omega), w16 (n := (E.getD m sh0).dye Y X q - gvB share m X Y E q) (by omega)]
          refine T_drawT hti 20 _ _ (by kernel_rfl) (by kernel_rfl) ?_
          have hu' : upd (stC E) (m * 266 + 66 + Y.toNat * 24 + X.toNat * 3 + q) (.int .i16 ((E.getD m sh0).dye Y X q - gvB share m X Y E q)) ((m + 1) * 266 + 66 + Y.toNat * 24 + X.toNat * 3 + q) = .int .i16 ((E.getD (m + 1) sh0).dye Y X q) := (upd_far (by omega)).trans hu
          simp only [go_sem, Nat.reduceBEq, Nat.reduceLT, Nat.reduceLeDiff, Nat.reduceAdd, Nat.reduceMul, Nat.reduceSub, Nat.reduceMod, Nat.reduceDiv, Nat.reduceEqDiff, Int.reduceToNat, reduceIte, reduceCtorEq, Int.reduceLE, Int.reduceLT, Int.reduceEq, Int.reduceNeg, Int.reduceAdd, Int.reduceSub, Int.reduceMul, hgi, hi, x0, x8, y0, y8, q0, hu', c3, c4, c5, c6, and_false, if_false, w16 (n := gvB share m X Y E q) (by omega), w16 (n := (E.getD (m + 1) sh0).dye Y X q + gvB share m X Y E q) (by omega)]
          rw [hmem]
          refine ⟨⟨q + 1, by omega⟩, by show 3 - (q + 1) < 3 - q; omega, ?_⟩
          rw [hsuq]
          refine Imp.id (by simp) ?_ ?_
          · simp only [go_sem, Nat.reduceBEq, Nat.reduceLT, Nat.reduceLeDiff, Nat.reduceAdd, Nat.reduceMul, Nat.reduceSub, Nat.reduceMod, Nat.reduceDiv, Nat.reduceEqDiff, Int.reduceToNat, reduceIte, reduceCtorEq, Int.reduceLE, Int.reduceLT, Int.reduceEq, Int.reduceNeg, Int.reduceAdd, Int.reduceSub, Int.reduceMul, w64 (n := (q : Int) + 1) (by omega), Int.natCast_add, Int.natCast_one]
            omega
          · (repeat (refine impH.cons0 (by first | (simp only [go_sem, Nat.reduceBEq, Nat.reduceLT, Nat.reduceLeDiff, Nat.reduceAdd, Nat.reduceMul, Nat.reduceSub, Nat.reduceMod, Nat.reduceDiv, Nat.reduceEqDiff, Int.reduceToNat, reduceIte, reduceCtorEq, Int.reduceLE, Int.reduceLT, Int.reduceEq, Int.reduceNeg, Int.reduceAdd, Int.reduceSub, Int.reduceMul, hget_hset_self]; done) | (simp only [go_sem, Nat.reduceBEq, Nat.reduceLT, Nat.reduceLeDiff, Nat.reduceAdd, Nat.reduceMul, Nat.reduceSub, Nat.reduceMod, Nat.reduceDiv, Nat.reduceEqDiff, Int.reduceToNat, reduceIte, reduceCtorEq, Int.reduceLE, Int.reduceLT, Int.reduceEq, Int.reduceNeg, Int.reduceAdd, Int.reduceSub, Int.reduceMul, hget_hset_self]; rfl)) (by simp) ?_ ?_; · exact SegLe.flat (Nat.le_refl _) id (by first | exact .inr rfl | exact .inl rfl) fun z hz => ⟨by first | rfl | exact dC_zero hz | exact dC_cl (by rfl) (by rfl) (by rfl) hz, by first | exact shC_flat _ _ | exact brC_flat _ hz | exact pair_flat _ _ hz | exact cellC_flat _ _ | exact dC_flat _ _ | exact stC_flat _ _ | exact cl_flat (l := [_, _, _, _, _]) (by simp [SV.flat]) hz | exact cl_flat (l := [_, _, _]) (by simp [SV.flat]) hz | trivial⟩)); exact impH.base0 (by first | exact hok | exact hok_set hok (fun k hk => stC_flat _ _) | exact hok_set hok (fun k hk => shC_flat _ _)) (by simp) (by first | (simp only [go_sem, Nat.reduceBEq, Nat.reduceLT, Nat.reduceLeDiff, Nat.reduceAdd, Nat.reduceMul, Nat.reduceSub, Nat.reduceMod, Nat.reduceDiv, Nat.reduceEqDiff, Int.reduceToNat, reduceIte, reduceCtorEq, Int.reduceLE, Int.reduceLT, Int.reduceEq, Int.reduceNeg, Int.reduceAdd, Int.reduceSub, Int.reduceMul, HExt_cons]; done) | (simp only [go_sem, Nat.reduceBEq, Nat.reduceLT, Nat.reduceLeDiff, Nat.reduceAdd, Nat.reduceMul, Nat.reduceSub, Nat.reduceMod, Nat.reduceDiv, Nat.reduceEqDiff, Int.reduceToNat, reduceIte, reduceCtorEq, Int.reduceLE, Int.reduceLT, Int.reduceEq, Int.reduceNeg, Int.reduceAdd, Int.reduceSub, Int.reduceMul, HExt_cons]; exact HExt.rfl))
        · have hq3 : q = 3 := by omega
          subst hq3
          generalize hE : gvKs share m X Y D 3 = E at *
          have hv := stC_wet E m y0 y8 x0 x8
          have hu := stC_wet E (m + 1) y0 y8 x0 x8
          have hr := (k1 m (by omega)).good.wet Y X y0 y8 x0 x8
          have hr2 := (k1 (m + 1) (by omega)).good.wet Y X y0 y8 x0 x8
          have hb := gvA_in hsh x0 x8 y0 y8 k1 (i := m) (by omega)
          have hmem := gvW_mem' (share := share) y0 y8 x0 x8 (L := E) (i := m) (by omega)
          simp only [stS_n, stS_c, stS_own] at hmem
          obtain ⟨m0, m1, m2, m3⟩ := giveQ_in (v := (E.getD m sh0).wet Y X) (by omega) hsh
          have c1 : m * 266 + 2 + Y.toNat * 8 + X.toNat ≤ E.length * 266 - 1 := by omega
          have c2 : m * 266 + 2 + Y.toNat * 8 + X.toNat + 1 ≤ E.length * 266 := by omega
          have c3 : (m + 1) * 266 + 2 + Y.toNat * 8 + X.toNat ≤ E.length * 266 - 1 := by omega
          have c4 : (m + 1) * 266 + 2 + Y.toNat * 8 + X.toNat + 1 ≤ E.length * 266 := by omega
          have c5 : 1 ≤ E.length * 266 := by omega
          have c6 : (1 = E.length * 266) = False := eq_false (by omega)
          have hgE : hget (hset h i (stS E none)) i = some ⟨E.length * 266, stC E, true, none⟩ := hgi _
          have eq : ((E.getD m sh0).wet Y X * share).tdiv 16 = giveQ ((E.getD m sh0).wet Y X) share := rfl
          have eB : min (giveQ ((E.getD m sh0).wet Y X) share) (200 - (E.getD (m + 1) sh0).wet Y X) = gvA share m X Y E := rfl
          rw [← k3]
          refine T_draw hti _ _ (by kernel_rfl) (by kernel_rfl) ?_
          simp only [go_sem, Nat.reduceBEq, Nat.reduceLT, Nat.reduceLeDiff, Nat.reduceAdd, Nat.reduceMul, Nat.reduceSub, Nat.reduceMod, Nat.reduceDiv, Nat.reduceEqDiff, Int.reduceToNat, reduceIte, reduceCtorEq, Int.reduceLE, Int.reduceLT, Int.reduceEq, Int.reduceNeg, Int.reduceAdd, Int.reduceSub, Int.reduceMul, hgE, hi, x0, x8, y0, y8, hv, hu, c1, c2, c3, c4, c5, eq, w64 (n := (E.getD m sh0).wet Y X * share) (by omega), w64 (n := (E.getD (m + 1) sh0).wet Y X) (by omega), w64 (n := giveQ ((E.getD m sh0).wet Y X) share) (by omega), w64 (n := 200 - (E.getD (m + 1) sh0).wet Y X) (by omega)]
          refine (min_Q _ _ _ _ _).A ?_
          simp only [go_sem, Nat.reduceBEq, Nat.reduceLT, Nat.reduceLeDiff, Nat.reduceAdd, Nat.reduceMul, Nat.reduceSub, Nat.reduceMod, Nat.reduceDiv, Nat.reduceEqDiff, Int.reduceToNat, reduceIte, reduceCtorEq, Int.reduceLE, Int.reduceLT, Int.reduceEq, Int.reduceNeg, Int.reduceAdd, Int.reduceSub, Int.reduceMul, eB]
          refine T_drawT hti 17 _ _ (by kernel_rfl) (by kernel_rfl) ?_
          simp only [go_sem, Nat.reduceBEq, Nat.reduceLT, Nat.reduceLeDiff, Nat.reduceAdd, Nat.reduceMul, Nat.reduceSub, Nat.reduceMod, Nat.reduceDiv, Nat.reduceEqDiff, Int.reduceToNat, reduceIte, reduceCtorEq, Int.reduceLE, Int.reduceLT, Int.reduceEq, Int.reduceNeg, Int.reduceAdd, Int.reduceSub, Int.reduceMul, hgE, hi, x0, x8, y0, y8, hv, c1, c2, c5, c6, and_false, if_false, w16 (n := gvA share m X Y E) (by omega), w16 (n := (E.getD m sh0).wet Y X - gvA share m X Y E) (by omega)]
          refine T_drawT hti 17 _ _ (by kernel_rfl) (by kernel_rfl) ?_
          have hu' : upd (stC E) (m * 266 + 2 + Y.toNat * 8 + X.toNat) (.int .i16 ((E.getD m sh0).wet Y X - gvA share m X Y E)) ((m + 1) * 266 + 2 + Y.toNat * 8 + X.toNat) = .int .i16 ((E.getD (m + 1) sh0).wet Y X) := (upd_far (by omega)).trans hu
          simp only [go_sem, Nat.reduceBEq, Nat.reduceLT, Nat.reduceLeDiff, Nat.reduceAdd, Nat.reduceMul, Nat.reduceSub, Nat.reduceMod, Nat.reduceDiv, Nat.reduceEqDiff, Int.reduceToNat, reduceIte, reduceCtorEq, Int.reduceLE, Int.reduceLT, Int.reduceEq, Int.reduceNeg, Int.reduceAdd, Int.reduceSub, Int.reduceMul, hgi, hi, x0, x8, y0, y8, hu', c3, c4, c5, c6, and_false, if_false, w16 (n := gvA share m X Y E) (by omega), w16 (n := (E.getD (m + 1) sh0).wet Y X + gvA share m X Y E) (by omega)]
          rw [hmem]
          refine ⟨⟨j + 1, by omega⟩, by show H * W - (j + 1) < H * W - j; omega, ?_⟩
          rw [hsucc, hC3]
          refine Imp.id (by simp) ?_ ?_
          · simp only [go_sem, Nat.reduceBEq, Nat.reduceLT, Nat.reduceLeDiff, Nat.reduceAdd, Nat.reduceMul, Nat.reduceSub, Nat.reduceMod, Nat.reduceDiv, Nat.reduceEqDiff, Int.reduceToNat, reduceIte, reduceCtorEq, Int.reduceLE, Int.reduceLT, Int.reduceEq, Int.reduceNeg, Int.reduceAdd, Int.reduceSub, Int.reduceMul, w64 (n := (j : Int) + 1) (by omega), Int.natCast_add, Int.natCast_one]
            omega
          · (repeat (refine impH.cons0 (by first | (simp only [go_sem, Nat.reduceBEq, Nat.reduceLT, Nat.reduceLeDiff, Nat.reduceAdd, Nat.reduceMul, Nat.reduceSub, Nat.reduceMod, Nat.reduceDiv, Nat.reduceEqDiff, Int.reduceToNat, reduceIte, reduceCtorEq, Int.reduceLE, Int.reduceLT, Int.reduceEq, Int.reduceNeg, Int.reduceAdd, Int.reduceSub, Int.reduceMul, hget_hset_self]; done) | (simp only [go_sem, Nat.reduceBEq, Nat.reduceLT, Nat.reduceLeDiff, Nat.reduceAdd, Nat.reduceMul, Nat.reduceSub, Nat.reduceMod, Nat.reduceDiv, Nat.reduceEqDiff, Int.reduceToNat, reduceIte, reduceCtorEq, Int.reduceLE, Int.reduceLT, Int.reduceEq, Int.reduceNeg, Int.reduceAdd, Int.reduceSub, Int.reduceMul, hget_hset_self]; rfl)) (by simp) ?_ ?_; · exact SegLe.flat (Nat.le_refl _) id (by first | exact .inr rfl | exact .inl rfl) fun z hz => ⟨by first | rfl | exact dC_zero hz | exact dC_cl (by rfl) (by rfl) (by rfl) hz, by first | exact shC_flat _ _ | exact brC_flat _ hz | exact pair_flat _ _ hz | exact cellC_flat _ _ | exact dC_flat _ _ | exact stC_flat _ _ | exact cl_flat (l := [_, _, _, _, _]) (by simp [SV.flat]) hz | exact cl_flat (l := [_, _, _]) (by simp [SV.flat]) hz | trivial⟩)); exact impH.base0 (by first | exact hok | exact hok_set hok (fun k hk => stC_flat _ _) | exact hok_set hok (fun k hk => shC_flat _ _)) (by simp) (by first | (simp only [go_sem, Nat.reduceBEq, Nat.reduceLT, Nat.reduceLeDiff, Nat.reduceAdd, Nat.reduceMul, Nat.reduceSub, Nat.reduceMod, Nat.reduceDiv, Nat.reduceEqDiff, Int.reduceToNat, reduceIte, reduceCtorEq, Int.reduceLE, Int.reduceLT, Int.reduceEq, Int.reduceNeg, Int.reduceAdd, Int.reduceSub, Int.reduceMul, HExt_cons]; done) | (simp only [go_sem, Nat.reduceBEq, Nat.reduceLT, Nat.reduceLeDiff, Nat.reduceAdd, Nat.reduceMul, Nat.reduceSub, Nat.reduceMod, Nat.reduceDiv, Nat.reduceEqDiff, Int.reduceToNat, reduceIte, reduceCtorEq, Int.reduceLE, Int.reduceLT, Int.reduceEq, Int.reduceNeg, Int.reduceAdd, Int.reduceSub, Int.reduceMul, HExt_cons]; exact HExt.rfl))
    · have hj2 : j = H * W := by omega
      subst hj2
      exact HExt.rfl
end
end Go.Proofs.Ytjepjeaecmioaaa.V

/- What the table gets: the reference's walk. -/
namespace Go.Proofs.Ytjepjeaecmioaaa.V
section
variable (cx : Cx) (h : List (Nat × Seg)) (n : Nat)
set_option maxRecDepth 100000 in
set_option maxHeartbeats 1600000 in
theorem table2_E (i m : Nat) (L : List Sh) (W H : Nat) (share : Int) (hs : hget h i = some (stS L none)) (hi : i < n) (hG : PGood L W H) (hm : m < L.length) (hsh : 1 ≤ share ∧ share ≤ 15) (K : HK)
    (hK : let S := tbN share m W ⟨L, fun _ => 0, 0⟩ (H * W); K (.tup 2 (cl [.agg 3 (cl [.int .i64 (S.d 0), .int .i64 (S.d 1), .int .i64 (S.d 2)]), .int .i64 S.w])) (hset h i (stS S.L none)) n) :
    CallE Try.prog cx 65 [.ptr i (m * 266), .int .i64 share] h n K := by
  refine CallE.to _ _ (by simp only [go_sem, Nat.reduceBEq, Nat.reduceLT, Nat.reduceLeDiff, Nat.reduceAdd, Nat.reduceMul, Nat.reduceSub, Nat.reduceMod, Nat.reduceDiv, Nat.reduceEqDiff, Int.reduceToNat, reduceIte, reduceCtorEq, Int.reduceLE, Int.reduceLT, Int.reduceEq, Int.reduceNeg, Int.reduceAdd, Int.reduceSub, Int.reduceMul]) (fun hok => hok_set hok fun k hk => stC_flat _ _) hK ?_
  have hgi : ∀ t, hget (hset h i t) i = some t := hget_hset_self hs
  obtain ⟨hsm, hW8, hH8, hWH2⟩ := hG.sides (by omega)
  have hS := shAt_stS (own := none) (i := m) (by omega) (hG m (by omega)).R
  refine callE_of_T (P := Try.prog) hti (nt := 114) (rs := [.cell 4 31, .tmp 5]) rfl rfl Try.call65 Try.func65 rfl _ (by simp only [go_sem, and_self]) (Nat.le_of_ble_eq_true rfl) _ fun hok => ?_
  simp only [go_sem, Nat.reduceBEq, Nat.reduceLT, Nat.reduceLeDiff, Nat.reduceAdd, Nat.reduceMul, Nat.reduceSub, Nat.reduceMod, Nat.reduceDiv, Nat.reduceEqDiff, Int.reduceToNat, reduceIte, reduceCtorEq, Int.reduceLE, Int.reduceLT, Int.reduceEq, Int.reduceNeg, Int.reduceAdd, Int.reduceSub, Int.reduceMul]
  refine callA_false (spots_E _ _ _ i (m * 266) _ (L.getD m sh0) W H (by first | (simp only [go_sem, Nat.reduceBEq, Nat.reduceLT, Nat.reduceLeDiff, Nat.reduceAdd, Nat.reduceMul, Nat.reduceSub, Nat.reduceMod, Nat.reduceDiv, Nat.reduceEqDiff, Int.reduceToNat, reduceIte, reduceCtorEq, Int.reduceLE, Int.reduceLT, Int.reduceEq, Int.reduceNeg, Int.reduceAdd, Int.reduceSub, Int.reduceMul, hs, hi]; done) | (simp only [go_sem, Nat.reduceBEq, Nat.reduceLT, Nat.reduceLeDiff, Nat.reduceAdd, Nat.reduceMul, Nat.reduceSub, Nat.reduceMod, Nat.reduceDiv, Nat.reduceEqDiff, Int.reduceToNat, reduceIte, reduceCtorEq, Int.reduceLE, Int.reduceLT, Int.reduceEq, Int.reduceNeg, Int.reduceAdd, Int.reduceSub, Int.reduceMul, hs, hi]; rfl)) (by omega) hS (hG m (by omega)).wide (hG m (by omega)).high hW8 hH8 _ fun cap hc1 hc2 => ?_)
  simp only [go_sem, Nat.reduceBEq, Nat.reduceLT, Nat.reduceLeDiff, Nat.reduceAdd, Nat.reduceMul, Nat.reduceSub, Nat.reduceMod, Nat.reduceDiv, Nat.reduceEqDiff, Int.reduceToNat, reduceIte, reduceCtorEq, Int.reduceLE, Int.reduceLT, Int.reduceEq, Int.reduceNeg, Int.reduceAdd, Int.reduceSub, Int.reduceMul]
  refine T_lp (ι := { j : Nat // j ≤ H * W })
    (fun j => ([(0, .ptr i (m * 266)), (1, .int .i64 share), (4, .ptr n 0), (6, .ptr (n + 1) 0), (7, .int .i64 (tbN share m W ⟨L, fun _ => 0, 0⟩ j.1).w), (8, .sl (n + 2) 0 (H * W) cap), (9, .int .i64 j.1)],
      (n + 2, ⟨H * W * 2, cellC W, true, none⟩) :: (n + 1, ⟨3, dC (tbN share m W ⟨L, fun _ => 0, 0⟩ j.1).d, true, none⟩) :: (n, ⟨3, cl [.int .i64 0, .int .i64 0, .int .i64 0], true, none⟩) :: hset h i (stS (tbN share m W ⟨L, fun _ => 0, 0⟩ j.1).L none), n + 3)) (fun j => H * W - j.1) ⟨0, Nat.zero_le _⟩ ?_ ?_
  · refine Imp.id (by simp) ?_ ?_
    · simp only [go_sem, Nat.reduceBEq, Nat.reduceLT, Nat.reduceLeDiff, Nat.reduceAdd, Nat.reduceMul, Nat.reduceSub, Nat.reduceMod, Nat.reduceDiv, Nat.reduceEqDiff, Int.reduceToNat, reduceIte, reduceCtorEq, Int.reduceLE, Int.reduceLT, Int.reduceEq, Int.reduceNeg, Int.reduceAdd, Int.reduceSub, Int.reduceMul, tbN]
      omega
    · simp only [go_sem, Nat.reduceBEq, Nat.reduceLT, Nat.reduceLeDiff, Nat.reduceAdd, Nat.reduceMul, Nat.reduceSub, Nat.reduceMod, Nat.reduceDiv, Nat.reduceEqDiff, Int.reduceToNat, reduceIte, reduceCtorEq, Int.reduceLE, Int.reduceLT, Int.reduceEq, Int.reduceNeg, Int.reduceAdd, Int.reduceSub, Int.reduceMul, tbN]
      rw [hset_self hs]
      (repeat (refine impH.cons0 (by first | (simp only [go_sem, Nat.reduceBEq, Nat.reduceLT, Nat.reduceLeDiff, Nat.reduceAdd, Nat.reduceMul, Nat.reduceSub, Nat.reduceMod, Nat.reduceDiv, Nat.reduceEqDiff, Int.reduceToNat, reduceIte, reduceCtorEq, Int.reduceLE, Int.reduceLT, Int.reduceEq, Int.reduceNeg, Int.reduceAdd, Int.reduceSub, Int.reduceMul, hget_hset_self]; done) | (simp only [go_sem, Nat.reduceBEq, Nat.reduceLT, Nat.reduceLeDiff, Nat.reduceAdd, Nat.reduceMul, Nat.reduceSub, Nat.reduceMod, Nat.reduceDiv, Nat.reduceEqDiff, Int.reduceToNat, reduceIte, reduceCtorEq, Int.reduceLE, Int.reduceLT, Int.reduceEq, Int.reduceNeg, Int.reduceAdd, Int.reduceSub, Int.reduceMul, hget_hset_self]; rfl)) (by simp) ?_ ?_; · exact SegLe.flat (Nat.le_refl _) id (by first | exact .inr rfl | exact .inl rfl) fun z hz => ⟨by first | rfl | exact dC_zero hz | exact dC_cl (by rfl) (by rfl) (by rfl) hz, by first | exact shC_flat _ _ | exact brC_flat _ hz | exact pair_flat _ _ hz | exact cellC_flat _ _ | exact dC_flat _ _ | exact stC_flat _ _ | exact cl_flat (l := [_, _, _, _, _]) (by simp [SV.flat]) hz | exact cl_flat (l := [_, _, _]) (by simp [SV.flat]) hz | trivial⟩)); exact impH.base0 (by first | exact hok | exact hok_set hok (fun k hk => stC_flat _ _) | exact hok_set hok (fun k hk => shC_flat _ _)) (by simp) (by first | (simp only [go_sem, Nat.reduceBEq, Nat.reduceLT, Nat.reduceLeDiff, Nat.reduceAdd, Nat.reduceMul, Nat.reduceSub, Nat.reduceMod, Nat.reduceDiv, Nat.reduceEqDiff, Int.reduceToNat, reduceIte, reduceCtorEq, Int.reduceLE, Int.reduceLT, Int.reduceEq, Int.reduceNeg, Int.reduceAdd, Int.reduceSub, Int.reduceMul, HExt_cons]; done) | (simp only [go_sem, Nat.reduceBEq, Nat.reduceLT, Nat.reduceLeDiff, Nat.reduceAdd, Nat.reduceMul, Nat.reduceSub, Nat.reduceMod, Nat.reduceDiv, Nat.reduceEqDiff, Int.reduceToNat, reduceIte, reduceCtorEq, Int.reduceLE, Int.reduceLT, Int.reduceEq, Int.reduceNeg, Int.reduceAdd, Int.reduceSub, Int.reduceMul, HExt_cons]; exact HExt.rfl))
  · rintro ⟨j, hj⟩
    obtain ⟨hD, hDl⟩ := tbN_ok (i := m) (S := ⟨L, fun _ => 0, 0⟩) hsh hG hm j hj
    have hDl : (tbN share m W ⟨L, fun _ => 0, 0⟩ j).L.length = L.length := hDl
    simp only [go_sem, Nat.reduceBEq, Nat.reduceLT, Nat.reduceLeDiff, Nat.reduceAdd, Nat.reduceMul, Nat.reduceSub, Nat.reduceMod, Nat.reduceDiv, Nat.reduceEqDiff, Int.reduceToNat, reduceIte, reduceCtorEq, Int.reduceLE, Int.reduceLT, Int.reduceEq, Int.reduceNeg, Int.reduceAdd, Int.reduceSub, Int.reduceMul, decide_eq_true_eq, decide_eq_false_iff_not]
    refine ⟨fun h1 => ?_, fun h1 => ?_⟩
    · obtain ⟨x0, x8, y0, y8⟩ := hG.cell (by omega) (j := j) (by omega)
      have r1 : (0 : Int) ≤ j ∧ (j : Int) < ((H * W : Nat) : Int) := ⟨by omega, h1⟩
      have b1 : j * 2 ≤ H * W * 2 - 2 := by omega
      have b3 : 2 ≤ H * W * 2 := by omega
      have b4 : j * 2 + 2 ≤ H * W * 2 := by omega
      have hsucc : tbN share m W ⟨L, fun _ => 0, 0⟩ (j + 1) = tbC share m ((j % W : Nat) : Int) ((j / W : Nat) : Int) (tbN share m W ⟨L, fun _ => 0, 0⟩ j) := rfl
      simp only [go_sem, Nat.reduceBEq, Nat.reduceLT, Nat.reduceLeDiff, Nat.reduceAdd, Nat.reduceMul, Nat.reduceSub, Nat.reduceMod, Nat.reduceDiv, Nat.reduceEqDiff, Int.reduceToNat, reduceIte, reduceCtorEq, Int.reduceLE, Int.reduceLT, Int.reduceEq, Int.reduceNeg, Int.reduceAdd, Int.reduceSub, Int.reduceMul, r1, b1, b3, b4, cellC_x, cellC_y]
      generalize hX : ((j % W : Nat) : Int) = X at *
      generalize hY : ((j / W : Nat) : Int) = Y at *
      generalize hDD : tbN share m W ⟨L, fun _ => 0, 0⟩ j = D at *
      have hw0 := (hD m (by omega)).good.wet Y X y0 y8 x0 x8
      have hv := stC_wet D.L m y0 y8 x0 x8
      have bw : m * 266 + 2 + Y.toNat * 8 + X.toNat ≤ D.L.length * 266 - 1 := by omega
      have bw1 : m * 266 + 2 + Y.toNat * 8 + X.toNat + 1 ≤ D.L.length * 266 := by omega
      have b1l : 1 ≤ D.L.length * 266 := by omega
      have hgS : hget (hset h i (stS D.L none)) i = some ⟨D.L.length * 266, stC D.L, true, none⟩ := hgi _
      refine T_draw hti _ _ (by kernel_rfl) (by kernel_rfl) ?_
      simp only [go_sem, Nat.reduceBEq, Nat.reduceLT, Nat.reduceLeDiff, Nat.reduceAdd, Nat.reduceMul, Nat.reduceSub, Nat.reduceMod, Nat.reduceDiv, Nat.reduceEqDiff, Int.reduceToNat, reduceIte, reduceCtorEq, Int.reduceLE, Int.reduceLT, Int.reduceEq, Int.reduceNeg, Int.reduceAdd, Int.reduceSub, Int.reduceMul, hgS, hi, x0, x8, y0, y8, hv, bw, bw1, b1l, w64 (n := (D.L.getD m sh0).wet Y X) (by omega)]
      by_cases hw : (D.L.getD m sh0).wet Y X = 0
      · have hD' : tbC share m X Y D = D := by unfold tbC; rw [if_pos hw]
        simp only [go_sem, Nat.reduceBEq, Nat.reduceLT, Nat.reduceLeDiff, Nat.reduceAdd, Nat.reduceMul, Nat.reduceSub, Nat.reduceMod, Nat.reduceDiv, Nat.reduceEqDiff, Int.reduceToNat, reduceIte, reduceCtorEq, Int.reduceLE, Int.reduceLT, Int.reduceEq, Int.reduceNeg, Int.reduceAdd, Int.reduceSub, Int.reduceMul, hw]
        refine ⟨⟨j + 1, by omega⟩, by show H * W - (j + 1) < H * W - j; omega, ?_⟩
        rw [hsucc, hD']
        refine Imp.id (by simp) ?_ ?_
        · simp only [go_sem, Nat.reduceBEq, Nat.reduceLT, Nat.reduceLeDiff, Nat.reduceAdd, Nat.reduceMul, Nat.reduceSub, Nat.reduceMod, Nat.reduceDiv, Nat.reduceEqDiff, Int.reduceToNat, reduceIte, reduceCtorEq, Int.reduceLE, Int.reduceLT, Int.reduceEq, Int.reduceNeg, Int.reduceAdd, Int.reduceSub, Int.reduceMul, w64 (n := (j : Int) + 1) (by omega), Int.natCast_add, Int.natCast_one]
          omega
        · (repeat (refine impH.cons0 (by first | (simp only [go_sem, Nat.reduceBEq, Nat.reduceLT, Nat.reduceLeDiff, Nat.reduceAdd, Nat.reduceMul, Nat.reduceSub, Nat.reduceMod, Nat.reduceDiv, Nat.reduceEqDiff, Int.reduceToNat, reduceIte, reduceCtorEq, Int.reduceLE, Int.reduceLT, Int.reduceEq, Int.reduceNeg, Int.reduceAdd, Int.reduceSub, Int.reduceMul, hget_hset_self]; done) | (simp only [go_sem, Nat.reduceBEq, Nat.reduceLT, Nat.reduceLeDiff, Nat.reduceAdd, Nat.reduceMul, Nat.reduceSub, Nat.reduceMod, Nat.reduceDiv, Nat.reduceEqDiff, Int.reduceToNat, reduceIte, reduceCtorEq, Int.reduceLE, Int.reduceLT, Int.reduceEq, Int.reduceNeg, Int.reduceAdd, Int.reduceSub, Int.reduceMul, hget_hset_self]; rfl)) (by simp) ?_ ?_; · exact SegLe.flat (Nat.le_refl _) id (by first | exact .inr rfl | exact .inl rfl) fun z hz => ⟨by first | rfl | exact dC_zero hz | exact dC_cl (by rfl) (by rfl) (by rfl) hz, by first | exact shC_flat _ _ | exact brC_flat _ hz | exact pair_flat _ _ hz | exact cellC_flat _ _ | exact dC_flat _ _ | exact stC_flat _ _ | exact cl_flat (l := [_, _, _, _, _]) (by simp [SV.flat]) hz | exact cl_flat (l := [_, _, _]) (by simp [SV.flat]) hz | trivial⟩)); exact impH.base0 (by first | exact hok | exact hok_set hok (fun k hk => stC_flat _ _) | exact hok_set hok (fun k hk => shC_flat _ _)) (by simp) (by first | (simp only [go_sem, Nat.reduceBEq, Nat.reduceLT, Nat.reduceLeDiff, Nat.reduceAdd, Nat.reduceMul, Nat.reduceSub, Nat.reduceMod, Nat.reduceDiv, Nat.reduceEqDiff, Int.reduceToNat, reduceIte, reduceCtorEq, Int.reduceLE, Int.reduceLT, Int.reduceEq, Int.reduceNeg, Int.reduceAdd, Int.reduceSub, Int.reduceMul, HExt_cons]; done) | (simp only [go_sem, Nat.reduceBEq, Nat.reduceLT, Nat.reduceLeDiff, Nat.reduceAdd, Nat.reduceMul, Nat.reduceSub, Nat.reduceMod, Nat.reduceDiv, Nat.reduceEqDiff, Int.reduceToNat, reduceIte, reduceCtorEq, Int.reduceLE, Int.reduceLT, Int.reduceEq, Int.reduceNeg, Int.reduceAdd, Int.reduceSub, Int.reduceMul, HExt_cons]; exact HExt.rfl))
      simp only [go_sem, Nat.reduceBEq, Nat.reduceLT, Nat.reduceLeDiff, Nat.reduceAdd, Nat.reduceMul, Nat.reduceSub, Nat.reduceMod, Nat.reduceDiv, Nat.reduceEqDiff, Int.reduceToNat, reduceIte, reduceCtorEq, Int.reduceLE, Int.reduceLT, Int.reduceEq, Int.reduceNeg, Int.reduceAdd, Int.reduceSub, Int.reduceMul, hw]
      have hC3 : tbC share m X Y D = tbW share m X Y (tbKs share m X Y D 3) := by unfold tbC; rw [if_neg hw]
      refine T_lp (ι := { q : Nat // q ≤ 3 })
        (fun q => ([(0, .ptr i (m * 266)), (1, .int .i64 share), (4, .ptr n 0), (6, .ptr (n + 1) 0), (7, .int .i64 D.w), (8, .sl (n + 2) 0 (H * W) cap), (9, .int .i64 j), (10, .ptr (n + 3) 0), (11, .int .i64 ((D.L.getD m sh0).wet Y X)), (12, .int .i64 q.1)],
          (n + 3, ⟨2, cl [.int .i8 X, .int .i8 Y], true, none⟩) :: (n + 2, ⟨H * W * 2, cellC W, true, none⟩) :: (n + 1, ⟨3, dC (tbKs share m X Y D q.1).d, true, none⟩) :: (n, ⟨3, cl [.int .i64 0, .int .i64 0, .int .i64 0], true, none⟩) :: hset h i (stS (tbKs share m X Y D q.1).L none), n + 4)) (fun q => 3 - q.1) ⟨0, by omega⟩ ?_ ?_
      · refine Imp.id (by simp) ?_ ?_
        · simp only [go_sem, Nat.reduceBEq, Nat.reduceLT, Nat.reduceLeDiff, Nat.reduceAdd, Nat.reduceMul, Nat.reduceSub, Nat.reduceMod, Nat.reduceDiv, Nat.reduceEqDiff, Int.reduceToNat, reduceIte, reduceCtorEq, Int.reduceLE, Int.reduceLT, Int.reduceEq, Int.reduceNeg, Int.reduceAdd, Int.reduceSub, Int.reduceMul]
          omega
        · (repeat (refine impH.cons0 (by first | (simp only [go_sem, Nat.reduceBEq, Nat.reduceLT, Nat.reduceLeDiff, Nat.reduceAdd, Nat.reduceMul, Nat.reduceSub, Nat.reduceMod, Nat.reduceDiv, Nat.reduceEqDiff, Int.reduceToNat, reduceIte, reduceCtorEq, Int.reduceLE, Int.reduceLT, Int.reduceEq, Int.reduceNeg, Int.reduceAdd, Int.reduceSub, Int.reduceMul, hget_hset_self]; done) | (simp only [go_sem, Nat.reduceBEq, Nat.reduceLT, Nat.reduceLeDiff, Nat.reduceAdd, Nat.reduceMul, Nat.reduceSub, Nat.reduceMod, Nat.reduceDiv, Nat.reduceEqDiff, Int.reduceToNat, reduceIte, reduceCtorEq, Int.reduceLE, Int.reduceLT, Int.reduceEq, Int.reduceNeg, Int.reduceAdd, Int.reduceSub, Int.reduceMul, hget_hset_self]; rfl)) (by simp) ?_ ?_; · exact SegLe.flat (Nat.le_refl _) id (by first | exact .inr rfl | exact .inl rfl) fun z hz => ⟨by first | rfl | exact dC_zero hz | exact dC_cl (by rfl) (by rfl) (by rfl) hz, by first | exact shC_flat _ _ | exact brC_flat _ hz | exact pair_flat _ _ hz | exact cellC_flat _ _ | exact dC_flat _ _ | exact stC_flat _ _ | exact cl_flat (l := [_, _, _, _, _]) (by simp [SV.flat]) hz | exact cl_flat (l := [_, _, _]) (by simp [SV.flat]) hz | trivial⟩)); exact impH.base0 (by first | exact hok | exact hok_set hok (fun k hk => stC_flat _ _) | exact hok_set hok (fun k hk => shC_flat _ _)) (by simp) (by first | (simp only [go_sem, Nat.reduceBEq, Nat.reduceLT, Nat.reduceLeDiff, Nat.reduceAdd, Nat.reduceMul, Nat.reduceSub, Nat.reduceMod, Nat.reduceDiv, Nat.reduceEqDiff, Int.reduceToNat, reduceIte, reduceCtorEq, Int.reduceLE, Int.reduceLT, Int.reduceEq, Int.reduceNeg, Int.reduceAdd, Int.reduceSub, Int.reduceMul, HExt_cons]; done) | (simp only [go_sem, Nat.reduceBEq, Nat.reduceLT, Nat.reduceLeDiff, Nat.reduceAdd, Nat.reduceMul, Nat.reduceSub, Nat.reduceMod, Nat.reduceDiv, Nat.reduceEqDiff, Int.reduceToNat, reduceIte, reduceCtorEq, Int.reduceLE, Int.reduceLT, Int.reduceEq, Int.reduceNeg, Int.reduceAdd, Int.reduceSub, Int.reduceMul, HExt_cons]; exact HExt.rfl))
      · rintro ⟨q, hq⟩
        obtain ⟨k1, k2, k3⟩ := tbKs_ok hsh x0 x8 y0 y8 hD (i := m) (by omega) q hq
        have hw' : (tbKs share m X Y D q).w = D.w := by
          clear hq k1 k2 k3
          induction q with
          | zero => rfl
          | succ q ih => exact ih
        simp only [go_sem, Nat.reduceBEq, Nat.reduceLT, Nat.reduceLeDiff, Nat.reduceAdd, Nat.reduceMul, Nat.reduceSub, Nat.reduceMod, Nat.reduceDiv, Nat.reduceEqDiff, Int.reduceToNat, reduceIte, reduceCtorEq, Int.reduceLE, Int.reduceLT, Int.reduceEq, Int.reduceNeg, Int.reduceAdd, Int.reduceSub, Int.reduceMul, hi, decide_eq_true_eq, decide_eq_false_iff_not]
        refine ⟨fun h2 => ?_, fun h2 => ?_⟩
        · have hq3 : q < 3 := by omega
          have q0 : (0 : Int) ≤ q ∧ (q : Int) < 3 := ⟨by omega, h2⟩
          have hsuq : tbKs share m X Y D (q + 1) = tbK share m X Y (tbKs share m X Y D q) q := rfl
          generalize hE : tbKs share m X Y D q = E at *
          have hv := stC_dye E.L m q y0 y8 x0 x8 hq3
          have hr := (k1 m (by omega)).good.dye Y X q y0 y8 x0 x8 (by omega) (by omega)
          have hmem := tbK_mem (share := share) y0 y8 x0 x8 (S := E) (i := m) (by omega) hq3
          simp only [stS_n, stS_c, stS_own] at hmem
          obtain ⟨m0, m1, m2, m3⟩ := giveQ_in hr hsh
          have c1 : m * 266 + 66 + Y.toNat * 24 + X.toNat * 3 + q ≤ E.L.length * 266 - 1 := by omega
          have c2 : m * 266 + 66 + Y.toNat * 24 + X.toNat * 3 + q + 1 ≤ E.L.length * 266 := by omega
          have c5 : 1 ≤ E.L.length * 266 := by omega
          have c6 : (1 = E.L.length * 266) = False := eq_false (by omega)
          have c7 : q ≤ 2 := by omega
          have c8 : q + 1 ≤ 3 := by omega
          have hgE : hget (hset h i (stS E.L none)) i = some ⟨E.L.length * 266, stC E.L, true, none⟩ := hgi _
          have eq : ((E.L.getD m sh0).dye Y X q * share).tdiv 16 = giveQ ((E.L.getD m sh0).dye Y X q) share := rfl
          refine T_draw hti _ _ (by kernel_rfl) (by kernel_rfl) ?_
          simp only [go_sem, Nat.reduceBEq, Nat.reduceLT, Nat.reduceLeDiff, Nat.reduceAdd, Nat.reduceMul, Nat.reduceSub, Nat.reduceMod, Nat.reduceDiv, Nat.reduceEqDiff, Int.reduceToNat, reduceIte, reduceCtorEq, Int.reduceLE, Int.reduceLT, Int.reduceEq, Int.reduceNeg, Int.reduceAdd, Int.reduceSub, Int.reduceMul, hgE, hi, x0, x8, y0, y8, q0, hv, c1, c2, c5, c6, eq, w64 (n := (E.L.getD m sh0).dye Y X q) (by omega), w64 (n := (E.L.getD m sh0).dye Y X q * share) (by omega), w64 (n := giveQ ((E.L.getD m sh0).dye Y X q) share) (by omega)]
          refine T_drawT hti 20 _ _ (by kernel_rfl) (by kernel_rfl) ?_
          simp only [go_sem, Nat.reduceBEq, Nat.reduceLT, Nat.reduceLeDiff, Nat.reduceAdd, Nat.reduceMul, Nat.reduceSub, Nat.reduceMod, Nat.reduceDiv, Nat.reduceEqDiff, Int.reduceToNat, reduceIte, reduceCtorEq, Int.reduceLE, Int.reduceLT, Int.reduceEq, Int.reduceNeg, Int.reduceAdd, Int.reduceSub, Int.reduceMul, hgE, hi, x0, x8, y0, y8, q0, hv, c1, c2, c5, c6, c7, c8, and_false, if_false, w16 (n := giveQ ((E.L.getD m sh0).dye Y X q) share) (by omega), w16 (n := (E.L.getD m sh0).dye Y X q - giveQ ((E.L.getD m sh0).dye Y X q) share) (by omega)]
          rw [hmem, dC_upd]
          refine ⟨⟨q + 1, by omega⟩, by show 3 - (q + 1) < 3 - q; omega, ?_⟩
          rw [hsuq]
          refine Imp.id (by simp) ?_ ?_
          · simp only [go_sem, Nat.reduceBEq, Nat.reduceLT, Nat.reduceLeDiff, Nat.reduceAdd, Nat.reduceMul, Nat.reduceSub, Nat.reduceMod, Nat.reduceDiv, Nat.reduceEqDiff, Int.reduceToNat, reduceIte, reduceCtorEq, Int.reduceLE, Int.reduceLT, Int.reduceEq, Int.reduceNeg, Int.reduceAdd, Int.reduceSub, Int.reduceMul, w64 (n := (q : Int) + 1) (by omega), Int.natCast_add, Int.natCast_one]
            omega
          · (repeat (refine impH.cons0 (by first | (simp only [go_sem, Nat.reduceBEq, Nat.reduceLT, Nat.reduceLeDiff, Nat.reduceAdd, Nat.reduceMul, Nat.reduceSub, Nat.reduceMod, Nat.reduceDiv, Nat.reduceEqDiff, Int.reduceToNat, reduceIte, reduceCtorEq, Int.reduceLE, Int.reduceLT, Int.reduceEq, Int.reduceNeg, Int.reduceAdd, Int.reduceSub, Int.reduceMul, hget_hset_self]; done) | (simp only [go_sem, Nat.reduceBEq, Nat.reduceLT, Nat.reduceLeDiff, Nat.reduceAdd, Nat.reduceMul, Nat.reduceSub, Nat.reduceMod, Nat.reduceDiv, Nat.reduceEqDiff, Int.reduceToNat, reduceIte, reduceCtorEq, Int.reduceLE, Int.reduceLT, Int.reduceEq, Int.reduceNeg, Int.reduceAdd, Int.reduceSub, Int.reduceMul, hget_hset_self]; rfl)) (by simp) ?_ ?_; · exact SegLe.flat (Nat.le_refl _) id (by first | exact .inr rfl | exact .inl rfl) fun z hz => ⟨by first | rfl | exact dC_zero hz | exact dC_cl (by rfl) (by rfl) (by rfl) hz, by first | exact shC_flat _ _ | exact brC_flat _ hz | exact pair_flat _ _ hz | exact cellC_flat _ _ | exact dC_flat _ _ | exact stC_flat _ _ | exact cl_flat (l := [_, _, _, _, _]) (by simp [SV.flat]) hz | exact cl_flat (l := [_, _, _]) (by simp [SV.flat]) hz | trivial⟩)); exact impH.base0 (by first | exact hok | exact hok_set hok (fun k hk => stC_flat _ _) | exact hok_set hok (fun k hk => shC_flat _ _)) (by simp) (by first | (simp only [go_sem, Nat.reduceBEq, Nat.reduceLT, Nat.reduceLeDiff, Nat.reduceAdd, Nat.reduceMul, Nat.reduceSub, Nat.reduceMod, Nat.reduceDiv, Nat.reduceEqDiff, Int.reduceToNat, reduceIte, reduceCtorEq, Int.reduceLE, Int.reduceLT, Int.reduceEq, Int.reduceNeg, Int.reduceAdd, Int.reduceSub, Int.reduceMul, HExt_cons]; done) | (simp only [go_sem, Nat.reduceBEq, Nat.reduceLT, Nat.reduceLeDiff, Nat.reduceAdd, Nat.reduceMul, Nat.reduceSub, Nat.reduceMod, Nat.reduceDiv, Nat.reduceEqDiff, Int.reduceToNat, reduceIte, reduceCtorEq, Int.reduceLE, Int.reduceLT, Int.reduceEq, Int.reduceNeg, Int.reduceAdd, Int.reduceSub, Int.reduceMul, HExt_cons]; exact HExt.rfl))
        · have hq3 : q = 3 := by omega
          subst hq3
          generalize hE : tbKs share m X Y D 3 = E at *
          have hv := stC_wet E.L m y0 y8 x0 x8
          have hr := (k1 m (by omega)).good.wet Y X y0 y8 x0 x8
          have hmem := tbW_mem (share := share) y0 y8 x0 x8 (S := E) (i := m) (by omega)
          simp only [stS_n, stS_c, stS_own] at hmem
          obtain ⟨m0, m1, m2, m3⟩ := giveQ_in (v := (E.L.getD m sh0).wet Y X) (by omega) hsh
          have c1 : m * 266 + 2 + Y.toNat * 8 + X.toNat ≤ E.L.length * 266 - 1 := by omega
          have c2 : m * 266 + 2 + Y.toNat * 8 + X.toNat + 1 ≤ E.L.length * 266 := by omega
          have c5 : 1 ≤ E.L.length * 266 := by omega
          have c6 : (1 = E.L.length * 266) = False := eq_false (by omega)
          have hgE : hget (hset h i (stS E.L none)) i = some ⟨E.L.length * 266, stC E.L, true, none⟩ := hgi _
          have eq : ((E.L.getD m sh0).wet Y X * share).tdiv 16 = giveQ ((E.L.getD m sh0).wet Y X) share := rfl
          have e7 : IntKind.i64.wrap (D.w + giveQ ((E.L.getD m sh0).wet Y X) share) = (tbW share m X Y E).w := by rw [← hw']; rfl
          rw [← k3]
          refine T_drawT hti 20 _ _ (by kernel_rfl) (by kernel_rfl) ?_
          simp only [go_sem, Nat.reduceBEq, Nat.reduceLT, Nat.reduceLeDiff, Nat.reduceAdd, Nat.reduceMul, Nat.reduceSub, Nat.reduceMod, Nat.reduceDiv, Nat.reduceEqDiff, Int.reduceToNat, reduceIte, reduceCtorEq, Int.reduceLE, Int.reduceLT, Int.reduceEq, Int.reduceNeg, Int.reduceAdd, Int.reduceSub, Int.reduceMul, hgE, hi, x0, x8, y0, y8, hv, c1, c2, c5, c6, eq, and_false, if_false, w64 (n := (E.L.getD m sh0).wet Y X * share) (by omega), w64 (n := giveQ ((E.L.getD m sh0).wet Y X) share) (by omega), w16 (n := giveQ ((E.L.getD m sh0).wet Y X) share) (by omega), w16 (n := (E.L.getD m sh0).wet Y X - giveQ ((E.L.getD m sh0).wet Y X) share) (by omega), e7]
          rw [hmem]
          refine ⟨⟨j + 1, by omega⟩, by show H * W - (j + 1) < H * W - j; omega, ?_⟩
          rw [hsucc, hC3]
          refine Imp.id (by simp) ?_ ?_
          · simp only [go_sem, Nat.reduceBEq, Nat.reduceLT, Nat.reduceLeDiff, Nat.reduceAdd, Nat.reduceMul, Nat.reduceSub, Nat.reduceMod, Nat.reduceDiv, Nat.reduceEqDiff, Int.reduceToNat, reduceIte, reduceCtorEq, Int.reduceLE, Int.reduceLT, Int.reduceEq, Int.reduceNeg, Int.reduceAdd, Int.reduceSub, Int.reduceMul, w64 (n := (j : Int) + 1) (by omega), Int.natCast_add, Int.natCast_one]
            omega
          · (repeat (refine impH.cons0 (by first | (simp only [go_sem, Nat.reduceBEq, Nat.reduceLT, Nat.reduceLeDiff, Nat.reduceAdd, Nat.reduceMul, Nat.reduceSub, Nat.reduceMod, Nat.reduceDiv, Nat.reduceEqDiff, Int.reduceToNat, reduceIte, reduceCtorEq, Int.reduceLE, Int.reduceLT, Int.reduceEq, Int.reduceNeg, Int.reduceAdd, Int.reduceSub, Int.reduceMul, hget_hset_self]; done) | (simp only [go_sem, Nat.reduceBEq, Nat.reduceLT, Nat.reduceLeDiff, Nat.reduceAdd, Nat.reduceMul, Nat.reduceSub, Nat.reduceMod, Nat.reduceDiv, Nat.reduceEqDiff, Int.reduceToNat, reduceIte, reduceCtorEq, Int.reduceLE, Int.reduceLT, Int.reduceEq, Int.reduceNeg, Int.reduceAdd, Int.reduceSub, Int.reduceMul, hget_hset_self]; rfl)) (by simp) ?_ ?_; · exact SegLe.flat (Nat.le_refl _) id (by first | exact .inr rfl | exact .inl rfl) fun z hz => ⟨by first | rfl | exact dC_zero hz | exact dC_cl (by rfl) (by rfl) (by rfl) hz, by first | exact shC_flat _ _ | exact brC_flat _ hz | exact pair_flat _ _ hz | exact cellC_flat _ _ | exact dC_flat _ _ | exact stC_flat _ _ | exact cl_flat (l := [_, _, _, _, _]) (by simp [SV.flat]) hz | exact cl_flat (l := [_, _, _]) (by simp [SV.flat]) hz | trivial⟩)); exact impH.base0 (by first | exact hok | exact hok_set hok (fun k hk => stC_flat _ _) | exact hok_set hok (fun k hk => shC_flat _ _)) (by simp) (by first | (simp only [go_sem, Nat.reduceBEq, Nat.reduceLT, Nat.reduceLeDiff, Nat.reduceAdd, Nat.reduceMul, Nat.reduceSub, Nat.reduceMod, Nat.reduceDiv, Nat.reduceEqDiff, Int.reduceToNat, reduceIte, reduceCtorEq, Int.reduceLE, Int.reduceLT, Int.reduceEq, Int.reduceNeg, Int.reduceAdd, Int.reduceSub, Int.reduceMul, HExt_cons]; done) | (simp only [go_sem, Nat.reduceBEq, Nat.reduceLT, Nat.reduceLeDiff, Nat.reduceAdd, Nat.reduceMul, Nat.reduceSub, Nat.reduceMod, Nat.reduceDiv, Nat.reduceEqDiff, Int.reduceToNat, reduceIte, reduceCtorEq, Int.reduceLE, Int.reduceLT, Int.reduceEq, Int.reduceNeg, Int.reduceAdd, Int.reduceSub, Int.reduceMul, HExt_cons]; exact HExt.rfl))
    · have hj2 : j = H * W := by omega
      subst hj2
      exact ⟨rfl, HExt.rfl⟩
end
end Go.Proofs.Ytjepjeaecmioaaa.V

/- Passing down: the program's own walk. -/
namespace Go.Proofs.Ytjepjeaecmioaaa.V
section
variable (cx : Cx) (h : List (Nat × Seg)) (n : Nat)
theorem isWet_Q (i o : Nat) (s : Seg) (S : Sh) (x y : Int) (hs : hget h i = some s) (hi : i < n) (hS : ShAt s o S) (hx : 0 ≤ x) (hx8 : x < 8) (hy : 0 ≤ y) (hy8 : y < 8) :
    CallQ Try.prog cx 70 [.ptr i o, spot x y] h n (.bool (decide (0 < S.wet y x))) := by
  refine callQ_of_T (P := Try.prog) hti (nt := 9) (rs := [.tmp 4]) rfl rfl Try.call70 Try.func70 rfl _ (by simp only [go_sem, and_self]) (Nat.le_of_ble_eq_true rfl) _ (by first | exact trivial | (refine lt_flat rfl ?_; simp [SV.flat]; done) | simp only [go_sem]) fun hok => ?_
  simp only [go_sem, Nat.reduceBEq, Nat.reduceLT, Nat.reduceLeDiff, Nat.reduceAdd, Nat.reduceMul, Nat.reduceSub, Nat.reduceMod, Nat.reduceDiv, Nat.reduceEqDiff, Int.reduceToNat, reduceIte, reduceCtorEq, Int.reduceLE, Int.reduceLT, Int.reduceEq, Int.reduceNeg, Int.reduceAdd, Int.reduceSub, Int.reduceMul]
  refine (wet_Q _ _ _ i o s S x y (by simp only [go_sem, Nat.reduceBEq, Nat.reduceLT, Nat.reduceLeDiff, Nat.reduceAdd, Nat.reduceMul, Nat.reduceSub, Nat.reduceMod, Nat.reduceDiv, Nat.reduceEqDiff, Int.reduceToNat, reduceIte, reduceCtorEq, Int.reduceLE, Int.reduceLT, Int.reduceEq, Int.reduceNeg, Int.reduceAdd, Int.reduceSub, Int.reduceMul, hs, hi]) (by omega) hS hx hx8 hy hy8).A ?_
  simp only [go_sem, Nat.reduceBEq, Nat.reduceLT, Nat.reduceLeDiff, Nat.reduceAdd, Nat.reduceMul, Nat.reduceSub, Nat.reduceMod, Nat.reduceDiv, Nat.reduceEqDiff, Int.reduceToNat, reduceIte, reduceCtorEq, Int.reduceLE, Int.reduceLT, Int.reduceEq, Int.reduceNeg, Int.reduceAdd, Int.reduceSub, Int.reduceMul]
set_option maxRecDepth 100000 in
theorem pass_E (i cap0 : Nat) (L : List Sh) (W H : Nat) (share : Int) (hs : hget h i = some (stS L none)) (hi : i < n) (hG : PGood L W H) (hsh : 1 ≤ share ∧ share ≤ 15) (hm9 : L.length ≤ 10000000) (K : HK)
    (hK : K (.tup 2 (cl [.agg 3 (cl [.int .i64 ((passS share W H L).d 0), .int .i64 ((passS share W H L).d 1), .int .i64 ((passS share W H L).d 2)]), .int .i64 (passS share W H L).w])) (hset h i (stS (passS share W H L).L none)) n) :
    CallE Try.prog cx 35 [.sl i 0 L.length cap0, .int .i64 share] h n K := by
  refine CallE.to _ (hset h i (stS (passS share W H L).L none)) (by simp only [go_sem, Nat.reduceBEq, Nat.reduceLT, Nat.reduceLeDiff, Nat.reduceAdd, Nat.reduceMul, Nat.reduceSub, Nat.reduceMod, Nat.reduceDiv, Nat.reduceEqDiff, Int.reduceToNat, reduceIte, reduceCtorEq, Int.reduceLE, Int.reduceLT, Int.reduceEq, Int.reduceNeg, Int.reduceAdd, Int.reduceSub, Int.reduceMul]) (fun hok => hok_set hok fun k hk => stC_flat _ _) hK ?_
  refine callE_of_T (P := Try.prog) hti (nt := 135) (rs := [.cell 4 31, .tmp 5]) rfl rfl Try.call35 Try.func35 rfl _ (by simp only [go_sem, and_self]) (Nat.le_of_ble_eq_true rfl) _ fun hok => ?_
  simp only [go_sem, Nat.reduceBEq, Nat.reduceLT, Nat.reduceLeDiff, Nat.reduceAdd, Nat.reduceMul, Nat.reduceSub, Nat.reduceMod, Nat.reduceDiv, Nat.reduceEqDiff, Int.reduceToNat, reduceIte, reduceCtorEq, Int.reduceLE, Int.reduceLT, Int.reduceEq, Int.reduceNeg, Int.reduceAdd, Int.reduceSub, Int.reduceMul]
  have hgi : ∀ t, hget (hset h i t) i = some t := hget_hset_self hs
  refine T_lp (ι := { p : Nat × Pst // p.1 ≤ L.length ∧ PGood p.2.L W H ∧ p.2.L.length = L.length ∧ passS share W H L = (if p.1 = L.length then passS share W H p.2.L else ⟨passM share W H p.1 p.2.L, p.2.d, p.2.w⟩) ∧ (p.1 = L.length → p.2 = ⟨L, fun _ => 0, 0⟩) })
    (fun p => ([(0, .sl i 0 L.length cap0), (1, .int .i64 share), (4, .ptr n 0), (6, .ptr (n + 1) 0), (7, .int .i64 p.1.2.w), (8, .int .i64 ((p.1.1 : Int) - 1))],
      (n + 1, ⟨3, dC p.1.2.d, true, none⟩) :: (n, ⟨3, cl [.int .i64 0, .int .i64 0, .int .i64 0], true, none⟩) :: hset h i (stS p.1.2.L none), n + 2)) (fun p => p.1.1) ⟨(L.length, ⟨L, fun _ => 0, 0⟩), by simp, hG, rfl, by simp, fun _ => rfl⟩ ?_ ?_
  · refine Imp.id (by simp) ?_ ?_
    · simp only [go_sem, Nat.reduceBEq, Nat.reduceLT, Nat.reduceLeDiff, Nat.reduceAdd, Nat.reduceMul, Nat.reduceSub, Nat.reduceMod, Nat.reduceDiv, Nat.reduceEqDiff, Int.reduceToNat, reduceIte, reduceCtorEq, Int.reduceLE, Int.reduceLT, Int.reduceEq, Int.reduceNeg, Int.reduceAdd, Int.reduceSub, Int.reduceMul, w64 (n := (L.length : Int) - 1) (by omega)]
      omega
    · rw [hset_self hs]
      (repeat (refine impH.cons0 (by first | (simp only [go_sem, Nat.reduceBEq, Nat.reduceLT, Nat.reduceLeDiff, Nat.reduceAdd, Nat.reduceMul, Nat.reduceSub, Nat.reduceMod, Nat.reduceDiv, Nat.reduceEqDiff, Int.reduceToNat, reduceIte, reduceCtorEq, Int.reduceLE, Int.reduceLT, Int.reduceEq, Int.reduceNeg, Int.reduceAdd, Int.reduceSub, Int.reduceMul, hget_hset_self]; done) | (simp only [go_sem, Nat.reduceBEq, Nat.reduceLT, Nat.reduceLeDiff, Nat.reduceAdd, Nat.reduceMul, Nat.reduceSub, Nat.reduceMod, Nat.reduceDiv, Nat.reduceEqDiff, Int.reduceToNat, reduceIte, reduceCtorEq, Int.reduceLE, Int.reduceLT, Int.reduceEq, Int.reduceNeg, Int.reduceAdd, Int.reduceSub, Int.reduceMul, hget_hset_self]; rfl)) (by simp) ?_ ?_; · exact SegLe.flat (Nat.le_refl _) id (by first | exact .inr rfl | exact .inl rfl) fun z hz => ⟨by first | rfl | exact dC_zero hz | exact dC_cl (by rfl) (by rfl) (by rfl) hz, by first | exact shC_flat _ _ | exact brC_flat _ hz | exact pair_flat _ _ hz | exact cellC_flat _ _ | exact dC_flat _ _ | exact stC_flat _ _ | exact cl_flat (l := [_, _, _, _, _]) (by simp [SV.flat]) hz | exact cl_flat (l := [_, _, _]) (by simp [SV.flat]) hz | trivial⟩)); exact impH.base0 (by first | exact hok | exact hok_set hok (fun k hk => stC_flat _ _) | exact hok_set hok (fun k hk => shC_flat _ _)) (by simp) (by first | (simp only [go_sem, Nat.reduceBEq, Nat.reduceLT, Nat.reduceLeDiff, Nat.reduceAdd, Nat.reduceMul, Nat.reduceSub, Nat.reduceMod, Nat.reduceDiv, Nat.reduceEqDiff, Int.reduceToNat, reduceIte, reduceCtorEq, Int.reduceLE, Int.reduceLT, Int.reduceEq, Int.reduceNeg, Int.reduceAdd, Int.reduceSub, Int.reduceMul, HExt_cons]; done) | (simp only [go_sem, Nat.reduceBEq, Nat.reduceLT, Nat.reduceLeDiff, Nat.reduceAdd, Nat.reduceMul, Nat.reduceSub, Nat.reduceMod, Nat.reduceDiv, Nat.reduceEqDiff, Int.reduceToNat, reduceIte, reduceCtorEq, Int.reduceLE, Int.reduceLT, Int.reduceEq, Int.reduceNeg, Int.reduceAdd, Int.reduceSub, Int.reduceMul, HExt_cons]; exact HExt.rfl))
  · rintro ⟨⟨m, C⟩, hm, hC, hCl, hP, hC0⟩
    simp only at hm hC hCl hP hC0
    rcases m with _ | m
    · have hP' : passS share W H L = C := by
        by_cases hL0 : L = []
        · subst hL0
          rw [hC0 rfl]
          unfold passS
          rw [if_pos rfl]
        · have : L.length ≠ 0 := fun e => hL0 (List.length_eq_zero_iff.1 e)
          rw [if_neg (by omega)] at hP
          exact hP
      simp only [go_sem, Nat.reduceBEq, Nat.reduceLT, Nat.reduceLeDiff, Nat.reduceAdd, Nat.reduceMul, Nat.reduceSub, Nat.reduceMod, Nat.reduceDiv, Nat.reduceEqDiff, Int.reduceToNat, reduceIte, reduceCtorEq, Int.reduceLE, Int.reduceLT, Int.reduceEq, Int.reduceNeg, Int.reduceAdd, Int.reduceSub, Int.reduceMul, hgi, hP', show ¬ ((0 : Nat) : Int) - 1 ≥ 0 by omega, show ¬ (0 : Int) ≤ ((0 : Nat) : Int) - 1 by omega]
    obtain ⟨hsm, hW8, hH8, hWH2⟩ := hC.sides (by omega)
    have hS := shAt_stS (own := none) (i := m) (by omega) (hC m (by omega)).R
    have r1 : (0 : Int) ≤ m ∧ (m : Int) < L.length := ⟨by omega, by omega⟩
    have b1 : m * 266 ≤ C.L.length * 266 - 266 := by omega
    have b2 : 266 ≤ C.L.length * 266 := by omega
    have r0 : (0 : Int) ≤ m := by omega
    simp only [go_sem, Nat.reduceBEq, Nat.reduceLT, Nat.reduceLeDiff, Nat.reduceAdd, Nat.reduceMul, Nat.reduceSub, Nat.reduceMod, Nat.reduceDiv, Nat.reduceEqDiff, Int.reduceToNat, reduceIte, reduceCtorEq, Int.reduceLE, Int.reduceLT, Int.reduceEq, Int.reduceNeg, Int.reduceAdd, Int.reduceSub, Int.reduceMul, hgi, Int.natCast_add, Int.natCast_one, Int.add_sub_cancel, r1, r0]
    refine callA_false (cells_E _ _ _ i (m * 266) _ (C.L.getD m sh0) W H (by first | (simp only [go_sem, Nat.reduceBEq, Nat.reduceLT, Nat.reduceLeDiff, Nat.reduceAdd, Nat.reduceMul, Nat.reduceSub, Nat.reduceMod, Nat.reduceDiv, Nat.reduceEqDiff, Int.reduceToNat, reduceIte, reduceCtorEq, Int.reduceLE, Int.reduceLT, Int.reduceEq, Int.reduceNeg, Int.reduceAdd, Int.reduceSub, Int.reduceMul, hgi, hi]; done) | (simp only [go_sem, Nat.reduceBEq, Nat.reduceLT, Nat.reduceLeDiff, Nat.reduceAdd, Nat.reduceMul, Nat.reduceSub, Nat.reduceMod, Nat.reduceDiv, Nat.reduceEqDiff, Int.reduceToNat, reduceIte, reduceCtorEq, Int.reduceLE, Int.reduceLT, Int.reduceEq, Int.reduceNeg, Int.reduceAdd, Int.reduceSub, Int.reduceMul, hgi, hi]; rfl)) (by omega) hS (hC m (by omega)).wide (hC m (by omega)).high hW8 hH8 _ fun cap hc1 hc2 => ?_)
    simp only [go_sem, Nat.reduceBEq, Nat.reduceLT, Nat.reduceLeDiff, Nat.reduceAdd, Nat.reduceMul, Nat.reduceSub, Nat.reduceMod, Nat.reduceDiv, Nat.reduceEqDiff, Int.reduceToNat, reduceIte, reduceCtorEq, Int.reduceLE, Int.reduceLT, Int.reduceEq, Int.reduceNeg, Int.reduceAdd, Int.reduceSub, Int.reduceMul]
    refine T_lp (ι := { q : Nat × Pst // q.1 ≤ H * W ∧ PGood q.2.L W H ∧ q.2.L.length = L.length ∧ q.2 = (if m + 1 = L.length then tbN share m W C q.1 else ⟨gvN share m W C.L q.1, C.d, C.w⟩) })
      (fun q => ([(0, .sl i 0 L.length cap0), (1, .int .i64 share), (4, .ptr n 0), (6, .ptr (n + 1) 0), (7, .int .i64 q.1.2.w), (8, .int .i64 (m : Int)), (9, .ptr i (m * 266)), (27, .sl (n + 2) 0 (H * W) cap), (28, .int .i64 ((H * W : Nat) : Int)), (29, .int .i64 q.1.1)],
        (n + 2, ⟨H * W * 2, cellC W, true, none⟩) :: (n + 1, ⟨3, dC q.1.2.d, true, none⟩) :: (n, ⟨3, cl [.int .i64 0, .int .i64 0, .int .i64 0], true, none⟩) :: hset h i (stS q.1.2.L none), n + 3)) (fun q => H * W - q.1.1) ⟨(0, C), Nat.zero_le _, hC, hCl, by split <;> rfl⟩ ?_ ?_
    · refine Imp.id (by simp) ?_ ?_
      · simp only [go_sem, Nat.reduceBEq, Nat.reduceLT, Nat.reduceLeDiff, Nat.reduceAdd, Nat.reduceMul, Nat.reduceSub, Nat.reduceMod, Nat.reduceDiv, Nat.reduceEqDiff, Int.reduceToNat, reduceIte, reduceCtorEq, Int.reduceLE, Int.reduceLT, Int.reduceEq, Int.reduceNeg, Int.reduceAdd, Int.reduceSub, Int.reduceMul]
        omega
      · (repeat (refine impH.cons0 (by first | (simp only [go_sem, Nat.reduceBEq, Nat.reduceLT, Nat.reduceLeDiff, Nat.reduceAdd, Nat.reduceMul, Nat.reduceSub, Nat.reduceMod, Nat.reduceDiv, Nat.reduceEqDiff, Int.reduceToNat, reduceIte, reduceCtorEq, Int.reduceLE, Int.reduceLT, Int.reduceEq, Int.reduceNeg, Int.reduceAdd, Int.reduceSub, Int.reduceMul, hget_hset_self]; done) | (simp only [go_sem, Nat.reduceBEq, Nat.reduceLT, Nat.reduceLeDiff, Nat.reduceAdd, Nat.reduceMul, Nat.reduceSub, Nat.reduceMod, Nat.reduceDiv, Nat.reduceEqDiff, Int.reduceToNat, reduceIte, reduceCtorEq, Int.reduceLE, Int.reduceLT, Int.reduceEq, Int.reduceNeg, Int.reduceAdd, Int.reduceSub, Int.reduceMul, hget_hset_self]; rfl)) (by simp) ?_ ?_; · exact SegLe.flat (Nat.le_refl _) id (by first | exact .inr rfl | exact .inl rfl) fun z hz => ⟨by first | rfl | exact dC_zero hz | exact dC_cl (by rfl) (by rfl) (by rfl) hz, by first | exact shC_flat _ _ | exact brC_flat _ hz | exact pair_flat _ _ hz | exact cellC_flat _ _ | exact dC_flat _ _ | exact stC_flat _ _ | exact cl_flat (l := [_, _, _, _, _]) (by simp [SV.flat]) hz | exact cl_flat (l := [_, _, _]) (by simp [SV.flat]) hz | trivial⟩)); exact impH.base0 (by first | exact hok | exact hok_set hok (fun k hk => stC_flat _ _) | exact hok_set hok (fun k hk => shC_flat _ _)) (by simp) (by first | (simp only [go_sem, Nat.reduceBEq, Nat.reduceLT, Nat.reduceLeDiff, Nat.reduceAdd, Nat.reduceMul, Nat.reduceSub, Nat.reduceMod, Nat.reduceDiv, Nat.reduceEqDiff, Int.reduceToNat, reduceIte, reduceCtorEq, Int.reduceLE, Int.reduceLT, Int.reduceEq, Int.reduceNeg, Int.reduceAdd, Int.reduceSub, Int.reduceMul, HExt_cons]; done) | (simp only [go_sem, Nat.reduceBEq, Nat.reduceLT, Nat.reduceLeDiff, Nat.reduceAdd, Nat.reduceMul, Nat.reduceSub, Nat.reduceMod, Nat.reduceDiv, Nat.reduceEqDiff, Int.reduceToNat, reduceIte, reduceCtorEq, Int.reduceLE, Int.reduceLT, Int.reduceEq, Int.reduceNeg, Int.reduceAdd, Int.reduceSub, Int.reduceMul, HExt_cons]; exact HExt.rfl))
    · rintro ⟨⟨j, D⟩, hj, hD, hDl, hDe⟩
      simp only at hj hD hDl hDe
      have hSj := shAt_stS (own := none) (i := m) (by omega) (hD m (by omega)).R
      simp only [go_sem, Nat.reduceBEq, Nat.reduceLT, Nat.reduceLeDiff, Nat.reduceAdd, Nat.reduceMul, Nat.reduceSub, Nat.reduceMod, Nat.reduceDiv, Nat.reduceEqDiff, Int.reduceToNat, reduceIte, reduceCtorEq, Int.reduceLE, Int.reduceLT, Int.reduceEq, Int.reduceNeg, Int.reduceAdd, Int.reduceSub, Int.reduceMul, hgi, hi, cellC_x, cellC_y, decide_eq_true_eq, decide_eq_false_iff_not]
      refine ⟨fun h1 => ⟨⟨by omega, h1⟩, by omega, ?_⟩, fun h1 => ?_⟩
      · obtain ⟨x0, x8, y0, y8⟩ := hD.cell (by omega) (j := j) (by omega)
        generalize hX : ((j % W : Nat) : Int) = X at *
        generalize hY : ((j / W : Nat) : Int) = Y at *
        refine (isWet_Q _ _ _ i (m * 266) _ (D.L.getD m sh0) X Y (by first | (simp only [go_sem, Nat.reduceBEq, Nat.reduceLT, Nat.reduceLeDiff, Nat.reduceAdd, Nat.reduceMul, Nat.reduceSub, Nat.reduceMod, Nat.reduceDiv, Nat.reduceEqDiff, Int.reduceToNat, reduceIte, reduceCtorEq, Int.reduceLE, Int.reduceLT, Int.reduceEq, Int.reduceNeg, Int.reduceAdd, Int.reduceSub, Int.reduceMul, hgi, hi]; done) | (simp only [go_sem, Nat.reduceBEq, Nat.reduceLT, Nat.reduceLeDiff, Nat.reduceAdd, Nat.reduceMul, Nat.reduceSub, Nat.reduceMod, Nat.reduceDiv, Nat.reduceEqDiff, Int.reduceToNat, reduceIte, reduceCtorEq, Int.reduceLE, Int.reduceLT, Int.reduceEq, Int.reduceNeg, Int.reduceAdd, Int.reduceSub, Int.reduceMul, hgi, hi]; rfl)) (by omega) hSj x0 x8 y0 y8).A ?_
        have hnext : ∀ D' : Pst, PGood D'.L W H → D'.L.length = L.length → (m + 1 = L.length → D' = tbC share m X Y D) → (m + 1 ≠ L.length → D' = ⟨gvC share m X Y D.L, D.d, D.w⟩) →
            (D' = if m + 1 = L.length then tbN share m W C (j + 1) else ⟨gvN share m W C.L (j + 1), C.d, C.w⟩) := fun D' _ _ e1 e2 => by
          by_cases hl : m + 1 = L.length
          · rw [if_pos hl] at hDe ⊢
            rw [e1 hl, hDe]
            simp only [tbN, hX, hY]
          · rw [if_neg hl] at hDe ⊢
            rw [e2 hl, hDe]
            simp only [gvN, hX, hY]
        by_cases hw : (D.L.getD m sh0).wet Y X = 0
        · simp only [go_sem, Nat.reduceBEq, Nat.reduceLT, Nat.reduceLeDiff, Nat.reduceAdd, Nat.reduceMul, Nat.reduceSub, Nat.reduceMod, Nat.reduceDiv, Nat.reduceEqDiff, Int.reduceToNat, reduceIte, reduceCtorEq, Int.reduceLE, Int.reduceLT, Int.reduceEq, Int.reduceNeg, Int.reduceAdd, Int.reduceSub, Int.reduceMul, hw]
          refine ⟨⟨(j + 1, D), by show j + 1 ≤ H * W; omega, hD, hDl, hnext D hD hDl (fun _ => by unfold tbC; rw [if_pos hw]) (fun _ => by unfold gvC; rw [if_pos (.inl hw)])⟩, by show H * W - (j + 1) < H * W - j; omega, ?_⟩
          refine Imp.id (by simp) ?_ ?_
          · simp only [go_sem, Nat.reduceBEq, Nat.reduceLT, Nat.reduceLeDiff, Nat.reduceAdd, Nat.reduceMul, Nat.reduceSub, Nat.reduceMod, Nat.reduceDiv, Nat.reduceEqDiff, Int.reduceToNat, reduceIte, reduceCtorEq, Int.reduceLE, Int.reduceLT, Int.reduceEq, Int.reduceNeg, Int.reduceAdd, Int.reduceSub, Int.reduceMul, w64 (n := (j : Int) + 1) (by omega), Int.natCast_add, Int.natCast_one]
            omega
          · (repeat (refine impH.cons0 (by first | (simp only [go_sem, Nat.reduceBEq, Nat.reduceLT, Nat.reduceLeDiff, Nat.reduceAdd, Nat.reduceMul, Nat.reduceSub, Nat.reduceMod, Nat.reduceDiv, Nat.reduceEqDiff, Int.reduceToNat, reduceIte, reduceCtorEq, Int.reduceLE, Int.reduceLT, Int.reduceEq, Int.reduceNeg, Int.reduceAdd, Int.reduceSub, Int.reduceMul, hget_hset_self]; done) | (simp only [go_sem, Nat.reduceBEq, Nat.reduceLT, Nat.reduceLeDiff, Nat.reduceAdd, Nat.reduceMul, Nat.reduceSub, Nat.reduceMod, Nat.reduceDiv, Nat.reduceEqDiff, Int.reduceToNat, reduceIte, reduceCtorEq, Int.reduceLE, Int.reduceLT, Int.reduceEq, Int.reduceNeg, Int.reduceAdd, Int.reduceSub, Int.reduceMul, hget_hset_self]; rfl)) (by simp) ?_ ?_; · exact SegLe.flat (Nat.le_refl _) id (by first | exact .inr rfl | exact .inl rfl) fun z hz => ⟨by first | rfl | exact dC_zero hz | exact dC_cl (by rfl) (by rfl) (by rfl) hz, by first | exact shC_flat _ _ | exact brC_flat _ hz | exact pair_flat _ _ hz | exact cellC_flat _ _ | exact dC_flat _ _ | exact stC_flat _ _ | exact cl_flat (l := [_, _, _, _, _]) (by simp [SV.flat]) hz | exact cl_flat (l := [_, _, _]) (by simp [SV.flat]) hz | trivial⟩)); exact impH.base0 (by first | exact hok | exact hok_set hok (fun k hk => stC_flat _ _) | exact hok_set hok (fun k hk => shC_flat _ _)) (by simp) (by first | (simp only [go_sem, Nat.reduceBEq, Nat.reduceLT, Nat.reduceLeDiff, Nat.reduceAdd, Nat.reduceMul, Nat.reduceSub, Nat.reduceMod, Nat.reduceDiv, Nat.reduceEqDiff, Int.reduceToNat, reduceIte, reduceCtorEq, Int.reduceLE, Int.reduceLT, Int.reduceEq, Int.reduceNeg, Int.reduceAdd, Int.reduceSub, Int.reduceMul, HExt_cons]; done) | (simp only [go_sem, Nat.reduceBEq, Nat.reduceLT, Nat.reduceLeDiff, Nat.reduceAdd, Nat.reduceMul, Nat.reduceSub, Nat.reduceMod, Nat.reduceDiv, Nat.reduceEqDiff, Int.reduceToNat, reduceIte, reduceCtorEq, Int.reduceLE, Int.reduceLT, Int.reduceEq, Int.reduceNeg, Int.reduceAdd, Int.reduceSub, Int.reduceMul, HExt_cons]; exact HExt.rfl))
        have hw0 := (hD m (by omega)).good.wet Y X y0 y8 x0 x8
        have hw1 : 0 < (D.L.getD m sh0).wet Y X := by omega
        simp only [go_sem, Nat.reduceBEq, Nat.reduceLT, Nat.reduceLeDiff, Nat.reduceAdd, Nat.reduceMul, Nat.reduceSub, Nat.reduceMod, Nat.reduceDiv, Nat.reduceEqDiff, Int.reduceToNat, reduceIte, reduceCtorEq, Int.reduceLE, Int.reduceLT, Int.reduceEq, Int.reduceNeg, Int.reduceAdd, Int.reduceSub, Int.reduceMul, hw1]
        by_cases hl : m + 1 = L.length
        · have e1 : ((m : Int) = (L.length : Int) - 1) = True := eq_true (by omega)
          simp only [go_sem, Nat.reduceBEq, Nat.reduceLT, Nat.reduceLeDiff, Nat.reduceAdd, Nat.reduceMul, Nat.reduceSub, Nat.reduceMod, Nat.reduceDiv, Nat.reduceEqDiff, Int.reduceToNat, reduceIte, reduceCtorEq, Int.reduceLE, Int.reduceLT, Int.reduceEq, Int.reduceNeg, Int.reduceAdd, Int.reduceSub, Int.reduceMul, w64 (n := (L.length : Int) - 1) (by omega), e1]
          refine T_lp (ι := { q : Nat // q ≤ 3 })
            (fun q => ([(0, .sl i 0 L.length cap0), (1, .int .i64 share), (4, .ptr n 0), (6, .ptr (n + 1) 0), (7, .int .i64 D.w), (8, .int .i64 (m : Int)), (9, .ptr i (m * 266)), (11, .ptr (n + 3) 0), (27, .sl (n + 2) 0 (H * W) cap), (28, .int .i64 ((H * W : Nat) : Int)), (29, .int .i64 j), (42, .int .i64 q.1)],
              (n + 3, ⟨2, cl [.int .i8 X, .int .i8 Y], true, none⟩) :: (n + 2, ⟨H * W * 2, cellC W, true, none⟩) :: (n + 1, ⟨3, dC (tbKs share m X Y D q.1).d, true, none⟩) :: (n, ⟨3, cl [.int .i64 0, .int .i64 0, .int .i64 0], true, none⟩) :: hset h i (stS (tbKs share m X Y D q.1).L none), n + 4)) (fun q => 3 - q.1) ⟨0, by omega⟩ ?_ ?_
          · refine Imp.id (by simp) ?_ ?_
            · simp only [go_sem, Nat.reduceBEq, Nat.reduceLT, Nat.reduceLeDiff, Nat.reduceAdd, Nat.reduceMul, Nat.reduceSub, Nat.reduceMod, Nat.reduceDiv, Nat.reduceEqDiff, Int.reduceToNat, reduceIte, reduceCtorEq, Int.reduceLE, Int.reduceLT, Int.reduceEq, Int.reduceNeg, Int.reduceAdd, Int.reduceSub, Int.reduceMul]
              omega
            · (repeat (refine impH.cons0 (by first | (simp only [go_sem, Nat.reduceBEq, Nat.reduceLT, Nat.reduceLeDiff, Nat.reduceAdd, Nat.reduceMul, Nat.reduceSub, Nat.reduceMod, Nat.reduceDiv, Nat.reduceEqDiff, Int.reduceToNat, reduceIte, reduceCtorEq, Int.reduceLE, Int.reduceLT, Int.reduceEq, Int.reduceNeg, Int.reduceAdd, Int.reduceSub, Int.reduceMul, hget_hset_self]; done) | (simp only [go_sem, Nat.reduceBEq, Nat.reduceLT, Nat.reduceLeDiff, Nat.reduceAdd, Nat.reduceMul, Nat.reduceSub, Nat.reduceMod, Nat.reduceDiv, Nat.reduceEqDiff, Int.reduceToNat, reduceIte, reduceCtorEq, Int.reduceLE, Int.reduceLT, Int.reduceEq, Int.reduceNeg, Int.reduceAdd, Int.reduceSub, Int.reduceMul, hget_hset_self]; rfl)) (by simp) ?_ ?_; · exact SegLe.flat (Nat.le_refl _) id (by first | exact .inr rfl | exact .inl rfl) fun z hz => ⟨by first | rfl | exact dC_zero hz | exact dC_cl (by rfl) (by rfl) (by rfl) hz, by first | exact shC_flat _ _ | exact brC_flat _ hz | exact pair_flat _ _ hz | exact cellC_flat _ _ | exact dC_flat _ _ | exact stC_flat _ _ | exact cl_flat (l := [_, _, _, _, _]) (by simp [SV.flat]) hz | exact cl_flat (l := [_, _, _]) (by simp [SV.flat]) hz | trivial⟩)); exact impH.base0 (by first | exact hok | exact hok_set hok (fun k hk => stC_flat _ _) | exact hok_set hok (fun k hk => shC_flat _ _)) (by simp) (by first | (simp only [go_sem, Nat.reduceBEq, Nat.reduceLT, Nat.reduceLeDiff, Nat.reduceAdd, Nat.reduceMul, Nat.reduceSub, Nat.reduceMod, Nat.reduceDiv, Nat.reduceEqDiff, Int.reduceToNat, reduceIte, reduceCtorEq, Int.reduceLE, Int.reduceLT, Int.reduceEq, Int.reduceNeg, Int.reduceAdd, Int.reduceSub, Int.reduceMul, HExt_cons]; done) | (simp only [go_sem, Nat.reduceBEq, Nat.reduceLT, Nat.reduceLeDiff, Nat.reduceAdd, Nat.reduceMul, Nat.reduceSub, Nat.reduceMod, Nat.reduceDiv, Nat.reduceEqDiff, Int.reduceToNat, reduceIte, reduceCtorEq, Int.reduceLE, Int.reduceLT, Int.reduceEq, Int.reduceNeg, Int.reduceAdd, Int.reduceSub, Int.reduceMul, HExt_cons]; exact HExt.rfl))
          · rintro ⟨q, hq⟩
            obtain ⟨k1, k2, k3⟩ := tbKs_ok hsh x0 x8 y0 y8 hD (i := m) (by omega) q hq
            have hw' : (tbKs share m X Y D q).w = D.w := by
              clear hq k1 k2 k3
              induction q with
              | zero => rfl
              | succ q ih => exact ih
            simp only [go_sem, Nat.reduceBEq, Nat.reduceLT, Nat.reduceLeDiff, Nat.reduceAdd, Nat.reduceMul, Nat.reduceSub, Nat.reduceMod, Nat.reduceDiv, Nat.reduceEqDiff, Int.reduceToNat, reduceIte, reduceCtorEq, Int.reduceLE, Int.reduceLT, Int.reduceEq, Int.reduceNeg, Int.reduceAdd, Int.reduceSub, Int.reduceMul, hgi, hi, decide_eq_true_eq, decide_eq_false_iff_not]
            refine ⟨fun h2 => ?_, fun h2 => ?_⟩
            · have hq3 : q < 3 := by omega
              have q0 : (0 : Int) ≤ q ∧ (q : Int) < 3 := ⟨by omega, h2⟩
              have hsucc : tbKs share m X Y D (q + 1) = tbK share m X Y (tbKs share m X Y D q) q := rfl
              generalize hE : tbKs share m X Y D q = E at *
              have hv := stC_dye E.L m q y0 y8 x0 x8 hq3
              have hr := (k1 m (by omega)).good.dye Y X q y0 y8 x0 x8 (by omega) (by omega)
              have hmem := tbK_mem (share := share) y0 y8 x0 x8 (S := E) (i := m) (by omega) hq3
              refine T_drawH hti 19 [15, 18] (.b 0 0 (.b 0 1 (.b 0 3 (.b 0 4 (.b 0 5 (.b 0 6 (.b 0 7 (.b 0 8 (.b 0 9 (.b 0 10 (.b 0 11 (.b 0 12 (.b 0 13 (.b 0 14 (.b 2 2 (.b 4 15 (.b 0 16 (.b 0 17 (.b 4 18 (.f) .o) .o) .o) .o) (.b 4 15 (.b 2 2 (.b 0 16 (.b 0 17 (.b 4 18 (.f) .o) .o) .o) .o) .o)) .o) .o) .o) .o) .o) .o) .o) .o) .o) .o) .o) .o) .o) .o)  [(0, .sl i 0 L.length cap0), (1, .int .i64 share), (4, .ptr n 0), (6, .ptr (n + 1) 0), (7, .int .i64 D.w), (8, .int .i64 (m : Int)), (9, .ptr i (m * 266)), (11, .ptr (n + 3) 0), (27, .sl (n + 2) 0 (H * W) cap), (28, .int .i64 ((H * W : Nat) : Int)), (29, .int .i64 j), (42, .int .i64 q)]
                ((n + 3, ⟨2, cl [.int .i8 X, .int .i8 Y], true, none⟩) :: (n + 2, ⟨H * W * 2, cellC W, true, none⟩) :: (n + 1, ⟨3, dC (tbK share m X Y E q).d, true, none⟩) :: (n, ⟨3, cl [.int .i64 0, .int .i64 0, .int .i64 0], true, none⟩) :: hset h i (stS (tbK share m X Y E q).L none)) (n + 4) _ _ (by kernel_rfl) (by kernel_rfl) ?_ ?_
              · simp only [go_sem, Nat.reduceBEq, Nat.reduceLT, Nat.reduceLeDiff, Nat.reduceAdd, Nat.reduceMul, Nat.reduceSub, Nat.reduceMod, Nat.reduceDiv, Nat.reduceEqDiff, Int.reduceToNat, reduceIte, reduceCtorEq, Int.reduceLE, Int.reduceLT, Int.reduceEq, Int.reduceNeg, Int.reduceAdd, Int.reduceSub, Int.reduceMul]
                refine ⟨⟨q + 1, by omega⟩, by show 3 - (q + 1) < 3 - q; omega, ?_⟩
                rw [← hsucc]
                refine Imp.id (by simp) ?_ ?_
                · simp only [go_sem, Nat.reduceBEq, Nat.reduceLT, Nat.reduceLeDiff, Nat.reduceAdd, Nat.reduceMul, Nat.reduceSub, Nat.reduceMod, Nat.reduceDiv, Nat.reduceEqDiff, Int.reduceToNat, reduceIte, reduceCtorEq, Int.reduceLE, Int.reduceLT, Int.reduceEq, Int.reduceNeg, Int.reduceAdd, Int.reduceSub, Int.reduceMul, w64 (n := (q : Int) + 1) (by omega), Int.natCast_add, Int.natCast_one]
                  omega
                · (repeat (refine impH.cons0 (by first | (simp only [go_sem, Nat.reduceBEq, Nat.reduceLT, Nat.reduceLeDiff, Nat.reduceAdd, Nat.reduceMul, Nat.reduceSub, Nat.reduceMod, Nat.reduceDiv, Nat.reduceEqDiff, Int.reduceToNat, reduceIte, reduceCtorEq, Int.reduceLE, Int.reduceLT, Int.reduceEq, Int.reduceNeg, Int.reduceAdd, Int.reduceSub, Int.reduceMul, hget_hset_self]; done) | (simp only [go_sem, Nat.reduceBEq, Nat.reduceLT, Nat.reduceLeDiff, Nat.reduceAdd, Nat.reduceMul, Nat.reduceSub, Nat.reduceMod, Nat.reduceDiv, Nat.reduceEqDiff, Int.reduceToNat, reduceIte, reduceCtorEq, Int.reduceLE, Int.reduceLT, Int.reduceEq, Int.reduceNeg, Int.reduceAdd, Int.reduceSub, Int.reduceMul, hget_hset_self]; rfl)) (by simp) ?_ ?_; · exact SegLe.flat (Nat.le_refl _) id (by first | exact .inr rfl | exact .inl rfl) fun z hz => ⟨by first | rfl | exact dC_zero hz | exact dC_cl (by rfl) (by rfl) (by rfl) hz, by first | exact shC_flat _ _ | exact brC_flat _ hz | exact pair_flat _ _ hz | exact cellC_flat _ _ | exact dC_flat _ _ | exact stC_flat _ _ | exact cl_flat (l := [_, _, _, _, _]) (by simp [SV.flat]) hz | exact cl_flat (l := [_, _, _]) (by simp [SV.flat]) hz | trivial⟩)); exact impH.base0 (by first | exact hok | exact hok_set hok (fun k hk => stC_flat _ _) | exact hok_set hok (fun k hk => shC_flat _ _)) (by simp) (by first | (simp only [go_sem, Nat.reduceBEq, Nat.reduceLT, Nat.reduceLeDiff, Nat.reduceAdd, Nat.reduceMul, Nat.reduceSub, Nat.reduceMod, Nat.reduceDiv, Nat.reduceEqDiff, Int.reduceToNat, reduceIte, reduceCtorEq, Int.reduceLE, Int.reduceLT, Int.reduceEq, Int.reduceNeg, Int.reduceAdd, Int.reduceSub, Int.reduceMul, HExt_cons]; done) | (simp only [go_sem, Nat.reduceBEq, Nat.reduceLT, Nat.reduceLeDiff, Nat.reduceAdd, Nat.reduceMul, Nat.reduceSub, Nat.reduceMod, Nat.reduceDiv, Nat.reduceEqDiff, Int.reduceToNat, reduceIte, reduceCtorEq, Int.reduceLE, Int.reduceLT, Int.reduceEq, Int.reduceNeg, Int.reduceAdd, Int.reduceSub, Int.reduceMul, HExt_cons]; exact HExt.rfl))
              · simp only [go_sem, Nat.reduceBEq, Nat.reduceLT, Nat.reduceLeDiff, Nat.reduceAdd, Nat.reduceMul, Nat.reduceSub, Nat.reduceMod, Nat.reduceDiv, Nat.reduceEqDiff, Int.reduceToNat, reduceIte, reduceCtorEq, Int.reduceLE, Int.reduceLT, Int.reduceEq, Int.reduceNeg, Int.reduceAdd, Int.reduceSub, Int.reduceMul, hgi, hi, x0, x8, y0, y8, q0]
                have hg0 : ∀ c, hget ((n + 3, ⟨2, cl [.int .i8 X, .int .i8 Y], true, none⟩) :: (n + 2, ⟨H * W * 2, cellC W, true, none⟩) :: (n + 1, ⟨3, c, true, none⟩) :: (n, ⟨3, cl [.int .i64 0, .int .i64 0, .int .i64 0], true, none⟩) :: hset h i (stS E.L none)) i = some (stS E.L none) := fun c => by simp only [go_sem, Nat.reduceBEq, Nat.reduceLT, Nat.reduceLeDiff, Nat.reduceAdd, Nat.reduceMul, Nat.reduceSub, Nat.reduceMod, Nat.reduceDiv, Nat.reduceEqDiff, Int.reduceToNat, reduceIte, reduceCtorEq, Int.reduceLE, Int.reduceLT, Int.reduceEq, Int.reduceNeg, Int.reduceAdd, Int.reduceSub, Int.reduceMul, hgi, hi]
                have hin : m * 266 + 66 + Y.toNat * 24 + X.toNat * 3 + q < (stS E.L none).n := by show _ < E.L.length * 266; omega
                have hn2 : 2 ≤ (stS E.L none).n := by show 2 ≤ E.L.length * 266; omega
                refine ⟨⟨?_, callA_false (give0_E _ _ _ i _ (stS E.L none) _ share (hg0 _) (by omega) rfl hin hn2 hv hr hsh _ ?_)⟩, callA_false (give0_E _ _ _ i _ (stS E.L none) _ share (hg0 _) (by omega) rfl hin hn2 hv hr hsh _ ?_)⟩
                · omega
                · simp only [go_sem, Nat.reduceBEq, Nat.reduceLT, Nat.reduceLeDiff, Nat.reduceAdd, Nat.reduceMul, Nat.reduceSub, Nat.reduceMod, Nat.reduceDiv, Nat.reduceEqDiff, Int.reduceToNat, reduceIte, reduceCtorEq, Int.reduceLE, Int.reduceLT, Int.reduceEq, Int.reduceNeg, Int.reduceAdd, Int.reduceSub, Int.reduceMul, hgi, hi]
                  rw [hmem, dC_upd]
                  refine ⟨q0, by omega, ?_⟩
                  refine Imp.id (by simp) ?_ ?_
                  · simp only [go_sem, Nat.reduceBEq, Nat.reduceLT, Nat.reduceLeDiff, Nat.reduceAdd, Nat.reduceMul, Nat.reduceSub, Nat.reduceMod, Nat.reduceDiv, Nat.reduceEqDiff, Int.reduceToNat, reduceIte, reduceCtorEq, Int.reduceLE, Int.reduceLT, Int.reduceEq, Int.reduceNeg, Int.reduceAdd, Int.reduceSub, Int.reduceMul]
                    omega
                  · (repeat (refine impH.cons0 (by first | (simp only [go_sem, Nat.reduceBEq, Nat.reduceLT, Nat.reduceLeDiff, Nat.reduceAdd, Nat.reduceMul, Nat.reduceSub, Nat.reduceMod, Nat.reduceDiv, Nat.reduceEqDiff, Int.reduceToNat, reduceIte, reduceCtorEq, Int.reduceLE, Int.reduceLT, Int.reduceEq, Int.reduceNeg, Int.reduceAdd, Int.reduceSub, Int.reduceMul, hget_hset_self]; done) | (simp only [go_sem, Nat.reduceBEq, Nat.reduceLT, Nat.reduceLeDiff, Nat.reduceAdd, Nat.reduceMul, Nat.reduceSub, Nat.reduceMod, Nat.reduceDiv, Nat.reduceEqDiff, Int.reduceToNat, reduceIte, reduceCtorEq, Int.reduceLE, Int.reduceLT, Int.reduceEq, Int.reduceNeg, Int.reduceAdd, Int.reduceSub, Int.reduceMul, hget_hset_self]; rfl)) (by simp) ?_ ?_; · exact SegLe.flat (Nat.le_refl _) id (by first | exact .inr rfl | exact .inl rfl) fun z hz => ⟨by first | rfl | exact dC_zero hz | exact dC_cl (by rfl) (by rfl) (by rfl) hz, by first | exact shC_flat _ _ | exact brC_flat _ hz | exact pair_flat _ _ hz | exact cellC_flat _ _ | exact dC_flat _ _ | exact stC_flat _ _ | exact cl_flat (l := [_, _, _, _, _]) (by simp [SV.flat]) hz | exact cl_flat (l := [_, _, _]) (by simp [SV.flat]) hz | trivial⟩)); exact impH.base0 (by first | exact hok | exact hok_set hok (fun k hk => stC_flat _ _) | exact hok_set hok (fun k hk => shC_flat _ _)) (by simp) (by first | (simp only [go_sem, Nat.reduceBEq, Nat.reduceLT, Nat.reduceLeDiff, Nat.reduceAdd, Nat.reduceMul, Nat.reduceSub, Nat.reduceMod, Nat.reduceDiv, Nat.reduceEqDiff, Int.reduceToNat, reduceIte, reduceCtorEq, Int.reduceLE, Int.reduceLT, Int.reduceEq, Int.reduceNeg, Int.reduceAdd, Int.reduceSub, Int.reduceMul, HExt_cons]; done) | (simp only [go_sem, Nat.reduceBEq, Nat.reduceLT, Nat.reduceLeDiff, Nat.reduceAdd, Nat.reduceMul, Nat.reduceSub, Nat.reduceMod, Nat.reduceDiv, Nat.reduceEqDiff, Int.reduceToNat, reduceIte, reduceCtorEq, Int.reduceLE, Int.reduceLT, Int.reduceEq, Int.reduceNeg, Int.reduceAdd, Int.reduceSub, Int.reduceMul, HExt_cons]; exact HExt.rfl))
                · simp only [go_sem, Nat.reduceBEq, Nat.reduceLT, Nat.reduceLeDiff, Nat.reduceAdd, Nat.reduceMul, Nat.reduceSub, Nat.reduceMod, Nat.reduceDiv, Nat.reduceEqDiff, Int.reduceToNat, reduceIte, reduceCtorEq, Int.reduceLE, Int.reduceLT, Int.reduceEq, Int.reduceNeg, Int.reduceAdd, Int.reduceSub, Int.reduceMul, hgi, hi, q0]
                  rw [hmem, dC_upd]
                  refine ⟨by omega, by omega, ?_⟩
                  refine Imp.id (by simp) ?_ ?_
                  · simp only [go_sem, Nat.reduceBEq, Nat.reduceLT, Nat.reduceLeDiff, Nat.reduceAdd, Nat.reduceMul, Nat.reduceSub, Nat.reduceMod, Nat.reduceDiv, Nat.reduceEqDiff, Int.reduceToNat, reduceIte, reduceCtorEq, Int.reduceLE, Int.reduceLT, Int.reduceEq, Int.reduceNeg, Int.reduceAdd, Int.reduceSub, Int.reduceMul]
                    omega
                  · (repeat (refine impH.cons0 (by first | (simp only [go_sem, Nat.reduceBEq, Nat.reduceLT, Nat.reduceLeDiff, Nat.reduceAdd, Nat.reduceMul, Nat.reduceSub, Nat.reduceMod, Nat.reduceDiv, Nat.reduceEqDiff, Int.reduceToNat, reduceIte, reduceCtorEq, Int.reduceLE, Int.reduceLT, Int.reduceEq, Int.reduceNeg, Int.reduceAdd, Int.reduceSub, Int.reduceMul, hget_hset_self]; done) | (simp only [go_sem, Nat.reduceBEq, Nat.reduceLT, Nat.reduceLeDiff, Nat.reduceAdd, Nat.reduceMul, Nat.reduceSub, Nat.reduceMod, Nat.reduceDiv, Nat.reduceEqDiff, Int.reduceToNat, reduceIte, reduceCtorEq, Int.reduceLE, Int.reduceLT, Int.reduceEq, Int.reduceNeg, Int.reduceAdd, Int.reduceSub, Int.reduceMul, hget_hset_self]; rfl)) (by simp) ?_ ?_; · exact SegLe.flat (Nat.le_refl _) id (by first | exact .inr rfl | exact .inl rfl) fun z hz => ⟨by first | rfl | exact dC_zero hz | exact dC_cl (by rfl) (by rfl) (by rfl) hz, by first | exact shC_flat _ _ | exact brC_flat _ hz | exact pair_flat _ _ hz | exact cellC_flat _ _ | exact dC_flat _ _ | exact stC_flat _ _ | exact cl_flat (l := [_, _, _, _, _]) (by simp [SV.flat]) hz | exact cl_flat (l := [_, _, _]) (by simp [SV.flat]) hz | trivial⟩)); exact impH.base0 (by first | exact hok | exact hok_set hok (fun k hk => stC_flat _ _) | exact hok_set hok (fun k hk => shC_flat _ _)) (by simp) (by first | (simp only [go_sem, Nat.reduceBEq, Nat.reduceLT, Nat.reduceLeDiff, Nat.reduceAdd, Nat.reduceMul, Nat.reduceSub, Nat.reduceMod, Nat.reduceDiv, Nat.reduceEqDiff, Int.reduceToNat, reduceIte, reduceCtorEq, Int.reduceLE, Int.reduceLT, Int.reduceEq, Int.reduceNeg, Int.reduceAdd, Int.reduceSub, Int.reduceMul, HExt_cons]; done) | (simp only [go_sem, Nat.reduceBEq, Nat.reduceLT, Nat.reduceLeDiff, Nat.reduceAdd, Nat.reduceMul, Nat.reduceSub, Nat.reduceMod, Nat.reduceDiv, Nat.reduceEqDiff, Int.reduceToNat, reduceIte, reduceCtorEq, Int.reduceLE, Int.reduceLT, Int.reduceEq, Int.reduceNeg, Int.reduceAdd, Int.reduceSub, Int.reduceMul, HExt_cons]; exact HExt.rfl))
            · have hq3 : q = 3 := by omega
              subst hq3
              generalize hE : tbKs share m X Y D 3 = E at *
              have hv := stC_wet E.L m y0 y8 x0 x8
              have hr := (k1 m (by omega)).good.wet Y X y0 y8 x0 x8
              have hmem := tbW_mem (share := share) y0 y8 x0 x8 (S := E) (i := m) (by omega)
              have hin : m * 266 + 2 + Y.toNat * 8 + X.toNat < (stS E.L none).n := by show _ < E.L.length * 266; omega
              have hn2 : 2 ≤ (stS E.L none).n := by show 2 ≤ E.L.length * 266; omega
              refine T_drawG hti 14 [11] (.b 0 0 (.b 0 1 (.b 0 2 (.b 0 3 (.b 0 4 (.b 0 5 (.b 0 6 (.b 0 7 (.b 0 8 (.b 0 9 (.b 0 10 (.b 4 11 (.b 0 12 (.b 0 13 (.f) .o) .o) .o) .o) .o) .o) .o) .o) .o) .o) .o) .o) .o) .o) _ _ (by kernel_rfl) (by kernel_rfl) ?_
              simp only [go_sem, Nat.reduceBEq, Nat.reduceLT, Nat.reduceLeDiff, Nat.reduceAdd, Nat.reduceMul, Nat.reduceSub, Nat.reduceMod, Nat.reduceDiv, Nat.reduceEqDiff, Int.reduceToNat, reduceIte, reduceCtorEq, Int.reduceLE, Int.reduceLT, Int.reduceEq, Int.reduceNeg, Int.reduceAdd, Int.reduceSub, Int.reduceMul, hgi, hi, x0, x8, y0, y8]
              refine callA_false (give0_E _ _ _ i _ (stS E.L none) _ share (by first | (simp only [go_sem, Nat.reduceBEq, Nat.reduceLT, Nat.reduceLeDiff, Nat.reduceAdd, Nat.reduceMul, Nat.reduceSub, Nat.reduceMod, Nat.reduceDiv, Nat.reduceEqDiff, Int.reduceToNat, reduceIte, reduceCtorEq, Int.reduceLE, Int.reduceLT, Int.reduceEq, Int.reduceNeg, Int.reduceAdd, Int.reduceSub, Int.reduceMul, hgi, hi]; done) | (simp only [go_sem, Nat.reduceBEq, Nat.reduceLT, Nat.reduceLeDiff, Nat.reduceAdd, Nat.reduceMul, Nat.reduceSub, Nat.reduceMod, Nat.reduceDiv, Nat.reduceEqDiff, Int.reduceToNat, reduceIte, reduceCtorEq, Int.reduceLE, Int.reduceLT, Int.reduceEq, Int.reduceNeg, Int.reduceAdd, Int.reduceSub, Int.reduceMul, hgi, hi]; rfl)) (by omega) rfl hin hn2 hv (by omega) hsh _ ?_)
              simp only [go_sem, Nat.reduceBEq, Nat.reduceLT, Nat.reduceLeDiff, Nat.reduceAdd, Nat.reduceMul, Nat.reduceSub, Nat.reduceMod, Nat.reduceDiv, Nat.reduceEqDiff, Int.reduceToNat, reduceIte, reduceCtorEq, Int.reduceLE, Int.reduceLT, Int.reduceEq, Int.reduceNeg, Int.reduceAdd, Int.reduceSub, Int.reduceMul, hgi, hi]
              rw [hmem]
              obtain ⟨t1, t2⟩ := tbC_ok hsh x0 x8 y0 y8 hD (i := m) (by omega)
              have hC3 : tbC share m X Y D = tbW share m X Y E := by unfold tbC; rw [if_neg hw, hE]
              rw [hC3] at t1 t2
              refine ⟨⟨(j + 1, tbW share m X Y E), by show j + 1 ≤ H * W; omega, t1, t2.trans hDl, hnext _ t1 (t2.trans hDl) (fun _ => hC3.symm) (fun e => absurd hl e)⟩, by show H * W - (j + 1) < H * W - j; omega, ?_⟩
              have e7 : IntKind.i64.wrap (D.w + giveQ ((E.L.getD m sh0).wet Y X) share) = (tbW share m X Y E).w := by rw [← hw']; rfl
              refine Imp.id (by simp) ?_ ?_
              · simp only [go_sem, Nat.reduceBEq, Nat.reduceLT, Nat.reduceLeDiff, Nat.reduceAdd, Nat.reduceMul, Nat.reduceSub, Nat.reduceMod, Nat.reduceDiv, Nat.reduceEqDiff, Int.reduceToNat, reduceIte, reduceCtorEq, Int.reduceLE, Int.reduceLT, Int.reduceEq, Int.reduceNeg, Int.reduceAdd, Int.reduceSub, Int.reduceMul, w64 (n := (j : Int) + 1) (by omega), Int.natCast_add, Int.natCast_one, e7]
                omega
              · (repeat (refine impH.cons0 (by first | (simp only [go_sem, Nat.reduceBEq, Nat.reduceLT, Nat.reduceLeDiff, Nat.reduceAdd, Nat.reduceMul, Nat.reduceSub, Nat.reduceMod, Nat.reduceDiv, Nat.reduceEqDiff, Int.reduceToNat, reduceIte, reduceCtorEq, Int.reduceLE, Int.reduceLT, Int.reduceEq, Int.reduceNeg, Int.reduceAdd, Int.reduceSub, Int.reduceMul, hget_hset_self]; done) | (simp only [go_sem, Nat.reduceBEq, Nat.reduceLT, Nat.reduceLeDiff, Nat.reduceAdd, Nat.reduceMul, Nat.reduceSub, Nat.reduceMod, Nat.reduceDiv, Nat.reduceEqDiff, Int.reduceToNat, reduceIte, reduceCtorEq, Int.reduceLE, Int.reduceLT, Int.reduceEq, Int.reduceNeg, Int.reduceAdd, Int.reduceSub, Int.reduceMul, hget_hset_self]; rfl)) (by simp) ?_ ?_; · exact SegLe.flat (Nat.le_refl _) id (by first | exact .inr rfl | exact .inl rfl) fun z hz => ⟨by first | rfl | exact dC_zero hz | exact dC_cl (by rfl) (by rfl) (by rfl) hz, by first | exact shC_flat _ _ | exact brC_flat _ hz | exact pair_flat _ _ hz | exact cellC_flat _ _ | exact dC_flat _ _ | exact stC_flat _ _ | exact cl_flat (l := [_, _, _, _, _]) (by simp [SV.flat]) hz | exact cl_flat (l := [_, _, _]) (by simp [SV.flat]) hz | trivial⟩)); exact impH.base0 (by first | exact hok | exact hok_set hok (fun k hk => stC_flat _ _) | exact hok_set hok (fun k hk => shC_flat _ _)) (by simp) (by first | (simp only [go_sem, Nat.reduceBEq, Nat.reduceLT, Nat.reduceLeDiff, Nat.reduceAdd, Nat.reduceMul, Nat.reduceSub, Nat.reduceMod, Nat.reduceDiv, Nat.reduceEqDiff, Int.reduceToNat, reduceIte, reduceCtorEq, Int.reduceLE, Int.reduceLT, Int.reduceEq, Int.reduceNeg, Int.reduceAdd, Int.reduceSub, Int.reduceMul, HExt_cons]; done) | (simp only [go_sem, Nat.reduceBEq, Nat.reduceLT, Nat.reduceLeDiff, Nat.reduceAdd, Nat.reduceMul, Nat.reduceSub, Nat.reduceMod, Nat.reduceDiv, Nat.reduceEqDiff, Int.reduceToNat, reduceIte, reduceCtorEq, Int.reduceLE, Int.reduceLT, Int.reduceEq, Int.reduceNeg, Int.reduceAdd, Int.reduceSub, Int.reduceMul, HExt_cons]; exact HExt.rfl))
        · have e1 : ((m : Int) = (L.length : Int) - 1) = False := eq_false (by omega)
          have r3 : (0 : Int) ≤ (m : Int) + 1 ∧ (m : Int) + 1 < (L.length : Int) := ⟨by omega, by omega⟩
          have e2 : ((m : Int) + 1).toNat = m + 1 := by omega
          have hSb := shAt_stS (own := none) (i := m + 1) (by omega) (hD (m + 1) (by omega)).R
          simp only [go_sem, Nat.reduceBEq, Nat.reduceLT, Nat.reduceLeDiff, Nat.reduceAdd, Nat.reduceMul, Nat.reduceSub, Nat.reduceMod, Nat.reduceDiv, Nat.reduceEqDiff, Int.reduceToNat, reduceIte, reduceCtorEq, Int.reduceLE, Int.reduceLT, Int.reduceEq, Int.reduceNeg, Int.reduceAdd, Int.reduceSub, Int.reduceMul, w64 (n := (L.length : Int) - 1) (by omega), w64 (n := (m : Int) + 1) (by omega), e1, r3, e2]
          refine (waxed_Q _ _ _ i ((m + 1) * 266) _ (D.L.getD (m + 1) sh0) X Y (by first | (simp only [go_sem, Nat.reduceBEq, Nat.reduceLT, Nat.reduceLeDiff, Nat.reduceAdd, Nat.reduceMul, Nat.reduceSub, Nat.reduceMod, Nat.reduceDiv, Nat.reduceEqDiff, Int.reduceToNat, reduceIte, reduceCtorEq, Int.reduceLE, Int.reduceLT, Int.reduceEq, Int.reduceNeg, Int.reduceAdd, Int.reduceSub, Int.reduceMul, hgi, hi]; done) | (simp only [go_sem, Nat.reduceBEq, Nat.reduceLT, Nat.reduceLeDiff, Nat.reduceAdd, Nat.reduceMul, Nat.reduceSub, Nat.reduceMod, Nat.reduceDiv, Nat.reduceEqDiff, Int.reduceToNat, reduceIte, reduceCtorEq, Int.reduceLE, Int.reduceLT, Int.reduceEq, Int.reduceNeg, Int.reduceAdd, Int.reduceSub, Int.reduceMul, hgi, hi]; rfl)) (by omega) hSb x0 y0 y8).A ?_
          by_cases hwx : waxB (D.L.getD (m + 1) sh0) X Y = true
          · simp only [go_sem, Nat.reduceBEq, Nat.reduceLT, Nat.reduceLeDiff, Nat.reduceAdd, Nat.reduceMul, Nat.reduceSub, Nat.reduceMod, Nat.reduceDiv, Nat.reduceEqDiff, Int.reduceToNat, reduceIte, reduceCtorEq, Int.reduceLE, Int.reduceLT, Int.reduceEq, Int.reduceNeg, Int.reduceAdd, Int.reduceSub, Int.reduceMul, hwx]
            refine ⟨⟨(j + 1, D), by show j + 1 ≤ H * W; omega, hD, hDl, hnext D hD hDl (fun e => absurd e hl) (fun _ => by unfold gvC; rw [if_pos (.inr hwx)])⟩, by show H * W - (j + 1) < H * W - j; omega, ?_⟩
            refine Imp.id (by simp) ?_ ?_
            · simp only [go_sem, Nat.reduceBEq, Nat.reduceLT, Nat.reduceLeDiff, Nat.reduceAdd, Nat.reduceMul, Nat.reduceSub, Nat.reduceMod, Nat.reduceDiv, Nat.reduceEqDiff, Int.reduceToNat, reduceIte, reduceCtorEq, Int.reduceLE, Int.reduceLT, Int.reduceEq, Int.reduceNeg, Int.reduceAdd, Int.reduceSub, Int.reduceMul, w64 (n := (j : Int) + 1) (by omega), Int.natCast_add, Int.natCast_one]
              omega
            · (repeat (refine impH.cons0 (by first | (simp only [go_sem, Nat.reduceBEq, Nat.reduceLT, Nat.reduceLeDiff, Nat.reduceAdd, Nat.reduceMul, Nat.reduceSub, Nat.reduceMod, Nat.reduceDiv, Nat.reduceEqDiff, Int.reduceToNat, reduceIte, reduceCtorEq, Int.reduceLE, Int.reduceLT, Int.reduceEq, Int.reduceNeg, Int.reduceAdd, Int.reduceSub, Int.reduceMul, hget_hset_self]; done) | (simp only [go_sem, Nat.reduceBEq, Nat.reduceLT, Nat.reduceLeDiff, Nat.reduceAdd, Nat.reduceMul, Nat.reduceSub, Nat.reduceMod, Nat.reduceDiv, Nat.reduceEqDiff, Int.reduceToNat, reduceIte, reduceCtorEq, Int.reduceLE, Int.reduceLT, Int.reduceEq, Int.reduceNeg, Int.reduceAdd, Int.reduceSub, Int.reduceMul, hget_hset_self]; rfl)) (by simp) ?_ ?_; · exact SegLe.flat (Nat.le_refl _) id (by first | exact .inr rfl | exact .inl rfl) fun z hz => ⟨by first | rfl | exact dC_zero hz | exact dC_cl (by rfl) (by rfl) (by rfl) hz, by first | exact shC_flat _ _ | exact brC_flat _ hz | exact pair_flat _ _ hz | exact cellC_flat _ _ | exact dC_flat _ _ | exact stC_flat _ _ | exact cl_flat (l := [_, _, _, _, _]) (by simp [SV.flat]) hz | exact cl_flat (l := [_, _, _]) (by simp [SV.flat]) hz | trivial⟩)); exact impH.base0 (by first | exact hok | exact hok_set hok (fun k hk => stC_flat _ _) | exact hok_set hok (fun k hk => shC_flat _ _)) (by simp) (by first | (simp only [go_sem, Nat.reduceBEq, Nat.reduceLT, Nat.reduceLeDiff, Nat.reduceAdd, Nat.reduceMul, Nat.reduceSub, Nat.reduceMod, Nat.reduceDiv, Nat.reduceEqDiff, Int.reduceToNat, reduceIte, reduceCtorEq, Int.reduceLE, Int.reduceLT, Int.reduceEq, Int.reduceNeg, Int.reduceAdd, Int.reduceSub, Int.reduceMul, HExt_cons]; done) | (simp only [go_sem, Nat.reduceBEq, Nat.reduceLT, Nat.reduceLeDiff, Nat.reduceAdd, Nat.reduceMul, Nat.reduceSub, Nat.reduceMod, Nat.reduceDiv, Nat.reduceEqDiff, Int.reduceToNat, reduceIte, reduceCtorEq, Int.reduceLE, Int.reduceLT, Int.reduceEq, Int.reduceNeg, Int.reduceAdd, Int.reduceSub, Int.reduceMul, HExt_cons]; exact HExt.rfl))
          simp only [go_sem, Nat.reduceBEq, Nat.reduceLT, Nat.reduceLeDiff, Nat.reduceAdd, Nat.reduceMul, Nat.reduceSub, Nat.reduceMod, Nat.reduceDiv, Nat.reduceEqDiff, Int.reduceToNat, reduceIte, reduceCtorEq, Int.reduceLE, Int.reduceLT, Int.reduceEq, Int.reduceNeg, Int.reduceAdd, Int.reduceSub, Int.reduceMul, hwx]
          refine T_lp (ι := { q : Nat // q ≤ 3 })
            (fun q => ([(0, .sl i 0 L.length cap0), (1, .int .i64 share), (4, .ptr n 0), (6, .ptr (n + 1) 0), (7, .int .i64 D.w), (8, .int .i64 (m : Int)), (9, .ptr i (m * 266)), (11, .ptr (n + 3) 0), (13, .ptr i ((m + 1) * 266)), (27, .sl (n + 2) 0 (H * W) cap), (28, .int .i64 ((H * W : Nat) : Int)), (29, .int .i64 j), (84, .int .i64 q.1)],
              (n + 3, ⟨2, cl [.int .i8 X, .int .i8 Y], true, none⟩) :: (n + 2, ⟨H * W * 2, cellC W, true, none⟩) :: (n + 1, ⟨3, dC D.d, true, none⟩) :: (n, ⟨3, cl [.int .i64 0, .int .i64 0, .int .i64 0], true, none⟩) :: hset h i (stS (gvKs share m X Y D.L q.1) none), n + 4)) (fun q => 3 - q.1) ⟨0, by omega⟩ ?_ ?_
          · refine Imp.id (by simp) ?_ ?_
            · simp only [go_sem, Nat.reduceBEq, Nat.reduceLT, Nat.reduceLeDiff, Nat.reduceAdd, Nat.reduceMul, Nat.reduceSub, Nat.reduceMod, Nat.reduceDiv, Nat.reduceEqDiff, Int.reduceToNat, reduceIte, reduceCtorEq, Int.reduceLE, Int.reduceLT, Int.reduceEq, Int.reduceNeg, Int.reduceAdd, Int.reduceSub, Int.reduceMul]
              omega
            · (repeat (refine impH.cons0 (by first | (simp only [go_sem, Nat.reduceBEq, Nat.reduceLT, Nat.reduceLeDiff, Nat.reduceAdd, Nat.reduceMul, Nat.reduceSub, Nat.reduceMod, Nat.reduceDiv, Nat.reduceEqDiff, Int.reduceToNat, reduceIte, reduceCtorEq, Int.reduceLE, Int.reduceLT, Int.reduceEq, Int.reduceNeg, Int.reduceAdd, Int.reduceSub, Int.reduceMul, hget_hset_self]; done) | (simp only [go_sem, Nat.reduceBEq, Nat.reduceLT, Nat.reduceLeDiff, Nat.reduceAdd, Nat.reduceMul, Nat.reduceSub, Nat.reduceMod, Nat.reduceDiv, Nat.reduceEqDiff, Int.reduceToNat, reduceIte, reduceCtorEq, Int.reduceLE, Int.reduceLT, Int.reduceEq, Int.reduceNeg, Int.reduceAdd, Int.reduceSub, Int.reduceMul, hget_hset_self]; rfl)) (by simp) ?_ ?_; · exact SegLe.flat (Nat.le_refl _) id (by first | exact .inr rfl | exact .inl rfl) fun z hz => ⟨by first | rfl | exact dC_zero hz | exact dC_cl (by rfl) (by rfl) (by rfl) hz, by first | exact shC_flat _ _ | exact brC_flat _ hz | exact pair_flat _ _ hz | exact cellC_flat _ _ | exact dC_flat _ _ | exact stC_flat _ _ | exact cl_flat (l := [_, _, _, _, _]) (by simp [SV.flat]) hz | exact cl_flat (l := [_, _, _]) (by simp [SV.flat]) hz | trivial⟩)); exact impH.base0 (by first | exact hok | exact hok_set hok (fun k hk => stC_flat _ _) | exact hok_set hok (fun k hk => shC_flat _ _)) (by simp) (by first | (simp only [go_sem, Nat.reduceBEq, Nat.reduceLT, Nat.reduceLeDiff, Nat.reduceAdd, Nat.reduceMul, Nat.reduceSub, Nat.reduceMod, Nat.reduceDiv, Nat.reduceEqDiff, Int.reduceToNat, reduceIte, reduceCtorEq, Int.reduceLE, Int.reduceLT, Int.reduceEq, Int.reduceNeg, Int.reduceAdd, Int.reduceSub, Int.reduceMul, HExt_cons]; done) | (simp only [go_sem, Nat.reduceBEq, Nat.reduceLT, Nat.reduceLeDiff, Nat.reduceAdd, Nat.reduceMul, Nat.reduceSub, Nat.reduceMod, Nat.reduceDiv, Nat.reduceEqDiff, Int.reduceToNat, reduceIte, reduceCtorEq, Int.reduceLE, Int.reduceLT, Int.reduceEq, Int.reduceNeg, Int.reduceAdd, Int.reduceSub, Int.reduceMul, HExt_cons]; exact HExt.rfl))
          · rintro ⟨q, hq⟩
            obtain ⟨k1, k2, k3, k4⟩ := gvKs_ok hsh x0 x8 y0 y8 hD (i := m) (by omega) q hq
            simp only [go_sem, Nat.reduceBEq, Nat.reduceLT, Nat.reduceLeDiff, Nat.reduceAdd, Nat.reduceMul, Nat.reduceSub, Nat.reduceMod, Nat.reduceDiv, Nat.reduceEqDiff, Int.reduceToNat, reduceIte, reduceCtorEq, Int.reduceLE, Int.reduceLT, Int.reduceEq, Int.reduceNeg, Int.reduceAdd, Int.reduceSub, Int.reduceMul, hgi, hi, decide_eq_true_eq, decide_eq_false_iff_not]
            refine ⟨fun h2 => ?_, fun h2 => ?_⟩
            · have hq3 : q < 3 := by omega
              have q0 : (0 : Int) ≤ q ∧ (q : Int) < 3 := ⟨by omega, h2⟩
              have hsucc : gvKs share m X Y D.L (q + 1) = gvK share m X Y (gvKs share m X Y D.L q) q := rfl
              generalize hE : gvKs share m X Y D.L q = E at *
              have hv := stC_dye E m q y0 y8 x0 x8 hq3
              have hu := stC_dye E (m + 1) q y0 y8 x0 x8 hq3
              have hr := (k1 m (by omega)).good.dye Y X q y0 y8 x0 x8 (by omega) (by omega)
              have hr2 := (k1 (m + 1) (by omega)).good.dye Y X q y0 y8 x0 x8 (by omega) (by omega)
              have hmem := gvK_mem (share := share) y0 y8 x0 x8 (L := E) (i := m) (by omega) hq3
              have hin : m * 266 + 66 + Y.toNat * 24 + X.toNat * 3 + q < (stS E none).n := by show _ < E.length * 266; omega
              have hin2 : (m + 1) * 266 + 66 + Y.toNat * 24 + X.toNat * 3 + q < (stS E none).n := by show _ < E.length * 266; omega
              have hn2 : 2 ≤ (stS E none).n := by show 2 ≤ E.length * 266; omega
              refine T_drawT hti 23 _ _ (by kernel_rfl) (by kernel_rfl) ?_
              simp only [go_sem, Nat.reduceBEq, Nat.reduceLT, Nat.reduceLeDiff, Nat.reduceAdd, Nat.reduceMul, Nat.reduceSub, Nat.reduceMod, Nat.reduceDiv, Nat.reduceEqDiff, Int.reduceToNat, reduceIte, reduceCtorEq, Int.reduceLE, Int.reduceLT, Int.reduceEq, Int.reduceNeg, Int.reduceAdd, Int.reduceSub, Int.reduceMul, hgi, hi, x0, x8, y0, y8, q0]
              refine callA_false (give1_E _ _ _ i _ _ (stS E none) _ _ share 1000 (by first | (simp only [go_sem, Nat.reduceBEq, Nat.reduceLT, Nat.reduceLeDiff, Nat.reduceAdd, Nat.reduceMul, Nat.reduceSub, Nat.reduceMod, Nat.reduceDiv, Nat.reduceEqDiff, Int.reduceToNat, reduceIte, reduceCtorEq, Int.reduceLE, Int.reduceLT, Int.reduceEq, Int.reduceNeg, Int.reduceAdd, Int.reduceSub, Int.reduceMul, hgi, hi]; done) | (simp only [go_sem, Nat.reduceBEq, Nat.reduceLT, Nat.reduceLeDiff, Nat.reduceAdd, Nat.reduceMul, Nat.reduceSub, Nat.reduceMod, Nat.reduceDiv, Nat.reduceEqDiff, Int.reduceToNat, reduceIte, reduceCtorEq, Int.reduceLE, Int.reduceLT, Int.reduceEq, Int.reduceNeg, Int.reduceAdd, Int.reduceSub, Int.reduceMul, hgi, hi]; rfl)) (by omega) rfl hin hin2 (by omega) hn2 hv hu hr hr2 (by omega) hsh _ ?_)
              simp only [go_sem, Nat.reduceBEq, Nat.reduceLT, Nat.reduceLeDiff, Nat.reduceAdd, Nat.reduceMul, Nat.reduceSub, Nat.reduceMod, Nat.reduceDiv, Nat.reduceEqDiff, Int.reduceToNat, reduceIte, reduceCtorEq, Int.reduceLE, Int.reduceLT, Int.reduceEq, Int.reduceNeg, Int.reduceAdd, Int.reduceSub, Int.reduceMul, hgi, hi]
              rw [show min (giveQ ((E.getD m sh0).dye Y X q) share) (1000 - (E.getD (m + 1) sh0).dye Y X q) = gvB share m X Y E q from rfl, hmem]
              refine ⟨⟨q + 1, by omega⟩, by show 3 - (q + 1) < 3 - q; omega, ?_⟩
              rw [← hsucc]
              refine Imp.id (by simp) ?_ ?_
              · simp only [go_sem, Nat.reduceBEq, Nat.reduceLT, Nat.reduceLeDiff, Nat.reduceAdd, Nat.reduceMul, Nat.reduceSub, Nat.reduceMod, Nat.reduceDiv, Nat.reduceEqDiff, Int.reduceToNat, reduceIte, reduceCtorEq, Int.reduceLE, Int.reduceLT, Int.reduceEq, Int.reduceNeg, Int.reduceAdd, Int.reduceSub, Int.reduceMul, w64 (n := (q : Int) + 1) (by omega), Int.natCast_add, Int.natCast_one]
                omega
              · (repeat (refine impH.cons0 (by first | (simp only [go_sem, Nat.reduceBEq, Nat.reduceLT, Nat.reduceLeDiff, Nat.reduceAdd, Nat.reduceMul, Nat.reduceSub, Nat.reduceMod, Nat.reduceDiv, Nat.reduceEqDiff, Int.reduceToNat, reduceIte, reduceCtorEq, Int.reduceLE, Int.reduceLT, Int.reduceEq, Int.reduceNeg, Int.reduceAdd, Int.reduceSub, Int.reduceMul, hget_hset_self]; done) | (simp only [go_sem, Nat.reduceBEq, Nat.reduceLT, Nat.reduceLeDiff, Nat.reduceAdd, Nat.reduceMul, Nat.reduceSub, Nat.reduceMod, Nat.reduceDiv, Nat.reduceEqDiff, Int.reduceToNat, reduceIte, reduceCtorEq, Int.reduceLE, Int.reduceLT, Int.reduceEq, Int.reduceNeg, Int.reduceAdd, Int.reduceSub, Int.reduceMul, hget_hset_self]; rfl)) (by simp) ?_ ?_; · exact SegLe.flat (Nat.le_refl _) id (by first | exact .inr rfl | exact .inl rfl) fun z hz => ⟨by first | rfl | exact dC_zero hz | exact dC_cl (by rfl) (by rfl) (by rfl) hz, by first | exact shC_flat _ _ | exact brC_flat _ hz | exact pair_flat _ _ hz | exact cellC_flat _ _ | exact dC_flat _ _ | exact stC_flat _ _ | exact cl_flat (l := [_, _, _, _, _]) (by simp [SV.flat]) hz | exact cl_flat (l := [_, _, _]) (by simp [SV.flat]) hz | trivial⟩)); exact impH.base0 (by first | exact hok | exact hok_set hok (fun k hk => stC_flat _ _) | exact hok_set hok (fun k hk => shC_flat _ _)) (by simp) (by first | (simp only [go_sem, Nat.reduceBEq, Nat.reduceLT, Nat.reduceLeDiff, Nat.reduceAdd, Nat.reduceMul, Nat.reduceSub, Nat.reduceMod, Nat.reduceDiv, Nat.reduceEqDiff, Int.reduceToNat, reduceIte, reduceCtorEq, Int.reduceLE, Int.reduceLT, Int.reduceEq, Int.reduceNeg, Int.reduceAdd, Int.reduceSub, Int.reduceMul, HExt_cons]; done) | (simp only [go_sem, Nat.reduceBEq, Nat.reduceLT, Nat.reduceLeDiff, Nat.reduceAdd, Nat.reduceMul, Nat.reduceSub, Nat.reduceMod, Nat.reduceDiv, Nat.reduceEqDiff, Int.reduceToNat, reduceIte, reduceCtorEq, Int.reduceLE, Int.reduceLT, Int.reduceEq, Int.reduceNeg, Int.reduceAdd, Int.reduceSub, Int.reduceMul, HExt_cons]; exact HExt.rfl))
            · have hq3 : q = 3 := by omega
              subst hq3
              generalize hE : gvKs share m X Y D.L 3 = E at *
              have hv := stC_wet E m y0 y8 x0 x8
              have hu := stC_wet E (m + 1) y0 y8 x0 x8
              have hr := (k1 m (by omega)).good.wet Y X y0 y8 x0 x8
              have hr2 := (k1 (m + 1) (by omega)).good.wet Y X y0 y8 x0 x8
              have hmem := gvW_mem (share := share) y0 y8 x0 x8 (L := E) (i := m) (by omega)
              have hin : m * 266 + 2 + Y.toNat * 8 + X.toNat < (stS E none).n := by show _ < E.length * 266; omega
              have hin2 : (m + 1) * 266 + 2 + Y.toNat * 8 + X.toNat < (stS E none).n := by show _ < E.length * 266; omega
              have hn2 : 2 ≤ (stS E none).n := by show 2 ≤ E.length * 266; omega
              refine T_drawT hti 19 _ _ (by kernel_rfl) (by kernel_rfl) ?_
              simp only [go_sem, Nat.reduceBEq, Nat.reduceLT, Nat.reduceLeDiff, Nat.reduceAdd, Nat.reduceMul, Nat.reduceSub, Nat.reduceMod, Nat.reduceDiv, Nat.reduceEqDiff, Int.reduceToNat, reduceIte, reduceCtorEq, Int.reduceLE, Int.reduceLT, Int.reduceEq, Int.reduceNeg, Int.reduceAdd, Int.reduceSub, Int.reduceMul, hgi, hi, x0, x8, y0, y8]
              refine callA_false (give1_E _ _ _ i _ _ (stS E none) _ _ share 200 (by first | (simp only [go_sem, Nat.reduceBEq, Nat.reduceLT, Nat.reduceLeDiff, Nat.reduceAdd, Nat.reduceMul, Nat.reduceSub, Nat.reduceMod, Nat.reduceDiv, Nat.reduceEqDiff, Int.reduceToNat, reduceIte, reduceCtorEq, Int.reduceLE, Int.reduceLT, Int.reduceEq, Int.reduceNeg, Int.reduceAdd, Int.reduceSub, Int.reduceMul, hgi, hi]; done) | (simp only [go_sem, Nat.reduceBEq, Nat.reduceLT, Nat.reduceLeDiff, Nat.reduceAdd, Nat.reduceMul, Nat.reduceSub, Nat.reduceMod, Nat.reduceDiv, Nat.reduceEqDiff, Int.reduceToNat, reduceIte, reduceCtorEq, Int.reduceLE, Int.reduceLT, Int.reduceEq, Int.reduceNeg, Int.reduceAdd, Int.reduceSub, Int.reduceMul, hgi, hi]; rfl)) (by omega) rfl hin hin2 (by omega) hn2 hv hu (by omega) hr2 (by omega) hsh _ ?_)
              simp only [go_sem, Nat.reduceBEq, Nat.reduceLT, Nat.reduceLeDiff, Nat.reduceAdd, Nat.reduceMul, Nat.reduceSub, Nat.reduceMod, Nat.reduceDiv, Nat.reduceEqDiff, Int.reduceToNat, reduceIte, reduceCtorEq, Int.reduceLE, Int.reduceLT, Int.reduceEq, Int.reduceNeg, Int.reduceAdd, Int.reduceSub, Int.reduceMul, hgi, hi]
              rw [show min (giveQ ((E.getD m sh0).wet Y X) share) (200 - (E.getD (m + 1) sh0).wet Y X) = gvA share m X Y E from rfl, hmem]
              obtain ⟨t1, t2⟩ := gvC_ok hsh x0 x8 y0 y8 hD (i := m) (by omega)
              have hC3 : gvC share m X Y D.L = gvW share m X Y E := by unfold gvC; rw [if_neg (fun h => h.elim hw hwx), hE]
              rw [hC3] at t1 t2
              refine ⟨⟨(j + 1, ⟨gvW share m X Y E, D.d, D.w⟩), by show j + 1 ≤ H * W; omega, t1, t2.trans hDl, hnext _ t1 (t2.trans hDl) (fun e => absurd e hl) (fun _ => by rw [hC3])⟩, by show H * W - (j + 1) < H * W - j; omega, ?_⟩
              refine Imp.id (by simp) ?_ ?_
              · simp only [go_sem, Nat.reduceBEq, Nat.reduceLT, Nat.reduceLeDiff, Nat.reduceAdd, Nat.reduceMul, Nat.reduceSub, Nat.reduceMod, Nat.reduceDiv, Nat.reduceEqDiff, Int.reduceToNat, reduceIte, reduceCtorEq, Int.reduceLE, Int.reduceLT, Int.reduceEq, Int.reduceNeg, Int.reduceAdd, Int.reduceSub, Int.reduceMul, w64 (n := (j : Int) + 1) (by omega), Int.natCast_add, Int.natCast_one]
                omega
              · (repeat (refine impH.cons0 (by first | (simp only [go_sem, Nat.reduceBEq, Nat.reduceLT, Nat.reduceLeDiff, Nat.reduceAdd, Nat.reduceMul, Nat.reduceSub, Nat.reduceMod, Nat.reduceDiv, Nat.reduceEqDiff, Int.reduceToNat, reduceIte, reduceCtorEq, Int.reduceLE, Int.reduceLT, Int.reduceEq, Int.reduceNeg, Int.reduceAdd, Int.reduceSub, Int.reduceMul, hget_hset_self]; done) | (simp only [go_sem, Nat.reduceBEq, Nat.reduceLT, Nat.reduceLeDiff, Nat.reduceAdd, Nat.reduceMul, Nat.reduceSub, Nat.reduceMod, Nat.reduceDiv, Nat.reduceEqDiff, Int.reduceToNat, reduceIte, reduceCtorEq, Int.reduceLE, Int.reduceLT, Int.reduceEq, Int.reduceNeg, Int.reduceAdd, Int.reduceSub, Int.reduceMul, hget_hset_self]; rfl)) (by simp) ?_ ?_; · exact SegLe.flat (Nat.le_refl _) id (by first | exact .inr rfl | exact .inl rfl) fun z hz => ⟨by first | rfl | exact dC_zero hz | exact dC_cl (by rfl) (by rfl) (by rfl) hz, by first | exact shC_flat _ _ | exact brC_flat _ hz | exact pair_flat _ _ hz | exact cellC_flat _ _ | exact dC_flat _ _ | exact stC_flat _ _ | exact cl_flat (l := [_, _, _, _, _]) (by simp [SV.flat]) hz | exact cl_flat (l := [_, _, _]) (by simp [SV.flat]) hz | trivial⟩)); exact impH.base0 (by first | exact hok | exact hok_set hok (fun k hk => stC_flat _ _) | exact hok_set hok (fun k hk => shC_flat _ _)) (by simp) (by first | (simp only [go_sem, Nat.reduceBEq, Nat.reduceLT, Nat.reduceLeDiff, Nat.reduceAdd, Nat.reduceMul, Nat.reduceSub, Nat.reduceMod, Nat.reduceDiv, Nat.reduceEqDiff, Int.reduceToNat, reduceIte, reduceCtorEq, Int.reduceLE, Int.reduceLT, Int.reduceEq, Int.reduceNeg, Int.reduceAdd, Int.reduceSub, Int.reduceMul, HExt_cons]; done) | (simp only [go_sem, Nat.reduceBEq, Nat.reduceLT, Nat.reduceLeDiff, Nat.reduceAdd, Nat.reduceMul, Nat.reduceSub, Nat.reduceMod, Nat.reduceDiv, Nat.reduceEqDiff, Int.reduceToNat, reduceIte, reduceCtorEq, Int.reduceLE, Int.reduceLT, Int.reduceEq, Int.reduceNeg, Int.reduceAdd, Int.reduceSub, Int.reduceMul, HExt_cons]; exact HExt.rfl))
      · have hj2 : j = H * W := by omega
        subst hj2
        have hne0 : L ≠ [] := by intro e; rw [e] at r1; simp at r1; omega
        refine ⟨⟨(m, D), by show m ≤ L.length; omega, hD, hDl, ?_, fun e => by simp only at e; omega⟩, by show m < m + 1; omega, ?_⟩
        · simp only
          rw [if_neg (by omega)]
          by_cases hl : m + 1 = L.length
          · rw [if_pos hl] at hP hDe
            have hC0' := hC0 hl
            subst hC0'
            rw [hDe]
            unfold passS
            rw [if_neg hne0]
            simp only
            rw [show L.length - 1 = m by omega]
          · rw [if_neg hl] at hP hDe
            rw [hP, hDe]
            rfl
        refine Imp.id (by simp) ?_ ?_
        · simp only [go_sem, Nat.reduceBEq, Nat.reduceLT, Nat.reduceLeDiff, Nat.reduceAdd, Nat.reduceMul, Nat.reduceSub, Nat.reduceMod, Nat.reduceDiv, Nat.reduceEqDiff, Int.reduceToNat, reduceIte, reduceCtorEq, Int.reduceLE, Int.reduceLT, Int.reduceEq, Int.reduceNeg, Int.reduceAdd, Int.reduceSub, Int.reduceMul, w64 (n := (m : Int) - 1) (by omega)]
          omega
        · (repeat (refine impH.cons0 (by first | (simp only [go_sem, Nat.reduceBEq, Nat.reduceLT, Nat.reduceLeDiff, Nat.reduceAdd, Nat.reduceMul, Nat.reduceSub, Nat.reduceMod, Nat.reduceDiv, Nat.reduceEqDiff, Int.reduceToNat, reduceIte, reduceCtorEq, Int.reduceLE, Int.reduceLT, Int.reduceEq, Int.reduceNeg, Int.reduceAdd, Int.reduceSub, Int.reduceMul, hget_hset_self]; done) | (simp only [go_sem, Nat.reduceBEq, Nat.reduceLT, Nat.reduceLeDiff, Nat.reduceAdd, Nat.reduceMul, Nat.reduceSub, Nat.reduceMod, Nat.reduceDiv, Nat.reduceEqDiff, Int.reduceToNat, reduceIte, reduceCtorEq, Int.reduceLE, Int.reduceLT, Int.reduceEq, Int.reduceNeg, Int.reduceAdd, Int.reduceSub, Int.reduceMul, hget_hset_self]; rfl)) (by simp) ?_ ?_; · exact SegLe.flat (Nat.le_refl _) id (by first | exact .inr rfl | exact .inl rfl) fun z hz => ⟨by first | rfl | exact dC_zero hz | exact dC_cl (by rfl) (by rfl) (by rfl) hz, by first | exact shC_flat _ _ | exact brC_flat _ hz | exact pair_flat _ _ hz | exact cellC_flat _ _ | exact dC_flat _ _ | exact stC_flat _ _ | exact cl_flat (l := [_, _, _, _, _]) (by simp [SV.flat]) hz | exact cl_flat (l := [_, _, _]) (by simp [SV.flat]) hz | trivial⟩)); exact impH.base0 (by first | exact hok | exact hok_set hok (fun k hk => stC_flat _ _) | exact hok_set hok (fun k hk => shC_flat _ _)) (by simp) (by first | (simp only [go_sem, Nat.reduceBEq, Nat.reduceLT, Nat.reduceLeDiff, Nat.reduceAdd, Nat.reduceMul, Nat.reduceSub, Nat.reduceMod, Nat.reduceDiv, Nat.reduceEqDiff, Int.reduceToNat, reduceIte, reduceCtorEq, Int.reduceLE, Int.reduceLT, Int.reduceEq, Int.reduceNeg, Int.reduceAdd, Int.reduceSub, Int.reduceMul, HExt_cons]; done) | (simp only [go_sem, Nat.reduceBEq, Nat.reduceLT, Nat.reduceLeDiff, Nat.reduceAdd, Nat.reduceMul, Nat.reduceSub, Nat.reduceMod, Nat.reduceDiv, Nat.reduceEqDiff, Int.reduceToNat, reduceIte, reduceCtorEq, Int.reduceLE, Int.reduceLT, Int.reduceEq, Int.reduceNeg, Int.reduceAdd, Int.reduceSub, Int.reduceMul, HExt_cons]; exact HExt.rfl))
end
end Go.Proofs.Ytjepjeaecmioaaa.V

/- Sums of dyes; a pass, by the reference. -/
namespace Go.Proofs.Ytjepjeaecmioaaa.V
abbrev d3 (d : Nat → Int) : SV := .agg 3 (cl [.int .i64 (d 0), .int .i64 (d 1), .int .i64 (d 2)])
def addD (a b : Nat → Int) : Nat → Int := fun k => IntKind.i64.wrap (a k + b k)
section
variable (cx : Cx) (h : List (Nat × Seg)) (n : Nat)
theorem plus2_Q (a b : Nat → Int) : CallQ Try.prog cx 38 [d3 a, d3 b] h n (d3 (addD a b)) := by
  refine callQ_of_T (P := Try.prog) hti (nt := 19) (rs := [.cell 4 31]) rfl rfl Try.call38 Try.func38 rfl _ (by simp only [go_sem, and_self]) (Nat.le_of_ble_eq_true rfl) _ (by first | exact trivial | (refine lt_flat rfl ?_; simp [SV.flat]; done) | simp only [go_sem]) fun hok => ?_
  simp only [go_sem, Nat.reduceBEq, Nat.reduceLT, Nat.reduceLeDiff, Nat.reduceAdd, Nat.reduceMul, Nat.reduceSub, Nat.reduceMod, Nat.reduceDiv, Nat.reduceEqDiff, Int.reduceToNat, reduceIte, reduceCtorEq, Int.reduceLE, Int.reduceLT, Int.reduceEq, Int.reduceNeg, Int.reduceAdd, Int.reduceSub, Int.reduceMul]
  refine T_unroll 3 ?_
  simp only [go_sem, Nat.reduceBEq, Nat.reduceLT, Nat.reduceLeDiff, Nat.reduceAdd, Nat.reduceMul, Nat.reduceSub, Nat.reduceMod, Nat.reduceDiv, Nat.reduceEqDiff, Int.reduceToNat, reduceIte, reduceCtorEq, Int.reduceLE, Int.reduceLT, Int.reduceEq, Int.reduceNeg, Int.reduceAdd, Int.reduceSub, Int.reduceMul]
  refine T_drawT hti 8 _ _ (by kernel_rfl) (by kernel_rfl) ?_
  simp only [go_sem, Nat.reduceBEq, Nat.reduceLT, Nat.reduceLeDiff, Nat.reduceAdd, Nat.reduceMul, Nat.reduceSub, Nat.reduceMod, Nat.reduceDiv, Nat.reduceEqDiff, Int.reduceToNat, reduceIte, reduceCtorEq, Int.reduceLE, Int.reduceLT, Int.reduceEq, Int.reduceNeg, Int.reduceAdd, Int.reduceSub, Int.reduceMul]
  refine U_step ?_
  simp only [go_sem, Nat.reduceBEq, Nat.reduceLT, Nat.reduceLeDiff, Nat.reduceAdd, Nat.reduceMul, Nat.reduceSub, Nat.reduceMod, Nat.reduceDiv, Nat.reduceEqDiff, Int.reduceToNat, reduceIte, reduceCtorEq, Int.reduceLE, Int.reduceLT, Int.reduceEq, Int.reduceNeg, Int.reduceAdd, Int.reduceSub, Int.reduceMul]
  refine T_drawT hti 8 _ _ (by kernel_rfl) (by kernel_rfl) ?_
  simp only [go_sem, Nat.reduceBEq, Nat.reduceLT, Nat.reduceLeDiff, Nat.reduceAdd, Nat.reduceMul, Nat.reduceSub, Nat.reduceMod, Nat.reduceDiv, Nat.reduceEqDiff, Int.reduceToNat, reduceIte, reduceCtorEq, Int.reduceLE, Int.reduceLT, Int.reduceEq, Int.reduceNeg, Int.reduceAdd, Int.reduceSub, Int.reduceMul]
  refine U_step ?_
  simp only [go_sem, Nat.reduceBEq, Nat.reduceLT, Nat.reduceLeDiff, Nat.reduceAdd, Nat.reduceMul, Nat.reduceSub, Nat.reduceMod, Nat.reduceDiv, Nat.reduceEqDiff, Int.reduceToNat, reduceIte, reduceCtorEq, Int.reduceLE, Int.reduceLT, Int.reduceEq, Int.reduceNeg, Int.reduceAdd, Int.reduceSub, Int.reduceMul]
  refine T_drawT hti 8 _ _ (by kernel_rfl) (by kernel_rfl) ?_
  simp only [go_sem, Nat.reduceBEq, Nat.reduceLT, Nat.reduceLeDiff, Nat.reduceAdd, Nat.reduceMul, Nat.reduceSub, Nat.reduceMod, Nat.reduceDiv, Nat.reduceEqDiff, Int.reduceToNat, reduceIte, reduceCtorEq, Int.reduceLE, Int.reduceLT, Int.reduceEq, Int.reduceNeg, Int.reduceAdd, Int.reduceSub, Int.reduceMul]
  refine U_step ?_
  simp only [go_sem, Nat.reduceBEq, Nat.reduceLT, Nat.reduceLeDiff, Nat.reduceAdd, Nat.reduceMul, Nat.reduceSub, Nat.reduceMod, Nat.reduceDiv, Nat.reduceEqDiff, Int.reduceToNat, reduceIte, reduceCtorEq, Int.reduceLE, Int.reduceLT, Int.reduceEq, Int.reduceNeg, Int.reduceAdd, Int.reduceSub, Int.reduceMul]
  rfl
theorem plus_E (i : Nat) (a b : Nat → Int) (own : Option (Nat × Nat)) (hs : hget h i = some ⟨3, cl [.int .i64 (a 0), .int .i64 (a 1), .int .i64 (a 2)], true, own⟩) (hi : i < n) (K : HK)
    (hK : K (.tup 0 (cl [])) (hset h i ⟨3, cl [.int .i64 (addD a b 0), .int .i64 (addD a b 1), .int .i64 (addD a b 2)], true, own⟩) n) :
    CallE Try.prog cx 40 [.ptr i 0, d3 b] h n K := by
  refine CallE.to _ _ (by simp only [go_sem, Nat.reduceBEq, Nat.reduceLT, Nat.reduceLeDiff, Nat.reduceAdd, Nat.reduceMul, Nat.reduceSub, Nat.reduceMod, Nat.reduceDiv, Nat.reduceEqDiff, Int.reduceToNat, reduceIte, reduceCtorEq, Int.reduceLE, Int.reduceLT, Int.reduceEq, Int.reduceNeg, Int.reduceAdd, Int.reduceSub, Int.reduceMul]) (fun hok => hok_set hok fun k hk => cl_flat (l := [_, _, _]) (by simp [SV.flat]) hk) hK ?_
  refine callE_of_T (P := Try.prog) hti (nt := 21) (rs := []) rfl rfl Try.call40 Try.func40 rfl _ (by simp only [go_sem, and_self]) (Nat.le_of_ble_eq_true rfl) _ fun hok => ?_
  simp only [go_sem, Nat.reduceBEq, Nat.reduceLT, Nat.reduceLeDiff, Nat.reduceAdd, Nat.reduceMul, Nat.reduceSub, Nat.reduceMod, Nat.reduceDiv, Nat.reduceEqDiff, Int.reduceToNat, reduceIte, reduceCtorEq, Int.reduceLE, Int.reduceLT, Int.reduceEq, Int.reduceNeg, Int.reduceAdd, Int.reduceSub, Int.reduceMul]
  refine T_unroll 3 ?_
  simp only [go_sem, Nat.reduceBEq, Nat.reduceLT, Nat.reduceLeDiff, Nat.reduceAdd, Nat.reduceMul, Nat.reduceSub, Nat.reduceMod, Nat.reduceDiv, Nat.reduceEqDiff, Int.reduceToNat, reduceIte, reduceCtorEq, Int.reduceLE, Int.reduceLT, Int.reduceEq, Int.reduceNeg, Int.reduceAdd, Int.reduceSub, Int.reduceMul]
  refine T_drawT hti 9 _ _ (by kernel_rfl) (by kernel_rfl) ?_
  simp only [go_sem, Nat.reduceBEq, Nat.reduceLT, Nat.reduceLeDiff, Nat.reduceAdd, Nat.reduceMul, Nat.reduceSub, Nat.reduceMod, Nat.reduceDiv, Nat.reduceEqDiff, Int.reduceToNat, reduceIte, reduceCtorEq, Int.reduceLE, Int.reduceLT, Int.reduceEq, Int.reduceNeg, Int.reduceAdd, Int.reduceSub, Int.reduceMul, hs, hi]
  refine U_step ?_
  simp only [go_sem, Nat.reduceBEq, Nat.reduceLT, Nat.reduceLeDiff, Nat.reduceAdd, Nat.reduceMul, Nat.reduceSub, Nat.reduceMod, Nat.reduceDiv, Nat.reduceEqDiff, Int.reduceToNat, reduceIte, reduceCtorEq, Int.reduceLE, Int.reduceLT, Int.reduceEq, Int.reduceNeg, Int.reduceAdd, Int.reduceSub, Int.reduceMul]
  refine T_drawT hti 9 _ _ (by kernel_rfl) (by kernel_rfl) ?_
  simp only [go_sem, Nat.reduceBEq, Nat.reduceLT, Nat.reduceLeDiff, Nat.reduceAdd, Nat.reduceMul, Nat.reduceSub, Nat.reduceMod, Nat.reduceDiv, Nat.reduceEqDiff, Int.reduceToNat, reduceIte, reduceCtorEq, Int.reduceLE, Int.reduceLT, Int.reduceEq, Int.reduceNeg, Int.reduceAdd, Int.reduceSub, Int.reduceMul, hs, hi]
  refine U_step ?_
  simp only [go_sem, Nat.reduceBEq, Nat.reduceLT, Nat.reduceLeDiff, Nat.reduceAdd, Nat.reduceMul, Nat.reduceSub, Nat.reduceMod, Nat.reduceDiv, Nat.reduceEqDiff, Int.reduceToNat, reduceIte, reduceCtorEq, Int.reduceLE, Int.reduceLT, Int.reduceEq, Int.reduceNeg, Int.reduceAdd, Int.reduceSub, Int.reduceMul]
  refine T_drawT hti 9 _ _ (by kernel_rfl) (by kernel_rfl) ?_
  simp only [go_sem, Nat.reduceBEq, Nat.reduceLT, Nat.reduceLeDiff, Nat.reduceAdd, Nat.reduceMul, Nat.reduceSub, Nat.reduceMod, Nat.reduceDiv, Nat.reduceEqDiff, Int.reduceToNat, reduceIte, reduceCtorEq, Int.reduceLE, Int.reduceLT, Int.reduceEq, Int.reduceNeg, Int.reduceAdd, Int.reduceSub, Int.reduceMul, hs, hi]
  refine U_step ?_
  simp only [go_sem, Nat.reduceBEq, Nat.reduceLT, Nat.reduceLeDiff, Nat.reduceAdd, Nat.reduceMul, Nat.reduceSub, Nat.reduceMod, Nat.reduceDiv, Nat.reduceEqDiff, Int.reduceToNat, reduceIte, reduceCtorEq, Int.reduceLE, Int.reduceLT, Int.reduceEq, Int.reduceNeg, Int.reduceAdd, Int.reduceSub, Int.reduceMul]
  exact HExt.rfl
set_option maxRecDepth 100000 in
theorem pass2_E (i cap0 : Nat) (L : List Sh) (W H : Nat) (share : Int) (hs : hget h i = some (stS L none)) (hi : i < n) (hG : PGood L W H) (hsh : 1 ≤ share ∧ share ≤ 15) (hm9 : L.length ≤ 10000000) (K : HK)
    (hK : K (.tup 2 (cl [d3 (passS share W H L).d, .int .i64 (passS share W H L).w])) (hset h i (stS (passS share W H L).L none)) n) :
    CallE Try.prog cx 29 [.sl i 0 L.length cap0, .int .i64 share] h n K := by
  refine CallE.to _ (hset h i (stS (passS share W H L).L none)) (by simp only [go_sem, Nat.reduceBEq, Nat.reduceLT, Nat.reduceLeDiff, Nat.reduceAdd, Nat.reduceMul, Nat.reduceSub, Nat.reduceMod, Nat.reduceDiv, Nat.reduceEqDiff, Int.reduceToNat, reduceIte, reduceCtorEq, Int.reduceLE, Int.reduceLT, Int.reduceEq, Int.reduceNeg, Int.reduceAdd, Int.reduceSub, Int.reduceMul]) (fun hok => hok_set hok fun k hk => stC_flat _ _) hK ?_
  have hgi : ∀ t, hget (hset h i t) i = some t := hget_hset_self hs
  refine callE_of_T (P := Try.prog) hti (nt := 41) (rs := [.cell 4 31, .tmp 5]) rfl rfl Try.call29 Try.func29 rfl _ (by simp only [go_sem, and_self]) (Nat.le_of_ble_eq_true rfl) _ fun hok => ?_
  by_cases h0 : L = []
  · subst h0
    have e : passS share W H [] = ⟨[], fun _ => 0, 0⟩ := by unfold passS; rw [if_pos rfl]
    simp only [go_sem, Nat.reduceBEq, Nat.reduceLT, Nat.reduceLeDiff, Nat.reduceAdd, Nat.reduceMul, Nat.reduceSub, Nat.reduceMod, Nat.reduceDiv, Nat.reduceEqDiff, Int.reduceToNat, reduceIte, reduceCtorEq, Int.reduceLE, Int.reduceLT, Int.reduceEq, Int.reduceNeg, Int.reduceAdd, Int.reduceSub, Int.reduceMul, e, List.length_nil]
    rw [hset_self hs]
    exact HExt.rfl
  have hl : 0 < L.length := List.length_pos_iff.2 h0
  have e0 : ((L.length : Int) = 0) = False := eq_false (by omega)
  have e1 : ((L.length : Int) - 1).toNat = L.length - 1 := by omega
  have r1 : (0 : Int) ≤ (L.length : Int) - 1 ∧ (L.length : Int) - 1 < L.length := ⟨by omega, by omega⟩
  have eP : passS share W H L = ⟨passM share W H (L.length - 1) (tbN share (L.length - 1) W ⟨L, fun _ => 0, 0⟩ (H * W)).L, (tbN share (L.length - 1) W ⟨L, fun _ => 0, 0⟩ (H * W)).d, (tbN share (L.length - 1) W ⟨L, fun _ => 0, 0⟩ (H * W)).w⟩ := by unfold passS; rw [if_neg h0]
  simp only [go_sem, Nat.reduceBEq, Nat.reduceLT, Nat.reduceLeDiff, Nat.reduceAdd, Nat.reduceMul, Nat.reduceSub, Nat.reduceMod, Nat.reduceDiv, Nat.reduceEqDiff, Int.reduceToNat, reduceIte, reduceCtorEq, Int.reduceLE, Int.reduceLT, Int.reduceEq, Int.reduceNeg, Int.reduceAdd, Int.reduceSub, Int.reduceMul, e0, e1, r1, w64 (n := (L.length : Int) - 1) (by omega)]
  refine callA_false (table2_E _ _ _ i (L.length - 1) L W H share (by first | (simp only [go_sem, Nat.reduceBEq, Nat.reduceLT, Nat.reduceLeDiff, Nat.reduceAdd, Nat.reduceMul, Nat.reduceSub, Nat.reduceMod, Nat.reduceDiv, Nat.reduceEqDiff, Int.reduceToNat, reduceIte, reduceCtorEq, Int.reduceLE, Int.reduceLT, Int.reduceEq, Int.reduceNeg, Int.reduceAdd, Int.reduceSub, Int.reduceMul, hs, hi]; done) | (simp only [go_sem, Nat.reduceBEq, Nat.reduceLT, Nat.reduceLeDiff, Nat.reduceAdd, Nat.reduceMul, Nat.reduceSub, Nat.reduceMod, Nat.reduceDiv, Nat.reduceEqDiff, Int.reduceToNat, reduceIte, reduceCtorEq, Int.reduceLE, Int.reduceLT, Int.reduceEq, Int.reduceNeg, Int.reduceAdd, Int.reduceSub, Int.reduceMul, hs, hi]; rfl)) (by omega) hG (by omega) hsh _ ?_)
  obtain ⟨hD, hDl⟩ := tbN_ok (i := L.length - 1) (S := ⟨L, fun _ => 0, 0⟩) hsh hG (show L.length - 1 < L.length by omega) (H * W) (Nat.le_refl _)
  generalize hS0 : tbN share (L.length - 1) W ⟨L, fun _ => 0, 0⟩ (H * W) = S0 at *
  have hDl : S0.L.length = L.length := hDl
  simp only [go_sem, Nat.reduceBEq, Nat.reduceLT, Nat.reduceLeDiff, Nat.reduceAdd, Nat.reduceMul, Nat.reduceSub, Nat.reduceMod, Nat.reduceDiv, Nat.reduceEqDiff, Int.reduceToNat, reduceIte, reduceCtorEq, Int.reduceLE, Int.reduceLT, Int.reduceEq, Int.reduceNeg, Int.reduceAdd, Int.reduceSub, Int.reduceMul, hi, w64 (n := (L.length : Int) - 2) (by omega)]
  refine T_lp (ι := { p : Nat × List Sh // p.1 ≤ L.length - 1 ∧ PGood p.2 W H ∧ p.2.length = L.length ∧ passM share W H p.1 p.2 = passM share W H (L.length - 1) S0.L })
    (fun p => ([(0, .sl i 0 L.length cap0), (1, .int .i64 share), (4, .ptr n 0), (6, .ptr (n + 1) 0), (7, .int .i64 S0.w), (8, .int .i64 ((p.1.1 : Int) - 1))],
      (n + 1, ⟨3, cl [.int .i64 (S0.d 0), .int .i64 (S0.d 1), .int .i64 (S0.d 2)], true, none⟩) :: (n, ⟨3, cl [.int .i64 0, .int .i64 0, .int .i64 0], true, none⟩) :: hset h i (stS p.1.2 none), n + 2)) (fun p => p.1.1) ⟨(L.length - 1, S0.L), Nat.le_refl _, hD, hDl, rfl⟩ ?_ ?_
  · refine Imp.id (by simp) ?_ ?_
    · simp only [go_sem, Nat.reduceBEq, Nat.reduceLT, Nat.reduceLeDiff, Nat.reduceAdd, Nat.reduceMul, Nat.reduceSub, Nat.reduceMod, Nat.reduceDiv, Nat.reduceEqDiff, Int.reduceToNat, reduceIte, reduceCtorEq, Int.reduceLE, Int.reduceLT, Int.reduceEq, Int.reduceNeg, Int.reduceAdd, Int.reduceSub, Int.reduceMul, show ((L.length - 1 : Nat) : Int) - 1 = (L.length : Int) - 2 by omega]
      omega
    · (repeat (refine impH.cons0 (by first | (simp only [go_sem, Nat.reduceBEq, Nat.reduceLT, Nat.reduceLeDiff, Nat.reduceAdd, Nat.reduceMul, Nat.reduceSub, Nat.reduceMod, Nat.reduceDiv, Nat.reduceEqDiff, Int.reduceToNat, reduceIte, reduceCtorEq, Int.reduceLE, Int.reduceLT, Int.reduceEq, Int.reduceNeg, Int.reduceAdd, Int.reduceSub, Int.reduceMul, hget_hset_self]; done) | (simp only [go_sem, Nat.reduceBEq, Nat.reduceLT, Nat.reduceLeDiff, Nat.reduceAdd, Nat.reduceMul, Nat.reduceSub, Nat.reduceMod, Nat.reduceDiv, Nat.reduceEqDiff, Int.reduceToNat, reduceIte, reduceCtorEq, Int.reduceLE, Int.reduceLT, Int.reduceEq, Int.reduceNeg, Int.reduceAdd, Int.reduceSub, Int.reduceMul, hget_hset_self]; rfl)) (by simp) ?_ ?_; · exact SegLe.flat (Nat.le_refl _) id (by first | exact .inr rfl | exact .inl rfl) fun z hz => ⟨by first | rfl | exact dC_zero hz | exact dC_cl (by rfl) (by rfl) (by rfl) hz, by first | exact shC_flat _ _ | exact brC_flat _ hz | exact pair_flat _ _ hz | exact cellC_flat _ _ | exact dC_flat _ _ | exact stC_flat _ _ | exact cl_flat (l := [_, _, _, _, _]) (by simp [SV.flat]) hz | exact cl_flat (l := [_, _, _]) (by simp [SV.flat]) hz | trivial⟩)); exact impH.base0 (by first | exact hok | exact hok_set hok (fun k hk => stC_flat _ _) | exact hok_set hok (fun k hk => shC_flat _ _)) (by simp) (by first | (simp only [go_sem, Nat.reduceBEq, Nat.reduceLT, Nat.reduceLeDiff, Nat.reduceAdd, Nat.reduceMul, Nat.reduceSub, Nat.reduceMod, Nat.reduceDiv, Nat.reduceEqDiff, Int.reduceToNat, reduceIte, reduceCtorEq, Int.reduceLE, Int.reduceLT, Int.reduceEq, Int.reduceNeg, Int.reduceAdd, Int.reduceSub, Int.reduceMul, HExt_cons]; done) | (simp only [go_sem, Nat.reduceBEq, Nat.reduceLT, Nat.reduceLeDiff, Nat.reduceAdd, Nat.reduceMul, Nat.reduceSub, Nat.reduceMod, Nat.reduceDiv, Nat.reduceEqDiff, Int.reduceToNat, reduceIte, reduceCtorEq, Int.reduceLE, Int.reduceLT, Int.reduceEq, Int.reduceNeg, Int.reduceAdd, Int.reduceSub, Int.reduceMul, HExt_cons]; exact HExt.rfl))
  · rintro ⟨⟨m, C⟩, hm, hC, hCl, hP⟩
    simp only at hm hC hCl hP
    rcases m with _ | m
    · simp only [go_sem, Nat.reduceBEq, Nat.reduceLT, Nat.reduceLeDiff, Nat.reduceAdd, Nat.reduceMul, Nat.reduceSub, Nat.reduceMod, Nat.reduceDiv, Nat.reduceEqDiff, Int.reduceToNat, reduceIte, reduceCtorEq, Int.reduceLE, Int.reduceLT, Int.reduceEq, Int.reduceNeg, Int.reduceAdd, Int.reduceSub, Int.reduceMul, show ¬ (0 : Int) ≤ ((0 : Nat) : Int) - 1 by omega]
      rw [eP, ← hP]
      exact ⟨rfl, HExt.rfl⟩
    have r1 : (0 : Int) ≤ m ∧ (m : Int) < L.length := ⟨by omega, by omega⟩
    have r2 : (0 : Int) ≤ (m : Int) + 1 ∧ (m : Int) + 1 < L.length := ⟨by omega, by omega⟩
    have e2 : ((m : Int) + 1).toNat = m + 1 := by omega
    have r0 : (0 : Int) ≤ m := by omega
    simp only [go_sem, Nat.reduceBEq, Nat.reduceLT, Nat.reduceLeDiff, Nat.reduceAdd, Nat.reduceMul, Nat.reduceSub, Nat.reduceMod, Nat.reduceDiv, Nat.reduceEqDiff, Int.reduceToNat, reduceIte, reduceCtorEq, Int.reduceLE, Int.reduceLT, Int.reduceEq, Int.reduceNeg, Int.reduceAdd, Int.reduceSub, Int.reduceMul, Int.natCast_add, Int.natCast_one, Int.add_sub_cancel, r0]
    refine T_drawT hti 8 _ _ (by kernel_rfl) (by kernel_rfl) ?_
    simp only [go_sem, Nat.reduceBEq, Nat.reduceLT, Nat.reduceLeDiff, Nat.reduceAdd, Nat.reduceMul, Nat.reduceSub, Nat.reduceMod, Nat.reduceDiv, Nat.reduceEqDiff, Int.reduceToNat, reduceIte, reduceCtorEq, Int.reduceLE, Int.reduceLT, Int.reduceEq, Int.reduceNeg, Int.reduceAdd, Int.reduceSub, Int.reduceMul, hi, r1, r2, e2, w64 (n := (m : Int) + 1) (by omega)]
    obtain ⟨t1, t2⟩ := gvN_ok (i := m) hsh hC (by omega) (H * W) (Nat.le_refl _)
    refine callA_false (give2_E5 _ _ _ i m C W H share (by first | (simp only [go_sem, Nat.reduceBEq, Nat.reduceLT, Nat.reduceLeDiff, Nat.reduceAdd, Nat.reduceMul, Nat.reduceSub, Nat.reduceMod, Nat.reduceDiv, Nat.reduceEqDiff, Int.reduceToNat, reduceIte, reduceCtorEq, Int.reduceLE, Int.reduceLT, Int.reduceEq, Int.reduceNeg, Int.reduceAdd, Int.reduceSub, Int.reduceMul, hgi, hi]; done) | (simp only [go_sem, Nat.reduceBEq, Nat.reduceLT, Nat.reduceLeDiff, Nat.reduceAdd, Nat.reduceMul, Nat.reduceSub, Nat.reduceMod, Nat.reduceDiv, Nat.reduceEqDiff, Int.reduceToNat, reduceIte, reduceCtorEq, Int.reduceLE, Int.reduceLT, Int.reduceEq, Int.reduceNeg, Int.reduceAdd, Int.reduceSub, Int.reduceMul, hgi, hi]; rfl)) (by omega) hC (by omega) hsh _ ?_)
    simp only [go_sem, Nat.reduceBEq, Nat.reduceLT, Nat.reduceLeDiff, Nat.reduceAdd, Nat.reduceMul, Nat.reduceSub, Nat.reduceMod, Nat.reduceDiv, Nat.reduceEqDiff, Int.reduceToNat, reduceIte, reduceCtorEq, Int.reduceLE, Int.reduceLT, Int.reduceEq, Int.reduceNeg, Int.reduceAdd, Int.reduceSub, Int.reduceMul, hi]
    refine ⟨⟨(m, gvN share m W C (H * W)), by show m ≤ L.length - 1; omega, t1, t2.trans hCl, hP⟩, by show m < m + 1; omega, ?_⟩
    refine Imp.id (by simp) ?_ ?_
    · simp only [go_sem, Nat.reduceBEq, Nat.reduceLT, Nat.reduceLeDiff, Nat.reduceAdd, Nat.reduceMul, Nat.reduceSub, Nat.reduceMod, Nat.reduceDiv, Nat.reduceEqDiff, Int.reduceToNat, reduceIte, reduceCtorEq, Int.reduceLE, Int.reduceLT, Int.reduceEq, Int.reduceNeg, Int.reduceAdd, Int.reduceSub, Int.reduceMul, w64 (n := (m : Int) - 1) (by omega)]
      omega
    · (repeat (refine impH.cons0 (by first | (simp only [go_sem, Nat.reduceBEq, Nat.reduceLT, Nat.reduceLeDiff, Nat.reduceAdd, Nat.reduceMul, Nat.reduceSub, Nat.reduceMod, Nat.reduceDiv, Nat.reduceEqDiff, Int.reduceToNat, reduceIte, reduceCtorEq, Int.reduceLE, Int.reduceLT, Int.reduceEq, Int.reduceNeg, Int.reduceAdd, Int.reduceSub, Int.reduceMul, hget_hset_self]; done) | (simp only [go_sem, Nat.reduceBEq, Nat.reduceLT, Nat.reduceLeDiff, Nat.reduceAdd, Nat.reduceMul, Nat.reduceSub, Nat.reduceMod, Nat.reduceDiv, Nat.reduceEqDiff, Int.reduceToNat, reduceIte, reduceCtorEq, Int.reduceLE, Int.reduceLT, Int.reduceEq, Int.reduceNeg, Int.reduceAdd, Int.reduceSub, Int.reduceMul, hget_hset_self]; rfl)) (by simp) ?_ ?_; · exact SegLe.flat (Nat.le_refl _) id (by first | exact .inr rfl | exact .inl rfl) fun z hz => ⟨by first | rfl | exact dC_zero hz | exact dC_cl (by rfl) (by rfl) (by rfl) hz, by first | exact shC_flat _ _ | exact brC_flat _ hz | exact pair_flat _ _ hz | exact cellC_flat _ _ | exact dC_flat _ _ | exact stC_flat _ _ | exact cl_flat (l := [_, _, _, _, _]) (by simp [SV.flat]) hz | exact cl_flat (l := [_, _, _]) (by simp [SV.flat]) hz | trivial⟩)); exact impH.base0 (by first | exact hok | exact hok_set hok (fun k hk => stC_flat _ _) | exact hok_set hok (fun k hk => shC_flat _ _)) (by simp) (by first | (simp only [go_sem, Nat.reduceBEq, Nat.reduceLT, Nat.reduceLeDiff, Nat.reduceAdd, Nat.reduceMul, Nat.reduceSub, Nat.reduceMod, Nat.reduceDiv, Nat.reduceEqDiff, Int.reduceToNat, reduceIte, reduceCtorEq, Int.reduceLE, Int.reduceLT, Int.reduceEq, Int.reduceNeg, Int.reduceAdd, Int.reduceSub, Int.reduceMul, HExt_cons]; done) | (simp only [go_sem, Nat.reduceBEq, Nat.reduceLT, Nat.reduceLeDiff, Nat.reduceAdd, Nat.reduceMul, Nat.reduceSub, Nat.reduceMod, Nat.reduceDiv, Nat.reduceEqDiff, Int.reduceToNat, reduceIte, reduceCtorEq, Int.reduceLE, Int.reduceLT, Int.reduceEq, Int.reduceNeg, Int.reduceAdd, Int.reduceSub, Int.reduceMul, HExt_cons]; exact HExt.rfl))
end
end Go.Proofs.Ytjepjeaecmioaaa.V

/- Validity of a stack: the program's own walk. -/
namespace Go.Proofs.Ytjepjeaecmioaaa.V
section
variable (cx : Cx) (h : List (Nat × Seg)) (n : Nat)
theorem sameSides_Q (F F' : Nat → SV) (S S' : Sh) (hF : ShF F S) (hF' : ShF F' S') : CallQ Try.prog cx 93 [.agg 266 F, .agg 266 F'] h n (.bool (decide (S.wide = S'.wide) && decide (S.high = S'.high))) := by
  have hone := hF.ones; have hone' := hF'.ones
  refine callQ_of_T (P := Try.prog) hti (nt := 17) (rs := [.tmp 4]) rfl rfl Try.call93 Try.func93 rfl _ (by simp only [go_sem, and_self]) (Nat.le_of_ble_eq_true rfl) _ (by first | exact trivial | (refine lt_flat rfl ?_; simp [SV.flat]; done) | simp only [go_sem]) fun hok => ?_
  simp only [go_sem, Nat.reduceBEq, Nat.reduceLT, Nat.reduceLeDiff, Nat.reduceAdd, Nat.reduceMul, Nat.reduceSub, Nat.reduceMod, Nat.reduceDiv, Nat.reduceEqDiff, Int.reduceToNat, reduceIte, reduceCtorEq, Int.reduceLE, Int.reduceLT, Int.reduceEq, Int.reduceNeg, Int.reduceAdd, Int.reduceSub, Int.reduceMul, hone, hone', hF.wide, hF.high, hF'.wide, hF'.high]
  by_cases hw : S.wide = S'.wide
  · simp only [go_sem, Nat.reduceBEq, Nat.reduceLT, Nat.reduceLeDiff, Nat.reduceAdd, Nat.reduceMul, Nat.reduceSub, Nat.reduceMod, Nat.reduceDiv, Nat.reduceEqDiff, Int.reduceToNat, reduceIte, reduceCtorEq, Int.reduceLE, Int.reduceLT, Int.reduceEq, Int.reduceNeg, Int.reduceAdd, Int.reduceSub, Int.reduceMul, hw]
  · simp only [go_sem, Nat.reduceBEq, Nat.reduceLT, Nat.reduceLeDiff, Nat.reduceAdd, Nat.reduceMul, Nat.reduceSub, Nat.reduceMod, Nat.reduceDiv, Nat.reduceEqDiff, Int.reduceToNat, reduceIte, reduceCtorEq, Int.reduceLE, Int.reduceLT, Int.reduceEq, Int.reduceNeg, Int.reduceAdd, Int.reduceSub, Int.reduceMul, hw]
theorem validSt1_Q (F : Nat → SV) (S : Sh) (hF : ShF F S) (iv i cap : Nat) (L : List Sh) (s : Seg) (hv : hget h iv = some ⟨1, cl [.sl i 0 L.length cap], true, none⟩) (hvi : iv < n) (hs : hget h i = some s) (hi : i < n) (hL : StAt s L) (hLR : StR L) (h0 : 0 < L.length) :
    CallQ Try.prog cx 92 [.agg 266 F, .ptr iv 0] h n (.bool (!(validB S && (decide (S.wide = (L.getD 0 sh0).wide) && decide (S.high = (L.getD 0 sh0).high))))) := by
  have hone := hF.ones
  have hS0 := hL.sh hLR h0
  rw [Nat.zero_mul] at hS0
  have hSF : ShF s.c (L.getD 0 sh0) := by have := hS0.2; simpa only [Nat.zero_add] using this
  have hone0 := hSF.ones
  have hl := hS0.1
  have r0 : (0 : Int) < L.length := by omega
  refine callQ_of_T (P := Try.prog) hti (nt := 15) (rs := [.tmp 3]) rfl rfl Try.call92 Try.func92 rfl _ (by simp only [go_sem, and_self]) (Nat.le_of_ble_eq_true rfl) _ (by first | exact trivial | (refine lt_flat rfl ?_; simp [SV.flat]; done) | simp only [go_sem]) fun hok => ?_
  simp only [go_sem, Nat.reduceBEq, Nat.reduceLT, Nat.reduceLeDiff, Nat.reduceAdd, Nat.reduceMul, Nat.reduceSub, Nat.reduceMod, Nat.reduceDiv, Nat.reduceEqDiff, Int.reduceToNat, reduceIte, reduceCtorEq, Int.reduceLE, Int.reduceLT, Int.reduceEq, Int.reduceNeg, Int.reduceAdd, Int.reduceSub, Int.reduceMul, hone]
  refine T_draw hti _ _ (by kernel_rfl) (by kernel_rfl) ?_
  simp only [go_sem, Nat.reduceBEq, Nat.reduceLT, Nat.reduceLeDiff, Nat.reduceAdd, Nat.reduceMul, Nat.reduceSub, Nat.reduceMod, Nat.reduceDiv, Nat.reduceEqDiff, Int.reduceToNat, reduceIte, reduceCtorEq, Int.reduceLE, Int.reduceLT, Int.reduceEq, Int.reduceNeg, Int.reduceAdd, Int.reduceSub, Int.reduceMul, hone]
  refine (valid_Q _ _ _ F S hF).A ?_
  by_cases hV : Valid S
  rotate_left
  · simp only [go_sem, Nat.reduceBEq, Nat.reduceLT, Nat.reduceLeDiff, Nat.reduceAdd, Nat.reduceMul, Nat.reduceSub, Nat.reduceMod, Nat.reduceDiv, Nat.reduceEqDiff, Int.reduceToNat, reduceIte, reduceCtorEq, Int.reduceLE, Int.reduceLT, Int.reduceEq, Int.reduceNeg, Int.reduceAdd, Int.reduceSub, Int.reduceMul, validB_false hV]
  have b1 : 266 ≤ s.n := hl
  simp only [go_sem, Nat.reduceBEq, Nat.reduceLT, Nat.reduceLeDiff, Nat.reduceAdd, Nat.reduceMul, Nat.reduceSub, Nat.reduceMod, Nat.reduceDiv, Nat.reduceEqDiff, Int.reduceToNat, reduceIte, reduceCtorEq, Int.reduceLE, Int.reduceLT, Int.reduceEq, Int.reduceNeg, Int.reduceAdd, Int.reduceSub, Int.reduceMul, validB_true hV, hv, hvi, hs, hi, hone, hone0, r0, b1]
  refine (sameSides_Q _ _ _ F s.c S (L.getD 0 sh0) hF hSF).A ?_
  simp only [go_sem, Nat.reduceBEq, Nat.reduceLT, Nat.reduceLeDiff, Nat.reduceAdd, Nat.reduceMul, Nat.reduceSub, Nat.reduceMod, Nat.reduceDiv, Nat.reduceEqDiff, Int.reduceToNat, reduceIte, reduceCtorEq, Int.reduceLE, Int.reduceLT, Int.reduceEq, Int.reduceNeg, Int.reduceAdd, Int.reduceSub, Int.reduceMul, Bool.true_and]
end
end Go.Proofs.Ytjepjeaecmioaaa.V

/- A function asked of the sheets of a stack. -/
namespace Go.Proofs.Ytjepjeaecmioaaa.V
section
variable (cx : Cx) (h : List (Nat × Seg)) (n : Nat)
set_option maxRecDepth 100000 in
theorem indexSt_Q (i cap : Nat) (L : List Sh) (s : Seg) (f a b : Nat) (G F : Nat → SV) (p : Nat → Bool) (r : Int)
    (hs : hget h i = some s) (hi : i < n) (hm9 : L.length ≤ 10000000) (hL : StAt s L) (hLR : StR L) (hF : (SV.fn f a G b F).lt n)
    (hr0 : r = -1 → ∀ j, j < L.length → p j = false) (hr1 : r ≠ -1 → 0 ≤ r ∧ r < L.length ∧ p r.toNat = true ∧ ∀ j : Nat, (j : Int) < r → p j = false)
    (hp : ∀ j, j < L.length → ∀ nt n0, CallQ Try.prog ⟨cx.w0, cx.W, nt, n0⟩ f (lst a G ++ [.agg 266 fun k => s.c (j * 266 + k)] ++ lst b F) h n (.bool (p j))) :
    CallQ Try.prog cx 104 [.sl i 0 L.length cap, .fn f a G b F] h n (.int .i64 r) := by
  have hn := hL.1
  refine callQ_of_T (P := Try.prog) hti (nt := 19) (rs := [.tmp 4]) rfl rfl Try.call104 Try.func104 rfl _ (by simp only [go_sem, and_self]) (Nat.le_of_ble_eq_true rfl) _ (by first | exact trivial | (refine lt_flat rfl ?_; simp [SV.flat]; done) | simp only [go_sem]) fun hok => ?_
  simp only [go_sem, Nat.reduceBEq, Nat.reduceLT, Nat.reduceLeDiff, Nat.reduceAdd, Nat.reduceMul, Nat.reduceSub, Nat.reduceMod, Nat.reduceDiv, Nat.reduceEqDiff, Int.reduceToNat, reduceIte, reduceCtorEq, Int.reduceLE, Int.reduceLT, Int.reduceEq, Int.reduceNeg, Int.reduceAdd, Int.reduceSub, Int.reduceMul]
  refine T_lp (ι := { j : Nat // j ≤ L.length ∧ ∀ k, k < j → p k = false })
    (fun j => ([(0, .sl i 0 L.length cap), (1, .fn f a G b F), (7, .int .i64 L.length), (8, .int .i64 j.1)], h, n)) (fun j => L.length - j.1) ⟨0, by simp⟩ ?_ ?_
  · refine Imp.id (by simp) ?_ ?_
    · simp only [go_sem, Nat.reduceBEq, Nat.reduceLT, Nat.reduceLeDiff, Nat.reduceAdd, Nat.reduceMul, Nat.reduceSub, Nat.reduceMod, Nat.reduceDiv, Nat.reduceEqDiff, Int.reduceToNat, reduceIte, reduceCtorEq, Int.reduceLE, Int.reduceLT, Int.reduceEq, Int.reduceNeg, Int.reduceAdd, Int.reduceSub, Int.reduceMul]
      exact ⟨hi, hF⟩
    · exact impH.base0 hok (by simp) (by simp only [go_sem, Nat.reduceBEq, Nat.reduceLT, Nat.reduceLeDiff, Nat.reduceAdd, Nat.reduceMul, Nat.reduceSub, Nat.reduceMod, Nat.reduceDiv, Nat.reduceEqDiff, Int.reduceToNat, reduceIte, reduceCtorEq, Int.reduceLE, Int.reduceLT, Int.reduceEq, Int.reduceNeg, Int.reduceAdd, Int.reduceSub, Int.reduceMul])
  · rintro ⟨j, hj, hall⟩
    simp only [go_sem, Nat.reduceBEq, Nat.reduceLT, Nat.reduceLeDiff, Nat.reduceAdd, Nat.reduceMul, Nat.reduceSub, Nat.reduceMod, Nat.reduceDiv, Nat.reduceEqDiff, Int.reduceToNat, reduceIte, reduceCtorEq, Int.reduceLE, Int.reduceLT, Int.reduceEq, Int.reduceNeg, Int.reduceAdd, Int.reduceSub, Int.reduceMul, decide_eq_true_eq, decide_eq_false_iff_not]
    refine ⟨fun h1 => ?_, fun h1 => ?_⟩
    · have hj1 : j < L.length := by omega
      have r1 : (0 : Int) ≤ j ∧ (j : Int) < L.length := ⟨by omega, by omega⟩
      have b1 : j * 266 ≤ s.n - 266 := by omega
      have b3 : 266 ≤ s.n := by omega
      have b6 : j * 266 + 266 ≤ s.n := by omega
      have hSF : ShF (fun k => s.c (j * 266 + k)) (L.getD j sh0) := (hL.sh hLR hj1).2
      have hone := hSF.ones
      simp only [go_sem, Nat.reduceBEq, Nat.reduceLT, Nat.reduceLeDiff, Nat.reduceAdd, Nat.reduceMul, Nat.reduceSub, Nat.reduceMod, Nat.reduceDiv, Nat.reduceEqDiff, Int.reduceToNat, reduceIte, reduceCtorEq, Int.reduceLE, Int.reduceLT, Int.reduceEq, Int.reduceNeg, Int.reduceAdd, Int.reduceSub, Int.reduceMul, hs, hi, r1, b1, b3, b6, hone]
      refine (hp j hj1 _ _).A ?_
      cases hpj : p j
      · simp only [go_sem, Nat.reduceBEq, Nat.reduceLT, Nat.reduceLeDiff, Nat.reduceAdd, Nat.reduceMul, Nat.reduceSub, Nat.reduceMod, Nat.reduceDiv, Nat.reduceEqDiff, Int.reduceToNat, reduceIte, reduceCtorEq, Int.reduceLE, Int.reduceLT, Int.reduceEq, Int.reduceNeg, Int.reduceAdd, Int.reduceSub, Int.reduceMul]
        refine ⟨⟨j + 1, by omega, fun k hk => by rcases (by omega : k < j ∨ k = j) with h | rfl; exact hall k h; exact hpj⟩, by show L.length - (j + 1) < L.length - j; omega, ?_⟩
        refine Imp.id (by simp) ?_ (impH.base0 hok (by simp) HExt.rfl)
        simp only [go_sem, Nat.reduceBEq, Nat.reduceLT, Nat.reduceLeDiff, Nat.reduceAdd, Nat.reduceMul, Nat.reduceSub, Nat.reduceMod, Nat.reduceDiv, Nat.reduceEqDiff, Int.reduceToNat, reduceIte, reduceCtorEq, Int.reduceLE, Int.reduceLT, Int.reduceEq, Int.reduceNeg, Int.reduceAdd, Int.reduceSub, Int.reduceMul, w64 (n := (j : Int) + 1) (by omega), Int.natCast_add, Int.natCast_one]
        exact ⟨hi, hF⟩
      · have e : r = j := by
          rcases (by omega : r = -1 ∨ r ≠ -1) with hr | hr
          · have := hr0 hr j hj1; rw [this] at hpj; cases hpj
          · obtain ⟨r0, r1', r2, r3⟩ := hr1 hr
            rcases (by omega : (j : Int) < r ∨ r < j ∨ r = j) with h | h | h
            · rw [r3 j h] at hpj; cases hpj
            · have := hall r.toNat (by omega)
              rw [r2] at this; cases this
            · exact h
        simp only [go_sem, Nat.reduceBEq, Nat.reduceLT, Nat.reduceLeDiff, Nat.reduceAdd, Nat.reduceMul, Nat.reduceSub, Nat.reduceMod, Nat.reduceDiv, Nat.reduceEqDiff, Int.reduceToNat, reduceIte, reduceCtorEq, Int.reduceLE, Int.reduceLT, Int.reduceEq, Int.reduceNeg, Int.reduceAdd, Int.reduceSub, Int.reduceMul, e]
    · have e : r = -1 := by
        rcases (by omega : r = -1 ∨ r ≠ -1) with hr | hr
        · exact hr
        · obtain ⟨r0, r1, r2, r3⟩ := hr1 hr
          have := hall r.toNat (by omega)
          rw [r2] at this; cases this
      rw [e]
end
end Go.Proofs.Ytjepjeaecmioaaa.V

/- A valid stack: the program's own walk. -/
namespace Go.Proofs.Ytjepjeaecmioaaa.V
section
variable (cx : Cx) (h : List (Nat × Seg)) (n : Nat)
theorem indexSt0_Q (f a b : Nat) (G F : Nat → SV) (hF : (SV.fn f a G b F).lt n) :
    CallQ Try.prog cx 104 [.nils, .fn f a G b F] h n (.int .i64 (-1)) := by
  refine callQ_of_T (P := Try.prog) hti (nt := 19) (rs := [.tmp 4]) rfl rfl Try.call104 Try.func104 rfl _ (by simp only [go_sem, and_self]) (Nat.le_of_ble_eq_true rfl) _ (by first | exact trivial | (refine lt_flat rfl ?_; simp [SV.flat]; done) | simp only [go_sem]) fun hok => ?_
  simp only [go_sem, Nat.reduceBEq, Nat.reduceLT, Nat.reduceLeDiff, Nat.reduceAdd, Nat.reduceMul, Nat.reduceSub, Nat.reduceMod, Nat.reduceDiv, Nat.reduceEqDiff, Int.reduceToNat, reduceIte, reduceCtorEq, Int.reduceLE, Int.reduceLT, Int.reduceEq, Int.reduceNeg, Int.reduceAdd, Int.reduceSub, Int.reduceMul]
  refine T_unroll 0 ?_
  simp only [go_sem, Nat.reduceBEq, Nat.reduceLT, Nat.reduceLeDiff, Nat.reduceAdd, Nat.reduceMul, Nat.reduceSub, Nat.reduceMod, Nat.reduceDiv, Nat.reduceEqDiff, Int.reduceToNat, reduceIte, reduceCtorEq, Int.reduceLE, Int.reduceLT, Int.reduceEq, Int.reduceNeg, Int.reduceAdd, Int.reduceSub, Int.reduceMul]
theorem containsSt_Q (A : SV) (f a b : Nat) (G F : Nat → SV) (r : Int) (hAo : A.ok = True) (hc : ∀ nt n0, CallQ Try.prog ⟨cx.w0, cx.W, nt, n0⟩ 104 [A, .fn f a G b F] h n (.int .i64 r)) :
    CallQ Try.prog cx 91 [A, .fn f a G b F] h n (.bool (decide (0 ≤ r))) := by
  refine callQ_of_T (P := Try.prog) hti (nt := 9) (rs := [.tmp 4]) rfl rfl Try.call91 Try.func91 rfl _ (by simp only [go_sem, hAo]) (Nat.le_of_ble_eq_true rfl) _ (by trivial) fun hok => ?_
  simp only [go_sem, Nat.reduceBEq, Nat.reduceLT, Nat.reduceLeDiff, Nat.reduceAdd, Nat.reduceMul, Nat.reduceSub, Nat.reduceMod, Nat.reduceDiv, Nat.reduceEqDiff, Int.reduceToNat, reduceIte, reduceCtorEq, Int.reduceLE, Int.reduceLT, Int.reduceEq, Int.reduceNeg, Int.reduceAdd, Int.reduceSub, Int.reduceMul, hAo]
  refine (hc _ _).A ?_
  simp only [go_sem, Nat.reduceBEq, Nat.reduceLT, Nat.reduceLeDiff, Nat.reduceAdd, Nat.reduceMul, Nat.reduceSub, Nat.reduceMod, Nat.reduceDiv, Nat.reduceEqDiff, Int.reduceToNat, reduceIte, reduceCtorEq, Int.reduceLE, Int.reduceLT, Int.reduceEq, Int.reduceNeg, Int.reduceAdd, Int.reduceSub, Int.reduceMul]
theorem fstN_ex (p : Nat → Bool) : ∀ m : Nat, ∃ r : Int, (r = -1 → ∀ j : Nat, j < m → p j = false) ∧ (r ≠ -1 → 0 ≤ r ∧ r < m ∧ p r.toNat = true ∧ ∀ j : Nat, (j : Int) < r → p j = false)
  | 0 => ⟨-1, fun _ j hj => absurd hj (Nat.not_lt_zero j), fun h => absurd rfl h⟩
  | m + 1 => by
    obtain ⟨r, h0, h1⟩ := fstN_ex p m
    by_cases hr : r = -1
    · by_cases hp : p m = true
      · exact ⟨m, fun e => by omega, fun _ => ⟨by omega, by omega, by rw [Int.toNat_natCast]; exact hp, fun j hj => h0 hr j (by omega)⟩⟩
      · refine ⟨-1, fun _ j hj => ?_, fun h => absurd rfl h⟩
        rcases (by omega : j < m ∨ j = m) with h | rfl
        · exact h0 hr j h
        · simpa using hp
    · obtain ⟨a, b, c, d⟩ := h1 hr
      exact ⟨r, fun e => absurd e hr, fun _ => ⟨a, by omega, c, d⟩⟩
theorem validStack_Q (A : SV) (L : List Sh) (hA : StArg h n A L) (hLR : StR L) (hm9 : L.length ≤ 10000000) : CallQ Try.prog cx 67 [A] h n (.bool (stokB L)) := by
  rcases hA with ⟨rfl, rfl⟩ | ⟨i, cap, s, rfl, hi, hs, hL⟩
  · have e : stokB [] = true := stokB_t ⟨by simp, fun i hi => by simp at hi⟩
    refine callQ_of_T (P := Try.prog) hti (nt := 12) (rs := [.tmp 2]) rfl rfl Try.call67 Try.func67 rfl _ (by simp only [go_sem, and_self]) (Nat.le_of_ble_eq_true rfl) _ (by first | exact trivial | (refine lt_flat rfl ?_; simp [SV.flat]; done) | simp only [go_sem]) fun hok => ?_
    simp only [go_sem, Nat.reduceBEq, Nat.reduceLT, Nat.reduceLeDiff, Nat.reduceAdd, Nat.reduceMul, Nat.reduceSub, Nat.reduceMod, Nat.reduceDiv, Nat.reduceEqDiff, Int.reduceToNat, reduceIte, reduceCtorEq, Int.reduceLE, Int.reduceLT, Int.reduceEq, Int.reduceNeg, Int.reduceAdd, Int.reduceSub, Int.reduceMul, e]
    refine (containsSt_Q _ _ _ .nils _ _ _ _ _ (-1) rfl fun nt n0 => indexSt0_Q _ _ _ _ _ _ _ _ ?_).A ?_
    · exact fn_lt (xs := []) (ys := [.ptr n 0]) (fun v hv => by cases hv) (fun v hv => by simp at hv; subst hv; show n < _; omega)
    · simp only [go_sem, Nat.reduceBEq, Nat.reduceLT, Nat.reduceLeDiff, Nat.reduceAdd, Nat.reduceMul, Nat.reduceSub, Nat.reduceMod, Nat.reduceDiv, Nat.reduceEqDiff, Int.reduceToNat, reduceIte, reduceCtorEq, Int.reduceLE, Int.reduceLT, Int.reduceEq, Int.reduceNeg, Int.reduceAdd, Int.reduceSub, Int.reduceMul]
  refine callQ_of_T (P := Try.prog) hti (nt := 12) (rs := [.tmp 2]) rfl rfl Try.call67 Try.func67 rfl _ (by simp only [go_sem, and_self]) (Nat.le_of_ble_eq_true rfl) _ (by first | exact trivial | (refine lt_flat rfl ?_; simp [SV.flat]; done) | simp only [go_sem]) fun hok => ?_
  by_cases h6 : L.length ≤ 6
  rotate_left
  · have h6' : ¬ ((L.length : Int) ≤ 6) := by omega
    simp only [go_sem, Nat.reduceBEq, Nat.reduceLT, Nat.reduceLeDiff, Nat.reduceAdd, Nat.reduceMul, Nat.reduceSub, Nat.reduceMod, Nat.reduceDiv, Nat.reduceEqDiff, Int.reduceToNat, reduceIte, reduceCtorEq, Int.reduceLE, Int.reduceLT, Int.reduceEq, Int.reduceNeg, Int.reduceAdd, Int.reduceSub, Int.reduceMul, h6', stokB_f (fun hk : StOk L => h6 hk.1)]
  have h6' : (L.length : Int) ≤ 6 := by omega
  simp only [go_sem, Nat.reduceBEq, Nat.reduceLT, Nat.reduceLeDiff, Nat.reduceAdd, Nat.reduceMul, Nat.reduceSub, Nat.reduceMod, Nat.reduceDiv, Nat.reduceEqDiff, Int.reduceToNat, reduceIte, reduceCtorEq, Int.reduceLE, Int.reduceLT, Int.reduceEq, Int.reduceNeg, Int.reduceAdd, Int.reduceSub, Int.reduceMul, h6']
  obtain ⟨r, hr0, hr1⟩ := fstN_ex (fun j => !(validB (L.getD j sh0) && (decide ((L.getD j sh0).wide = (L.getD 0 sh0).wide) && decide ((L.getD j sh0).high = (L.getD 0 sh0).high)))) L.length
  refine (containsSt_Q _ _ _ (.sl i 0 L.length cap) _ _ _ _ _ r rfl fun nt n0 => indexSt_Q _ _ _ i cap L s _ _ _ _ _ (fun j => !(validB (L.getD j sh0) && (decide ((L.getD j sh0).wide = (L.getD 0 sh0).wide) && decide ((L.getD j sh0).high = (L.getD 0 sh0).high)))) r (by simp only [go_sem, Nat.reduceBEq, Nat.reduceLT, Nat.reduceLeDiff, Nat.reduceAdd, Nat.reduceMul, Nat.reduceSub, Nat.reduceMod, Nat.reduceDiv, Nat.reduceEqDiff, Int.reduceToNat, reduceIte, reduceCtorEq, Int.reduceLE, Int.reduceLT, Int.reduceEq, Int.reduceNeg, Int.reduceAdd, Int.reduceSub, Int.reduceMul, hs, hi]) (by omega) hm9 hL hLR ?_ hr0 hr1 fun j hj nt n0 => ?_).A ?_
  · exact fn_lt (xs := []) (ys := [.ptr n 0]) (fun v hv => by cases hv) (fun v hv => by simp at hv; subst hv; show n < _; omega)
  · exact validSt1_Q _ _ _ _ _ (hL.sh hLR hj).2 n i cap L s (by simp only [go_sem, Nat.reduceBEq, Nat.reduceLT, Nat.reduceLeDiff, Nat.reduceAdd, Nat.reduceMul, Nat.reduceSub, Nat.reduceMod, Nat.reduceDiv, Nat.reduceEqDiff, Int.reduceToNat, reduceIte, reduceCtorEq, Int.reduceLE, Int.reduceLT, Int.reduceEq, Int.reduceNeg, Int.reduceAdd, Int.reduceSub, Int.reduceMul]) (by omega) (by simp only [go_sem, Nat.reduceBEq, Nat.reduceLT, Nat.reduceLeDiff, Nat.reduceAdd, Nat.reduceMul, Nat.reduceSub, Nat.reduceMod, Nat.reduceDiv, Nat.reduceEqDiff, Int.reduceToNat, reduceIte, reduceCtorEq, Int.reduceLE, Int.reduceLT, Int.reduceEq, Int.reduceNeg, Int.reduceAdd, Int.reduceSub, Int.reduceMul, hs, hi]) (by omega) hL hLR (by omega)
  · have key : (!decide (0 ≤ r)) = stokB L := by
      by_cases hr : r = -1
      · rw [stokB_t ⟨h6, fun j hj => by
          have := hr0 hr j hj
          simp only [Bool.not_eq_false', Bool.and_eq_true, decide_eq_true_eq] at this
          exact ⟨by simpa [validB] using this.1, this.2⟩⟩]
        subst hr; rfl
      · obtain ⟨r0, r1, r2, _⟩ := hr1 hr
        rw [stokB_f (fun hk => by
          obtain ⟨k1, k2, k3⟩ := hk.2 r.toNat (by omega)
          rw [validB_true k1, decide_eq_true k2, decide_eq_true k3] at r2
          cases r2)]
        simp [r0]
    simp only [go_sem, Nat.reduceBEq, Nat.reduceLT, Nat.reduceLeDiff, Nat.reduceAdd, Nat.reduceMul, Nat.reduceSub, Nat.reduceMod, Nat.reduceDiv, Nat.reduceEqDiff, Int.reduceToNat, reduceIte, reduceCtorEq, Int.reduceLE, Int.reduceLT, Int.reduceEq, Int.reduceNeg, Int.reduceAdd, Int.reduceSub, Int.reduceMul]
    rw [← key]
noncomputable def codeSt (L : List Sh) (b : Bool) : Int := if stokB L then (if b then 0 else 2) else 1
theorem codeSt_Q (A : SV) (L : List Sh) (hA : StArg h n A L) (hLR : StR L) (hm9 : L.length ≤ 10000000) (b : Bool) : CallQ Try.prog cx 30 [A, .bool b] h n (.int .i64 (codeSt L b)) := by
  have hAo := hA.ok
  refine callQ_of_T (P := Try.prog) hti (nt := 12) (rs := [.tmp 4]) rfl rfl Try.call30 Try.func30 rfl _ (by simp only [go_sem, hAo]) (Nat.le_of_ble_eq_true rfl) _ (by trivial) fun hok => ?_
  simp only [go_sem, Nat.reduceBEq, Nat.reduceLT, Nat.reduceLeDiff, Nat.reduceAdd, Nat.reduceMul, Nat.reduceSub, Nat.reduceMod, Nat.reduceDiv, Nat.reduceEqDiff, Int.reduceToNat, reduceIte, reduceCtorEq, Int.reduceLE, Int.reduceLT, Int.reduceEq, Int.reduceNeg, Int.reduceAdd, Int.reduceSub, Int.reduceMul, hAo]
  refine (validStack_Q _ _ _ A L hA hLR hm9).A ?_
  unfold codeSt
  by_cases hs : stokB L = true
  · cases b <;> simp only [go_sem, Nat.reduceBEq, Nat.reduceLT, Nat.reduceLeDiff, Nat.reduceAdd, Nat.reduceMul, Nat.reduceSub, Nat.reduceMod, Nat.reduceDiv, Nat.reduceEqDiff, Int.reduceToNat, reduceIte, reduceCtorEq, Int.reduceLE, Int.reduceLT, Int.reduceEq, Int.reduceNeg, Int.reduceAdd, Int.reduceSub, Int.reduceMul, hs]
  · simp only [go_sem, Nat.reduceBEq, Nat.reduceLT, Nat.reduceLeDiff, Nat.reduceAdd, Nat.reduceMul, Nat.reduceSub, Nat.reduceMod, Nat.reduceDiv, Nat.reduceEqDiff, Int.reduceToNat, reduceIte, reduceCtorEq, Int.reduceLE, Int.reduceLT, Int.reduceEq, Int.reduceNeg, Int.reduceAdd, Int.reduceSub, Int.reduceMul, hs]
end
end Go.Proofs.Ytjepjeaecmioaaa.V

/- A copy of a stack. -/
namespace Go.Proofs.Ytjepjeaecmioaaa.V
section
variable (cx : Cx) (h : List (Nat × Seg)) (n : Nat)
set_option maxRecDepth 100000 in
theorem clone_E (i cap : Nat) (L : List Sh) (s : Seg) (hs : hget h i = some s) (hi : i < n) (hL : StAt s L) (hLR : StR L) (hm9 : L.length ≤ 10000000) (K : HK)
    (hK : ∀ k cap' h' n', n ≤ k → k < n' → HExt n h h' → HOk n' h' → (∃ t, hget h' k = some t ∧ t.rw = true ∧ StAt t L ∧ t.n = L.length * 266) → K (.sl k 0 L.length cap') h' n') :
    CallE Try.prog cx 33 [.sl i 0 L.length cap] h n K := by
  have hn := hL.1
  refine CallE.hokE ?_
  refine callE_of_T (P := Try.prog) hti (nt := 8) (rs := [.tmp 2]) rfl rfl Try.call33 Try.func33 rfl _ (by simp only [go_sem, and_self]) (Nat.le_of_ble_eq_true rfl) _ fun hok => ?_
  simp only [go_sem, Nat.reduceBEq, Nat.reduceLT, Nat.reduceLeDiff, Nat.reduceAdd, Nat.reduceMul, Nat.reduceSub, Nat.reduceMod, Nat.reduceDiv, Nat.reduceEqDiff, Int.reduceToNat, reduceIte, reduceCtorEq, Int.reduceLE, Int.reduceLT, Int.reduceEq, Int.reduceNeg, Int.reduceAdd, Int.reduceSub, Int.reduceMul, hs, hi, ↓hok.del (Nat.le_refl n)]
  refine ⟨⟨⟨trivial, Nat.succ_pos 265, ?_, ?_⟩, by omega⟩, fun cap' c1 c2 hok' => ?_⟩
  · show 0 + L.length * 266 ≤ s.n
    omega
  · refine allP_iff.2 fun j hj => ?_
    have hj : j < L.length * 266 := hj
    show (s.c (0 + j)).one
    rw [Nat.zero_add, hL.2 j hj]
    exact (stC_flat L j).one
  · refine hK (n + 1) cap' _ _ (by omega) (by omega) (by simp only [go_sem, Nat.reduceBEq, Nat.reduceLT, Nat.reduceLeDiff, Nat.reduceAdd, Nat.reduceMul, Nat.reduceSub, Nat.reduceMod, Nat.reduceDiv, Nat.reduceEqDiff, Int.reduceToNat, reduceIte, reduceCtorEq, Int.reduceLE, Int.reduceLT, Int.reduceEq, Int.reduceNeg, Int.reduceAdd, Int.reduceSub, Int.reduceMul, HExt_cons]) hok' ⟨_, hget_hit _ _ _, rfl, ⟨Nat.le_refl _, fun k hk => ?_⟩, rfl⟩
    refine Eq.trans ?_ (hL.2 k hk)
    simp only [both, news, Nat.not_lt_zero, if_false, Nat.sub_zero, Nat.zero_add]
end
end Go.Proofs.Ytjepjeaecmioaaa.V

/- The darkest cell of a sheet, by the reference. -/
namespace Go.Proofs.Ytjepjeaecmioaaa.V
/-- The darkest of the first cells. -/
def mostN (S : Sh) (W : Nat) : Nat → Int
  | 0 => 0
  | j + 1 => max (mostN S W j) (darkB S ((j % W : Nat) : Int) ((j / W : Nat) : Int))
section
variable (cx : Cx) (h : List (Nat × Seg)) (n : Nat)
theorem dark2A_Q (i : Nat) (s : Seg) (S : Sh) (x y : Int) (hs : hget h i = some s) (hi : i < n) (hS : ShAt s 0 S) (hG : Good S) (hx : 0 ≤ x) (hx8 : x < 8) (hy : 0 ≤ y) (hy8 : y < 8) :
    CallQ Try.prog cx 64 [.ptr i 0, spot x y] h n (.int .i64 (darkB S x y)) := by
  have h0 := hG.dye y x 0 hy hy8 hx hx8 (by omega) (by omega)
  have h1 := hG.dye y x 1 hy hy8 hx hx8 (by omega) (by omega)
  have h2 := hG.dye y x 2 hy hy8 hx hx8 (by omega) (by omega)
  have e0 := hS.dyeN 0 hy hy8 hx hx8 (by omega)
  have e1 := hS.dyeN 1 hy hy8 hx hx8 (by omega)
  have e2 := hS.dyeN 2 hy hy8 hx hx8 (by omega)
  have hl := hS.1
  simp only [Nat.zero_add, Nat.add_zero, Int.natCast_zero, Int.natCast_one] at e0 e1 e2 hl
  have e2' : s.c (66 + y.toNat * 24 + x.toNat * 3 + 2) = .int .i16 (S.dye y x 2) := e2
  have l0 : 66 + y.toNat * 24 + x.toNat * 3 ≤ s.n - 3 := by omega
  have l1 : 66 + y.toNat * 24 + x.toNat * 3 + 3 ≤ s.n := by omega
  have l2 : 3 ≤ s.n := by omega
  refine callQ_of_T (P := Try.prog) hti (nt := 27) (rs := [.tmp 4]) rfl rfl Try.call64 Try.func64 rfl _ (by simp only [go_sem, and_self]) (Nat.le_of_ble_eq_true rfl) _ (by first | exact trivial | (refine lt_flat rfl ?_; simp [SV.flat]; done) | simp only [go_sem]) fun hok => ?_
  simp only [go_sem, Nat.reduceBEq, Nat.reduceLT, Nat.reduceLeDiff, Nat.reduceAdd, Nat.reduceMul, Nat.reduceSub, Nat.reduceMod, Nat.reduceDiv, Nat.reduceEqDiff, Int.reduceToNat, reduceIte, reduceCtorEq, Int.reduceLE, Int.reduceLT, Int.reduceEq, Int.reduceNeg, Int.reduceAdd, Int.reduceSub, Int.reduceMul]
  refine T_drawG hti 12 [11] (.b 0 0 (.b 0 1 (.b 0 2 (.b 0 3 (.b 0 4 (.b 0 5 (.b 0 6 (.b 0 7 (.b 0 8 (.b 0 9 (.b 2 10 (.b 4 11 (.f) .o) .o) .o) .o) .o) .o) .o) .o) .o) .o) .o) .o) _ _ (by kernel_rfl) (by kernel_rfl) ?_
  simp only [go_sem, Nat.reduceBEq, Nat.reduceLT, Nat.reduceLeDiff, Nat.reduceAdd, Nat.reduceMul, Nat.reduceSub, Nat.reduceMod, Nat.reduceDiv, Nat.reduceEqDiff, Int.reduceToNat, reduceIte, reduceCtorEq, Int.reduceLE, Int.reduceLT, Int.reduceEq, Int.reduceNeg, Int.reduceAdd, Int.reduceSub, Int.reduceMul, hs, hi, hx, hx8, hy, hy8, e0, e1, e2', l0, l1, l2, w64 (n := S.dye y x 0) (by omega), w64 (n := S.dye y x 1) (by omega), w64 (n := S.dye y x 2) (by omega), w64 (n := S.dye y x 0 + S.dye y x 1) (by omega), w64 (n := S.dye y x 0 + S.dye y x 1 + S.dye y x 2) (by omega)]
  rfl
theorem darkest2_Q (i : Nat) (s : Seg) (S : Sh) (W H : Nat) (hs : hget h i = some s) (hi : i < n) (hS : ShAt s 0 S) (hG : Good S) (hW : S.wide = W) (hH : S.high = H) :
    CallQ Try.prog cx 28 [.ptr i 0] h n (.int .i64 (mostN S W (H * W))) := by
  have hsm := hG.small
  have hWH : W ≤ 8 ∧ H ≤ 8 := by unfold Small at hsm; omega
  have hWH2 : H * W ≤ 64 := Nat.mul_le_mul hWH.2 hWH.1
  refine callQ_of_T (P := Try.prog) hti (nt := 23) (rs := [.tmp 2]) rfl rfl Try.call28 Try.func28 rfl _ (by simp only [go_sem, and_self]) (Nat.le_of_ble_eq_true rfl) _ (by first | exact trivial | (refine lt_flat rfl ?_; simp [SV.flat]; done) | simp only [go_sem]) fun hok => ?_
  simp only [go_sem, Nat.reduceBEq, Nat.reduceLT, Nat.reduceLeDiff, Nat.reduceAdd, Nat.reduceMul, Nat.reduceSub, Nat.reduceMod, Nat.reduceDiv, Nat.reduceEqDiff, Int.reduceToNat, reduceIte, reduceCtorEq, Int.reduceLE, Int.reduceLT, Int.reduceEq, Int.reduceNeg, Int.reduceAdd, Int.reduceSub, Int.reduceMul]
  refine callA_false (spots_E _ _ _ i 0 s S W H (by simp only [go_sem, Nat.reduceBEq, Nat.reduceLT, Nat.reduceLeDiff, Nat.reduceAdd, Nat.reduceMul, Nat.reduceSub, Nat.reduceMod, Nat.reduceDiv, Nat.reduceEqDiff, Int.reduceToNat, reduceIte, reduceCtorEq, Int.reduceLE, Int.reduceLT, Int.reduceEq, Int.reduceNeg, Int.reduceAdd, Int.reduceSub, Int.reduceMul, hs, hi]) (by omega) hS hW hH hWH.1 hWH.2 _ fun cap hc1 hc2 => ?_)
  simp only [go_sem, Nat.reduceBEq, Nat.reduceLT, Nat.reduceLeDiff, Nat.reduceAdd, Nat.reduceMul, Nat.reduceSub, Nat.reduceMod, Nat.reduceDiv, Nat.reduceEqDiff, Int.reduceToNat, reduceIte, reduceCtorEq, Int.reduceLE, Int.reduceLT, Int.reduceEq, Int.reduceNeg, Int.reduceAdd, Int.reduceSub, Int.reduceMul]
  refine T_lp (ι := { j : Nat // j ≤ H * W })
    (fun j => ([(0, .ptr i 0), (3, .int .i64 (mostN S W j.1)), (4, .sl n 0 (H * W) cap), (5, .int .i64 j.1)], (n, ⟨H * W * 2, cellC W, true, none⟩) :: h, n + 1)) (fun j => H * W - j.1) ⟨0, by omega⟩ ?_ ?_
  · refine Imp.id (by simp) ?_ ?_
    · simp only [go_sem, Nat.reduceBEq, Nat.reduceLT, Nat.reduceLeDiff, Nat.reduceAdd, Nat.reduceMul, Nat.reduceSub, Nat.reduceMod, Nat.reduceDiv, Nat.reduceEqDiff, Int.reduceToNat, reduceIte, reduceCtorEq, Int.reduceLE, Int.reduceLT, Int.reduceEq, Int.reduceNeg, Int.reduceAdd, Int.reduceSub, Int.reduceMul, mostN]
      omega
    · exact impH.cons0 (hget_hit _ _ _) (by simp) (SegLe.flat (Nat.le_refl _) id (.inl rfl) fun z hz => ⟨rfl, cellC_flat W z⟩) (impH.base0 hok (by simp) (HExt.rfl.cons (Nat.le_refl n)))
  · rintro ⟨j, hj⟩
    simp only [go_sem, Nat.reduceBEq, Nat.reduceLT, Nat.reduceLeDiff, Nat.reduceAdd, Nat.reduceMul, Nat.reduceSub, Nat.reduceMod, Nat.reduceDiv, Nat.reduceEqDiff, Int.reduceToNat, reduceIte, reduceCtorEq, Int.reduceLE, Int.reduceLT, Int.reduceEq, Int.reduceNeg, Int.reduceAdd, Int.reduceSub, Int.reduceMul, decide_eq_true_eq, decide_eq_false_iff_not]
    refine ⟨fun h1 => ?_, fun h1 => ?_⟩
    · obtain ⟨x0, x8, y0, y8⟩ := cell_in hsm hW hH (j := j) (by omega)
      have r1 : (0 : Int) ≤ j ∧ (j : Int) < ((H * W : Nat) : Int) := ⟨by omega, h1⟩
      have b1 : j * 2 ≤ H * W * 2 - 2 := by omega
      have b3 : 2 ≤ H * W * 2 := by omega
      simp only [go_sem, Nat.reduceBEq, Nat.reduceLT, Nat.reduceLeDiff, Nat.reduceAdd, Nat.reduceMul, Nat.reduceSub, Nat.reduceMod, Nat.reduceDiv, Nat.reduceEqDiff, Int.reduceToNat, reduceIte, reduceCtorEq, Int.reduceLE, Int.reduceLT, Int.reduceEq, Int.reduceNeg, Int.reduceAdd, Int.reduceSub, Int.reduceMul, r1, b1, b3, cellC_x, cellC_y]
      refine ⟨by omega, (dark2A_Q _ _ _ i s S _ _ (by simp only [go_sem, Nat.reduceBEq, Nat.reduceLT, Nat.reduceLeDiff, Nat.reduceAdd, Nat.reduceMul, Nat.reduceSub, Nat.reduceMod, Nat.reduceDiv, Nat.reduceEqDiff, Int.reduceToNat, reduceIte, reduceCtorEq, Int.reduceLE, Int.reduceLT, Int.reduceEq, Int.reduceNeg, Int.reduceAdd, Int.reduceSub, Int.reduceMul, hs, hi]) (by omega) hS hG x0 x8 y0 y8).A ?_⟩
      simp only [go_sem, Nat.reduceBEq, Nat.reduceLT, Nat.reduceLeDiff, Nat.reduceAdd, Nat.reduceMul, Nat.reduceSub, Nat.reduceMod, Nat.reduceDiv, Nat.reduceEqDiff, Int.reduceToNat, reduceIte, reduceCtorEq, Int.reduceLE, Int.reduceLT, Int.reduceEq, Int.reduceNeg, Int.reduceAdd, Int.reduceSub, Int.reduceMul]
      refine (max2_Q _ _ _ _ _).A ?_
      simp only [go_sem, Nat.reduceBEq, Nat.reduceLT, Nat.reduceLeDiff, Nat.reduceAdd, Nat.reduceMul, Nat.reduceSub, Nat.reduceMod, Nat.reduceDiv, Nat.reduceEqDiff, Int.reduceToNat, reduceIte, reduceCtorEq, Int.reduceLE, Int.reduceLT, Int.reduceEq, Int.reduceNeg, Int.reduceAdd, Int.reduceSub, Int.reduceMul]
      refine ⟨⟨j + 1, by omega⟩, by show H * W - (j + 1) < H * W - j; omega, ?_⟩
      refine Imp.id (by simp) ?_ ?_
      · simp only [go_sem, Nat.reduceBEq, Nat.reduceLT, Nat.reduceLeDiff, Nat.reduceAdd, Nat.reduceMul, Nat.reduceSub, Nat.reduceMod, Nat.reduceDiv, Nat.reduceEqDiff, Int.reduceToNat, reduceIte, reduceCtorEq, Int.reduceLE, Int.reduceLT, Int.reduceEq, Int.reduceNeg, Int.reduceAdd, Int.reduceSub, Int.reduceMul, mostN, w64 (n := (j : Int) + 1) (by omega), Int.natCast_add, Int.natCast_one]
        omega
      · exact impH.cons0 (hget_hit _ _ _) (by simp) (SegLe.flat (Nat.le_refl _) id (.inr rfl) fun z hz => ⟨rfl, cellC_flat W z⟩) (impH.base0 hok (by simp) (HExt.rfl.cons (Nat.le_refl n)))
    · have hj2 : j = H * W := by omega
      subst hj2
      rfl
end
end Go.Proofs.Ytjepjeaecmioaaa.V

/- The law's lists of spots that were made: compared, marked, looked at again. -/
namespace Go.Proofs.Ytjepjeaecmioaaa.V
/-- A list of spots that a call has made. -/
def SpsOut (h : List (Nat × Seg)) (lo n : Nat) (V : SV) (L : List (Int × Int)) : Prop :=
  (V = .nils ∧ L = []) ∨ ∃ i cap s, V = .sl i 0 L.length cap ∧ lo ≤ i ∧ i < n ∧ hget h i = some s ∧ s.rw = true ∧ s.n = L.length * 2 ∧ ∀ k, k < L.length * 2 → s.c k = spotsC L k
theorem SpsOut.ok {h : List (Nat × Seg)} {lo n : Nat} {V : SV} {L : List (Int × Int)} (hA : SpsOut h lo n V L) : V.ok = True := by
  rcases hA with ⟨rfl, rfl⟩ | ⟨i, cap, s, rfl, _⟩ <;> rfl
theorem SpsOut.mono {h h' : List (Nat × Seg)} {lo n n' : Nat} {V : SV} {L : List (Int × Int)} (hA : SpsOut h lo n V L) (hn : n ≤ n') (hx : ∀ i, lo ≤ i → i < n → ∀ t, hget h i = some t → hget h' i = some t) : SpsOut h' lo n' V L := by
  rcases hA with h1 | ⟨i, cap, s, rfl, h1, h2, h3, h4⟩
  · exact .inl h1
  · exact .inr ⟨i, cap, s, rfl, h1, by omega, hx i h1 h2 s h3, h4⟩
theorem SpsOut.ext {h h' : List (Nat × Seg)} {lo n n' : Nat} {V : SV} {L : List (Int × Int)} (hA : SpsOut h lo n V L) (hn : n ≤ n') (hx : HExt n h h') : SpsOut h' lo n' V L := hA.mono hn fun i _ hi => hx i hi
theorem SpsOut.mono' {h : List (Nat × Seg)} {lo lo' n : Nat} {V : SV} {L : List (Int × Int)} (hA : SpsOut h lo n V L) (hl : lo' ≤ lo) : SpsOut h lo' n V L := by
  rcases hA with h1 | ⟨i, cap, s, rfl, h1, h2⟩
  · exact .inl h1
  · exact .inr ⟨i, cap, s, rfl, by omega, h2⟩
/-- Spots that were marked. -/
def SpsHeld (h : List (Nat × Seg)) (lo n : Nat) (V : SV) (len : Nat) : Prop :=
  (V = .nils ∧ len = 0) ∨ ∃ i cap s, V = .sl i 0 len cap ∧ lo ≤ i ∧ i < n ∧ hget h i = some s ∧ s.n = len * 2 ∧ ∀ k : Nat, k < len → s.c (k * 2) = .int .i8 (IntKind.i8.wrap (2 * (k : Int) + 1)) ∧ s.c (k * 2 + 1) = .int .i8 (IntKind.i8.wrap (2 * (k : Int) + 1 + 1))
theorem SpsHeld.ext {h h' : List (Nat × Seg)} {lo n n' : Nat} {V : SV} {len : Nat} (hA : SpsHeld h lo n V len) (hn : n ≤ n') (hx : HExt n h h') : SpsHeld h' lo n' V len := by
  rcases hA with h1 | ⟨i, cap, s, rfl, h1, h2, h3, h4⟩
  · exact .inl h1
  · exact .inr ⟨i, cap, s, rfl, h1, by omega, hx i h2 s h3, h4⟩
theorem upd2_at {N q : Nat} (c : Nat → SV) (v1 v2 : SV) (h : 2 ≤ N) : (upd (if q * 2 = 0 ∧ 1 = N then cl [v1] else upd c (q * 2) v1) (q * 2 + 1) v2) (q * 2) = v1 ∧ (upd (if q * 2 = 0 ∧ 1 = N then cl [v1] else upd c (q * 2) v1) (q * 2 + 1) v2) (q * 2 + 1) = v2 ∧
    ∀ z, z ≠ q * 2 → z ≠ q * 2 + 1 → (upd (if q * 2 = 0 ∧ 1 = N then cl [v1] else upd c (q * 2) v1) (q * 2 + 1) v2) z = c z := by
  have e0 : ¬ (q * 2 = 0 ∧ 1 = N) := by omega
  rw [if_neg e0]
  refine ⟨?_, ?_, fun z h1 h2 => ?_⟩
  · rw [upd_far (by omega)]; simp [upd]
  · simp [upd]
  · rw [upd_far h2, upd_far h1]
section
variable (cx : Cx) (h : List (Nat × Seg)) (n : Nat)
theorem eqSpots_Q (V V' : SV) (L : List (Int × Int)) (lo lo' : Nat) (hA : SpsOut h lo n V L) (hA' : SpsOut h lo' n V' L) (hm9 : L.length ≤ 1000000000) :
    CallQ Try.prog cx 21 [V, V'] h n (.bool true) := by
  rcases hA with ⟨rfl, rfl⟩ | ⟨i, cap, s, rfl, h0, hi, hs, _, hn, hc⟩ <;> rcases hA' with ⟨rfl, hL⟩ | ⟨i', cap', s', rfl, h0', hi', hs', _, hn', hc'⟩
  · refine callQ_of_T (P := Try.prog) hti (nt := 27) (rs := [.tmp 4]) rfl rfl Try.call21 Try.func21 rfl _ (by simp only [go_sem, and_self]) (Nat.le_of_ble_eq_true rfl) _ (by first | exact trivial | (refine lt_flat rfl ?_; simp [SV.flat]; done) | simp only [go_sem]) fun hok => ?_
    simp only [go_sem, Nat.reduceBEq, Nat.reduceLT, Nat.reduceLeDiff, Nat.reduceAdd, Nat.reduceMul, Nat.reduceSub, Nat.reduceMod, Nat.reduceDiv, Nat.reduceEqDiff, Int.reduceToNat, reduceIte, reduceCtorEq, Int.reduceLE, Int.reduceLT, Int.reduceEq, Int.reduceNeg, Int.reduceAdd, Int.reduceSub, Int.reduceMul]
    refine T_unroll 0 ?_
    simp only [go_sem, Nat.reduceBEq, Nat.reduceLT, Nat.reduceLeDiff, Nat.reduceAdd, Nat.reduceMul, Nat.reduceSub, Nat.reduceMod, Nat.reduceDiv, Nat.reduceEqDiff, Int.reduceToNat, reduceIte, reduceCtorEq, Int.reduceLE, Int.reduceLT, Int.reduceEq, Int.reduceNeg, Int.reduceAdd, Int.reduceSub, Int.reduceMul]
  · refine callQ_of_T (P := Try.prog) hti (nt := 27) (rs := [.tmp 4]) rfl rfl Try.call21 Try.func21 rfl _ (by simp only [go_sem, and_self]) (Nat.le_of_ble_eq_true rfl) _ (by first | exact trivial | (refine lt_flat rfl ?_; simp [SV.flat]; done) | simp only [go_sem]) fun hok => ?_
    simp only [go_sem, Nat.reduceBEq, Nat.reduceLT, Nat.reduceLeDiff, Nat.reduceAdd, Nat.reduceMul, Nat.reduceSub, Nat.reduceMod, Nat.reduceDiv, Nat.reduceEqDiff, Int.reduceToNat, reduceIte, reduceCtorEq, Int.reduceLE, Int.reduceLT, Int.reduceEq, Int.reduceNeg, Int.reduceAdd, Int.reduceSub, Int.reduceMul]
    refine T_unroll 0 ?_
    simp only [go_sem, Nat.reduceBEq, Nat.reduceLT, Nat.reduceLeDiff, Nat.reduceAdd, Nat.reduceMul, Nat.reduceSub, Nat.reduceMod, Nat.reduceDiv, Nat.reduceEqDiff, Int.reduceToNat, reduceIte, reduceCtorEq, Int.reduceLE, Int.reduceLT, Int.reduceEq, Int.reduceNeg, Int.reduceAdd, Int.reduceSub, Int.reduceMul]
  · subst hL
    refine callQ_of_T (P := Try.prog) hti (nt := 27) (rs := [.tmp 4]) rfl rfl Try.call21 Try.func21 rfl _ (by simp only [go_sem, and_self]) (Nat.le_of_ble_eq_true rfl) _ (by first | exact trivial | (refine lt_flat rfl ?_; simp [SV.flat]; done) | simp only [go_sem]) fun hok => ?_
    simp only [go_sem, Nat.reduceBEq, Nat.reduceLT, Nat.reduceLeDiff, Nat.reduceAdd, Nat.reduceMul, Nat.reduceSub, Nat.reduceMod, Nat.reduceDiv, Nat.reduceEqDiff, Int.reduceToNat, reduceIte, reduceCtorEq, Int.reduceLE, Int.reduceLT, Int.reduceEq, Int.reduceNeg, Int.reduceAdd, Int.reduceSub, Int.reduceMul]
    refine T_unroll 0 ?_
    simp only [go_sem, Nat.reduceBEq, Nat.reduceLT, Nat.reduceLeDiff, Nat.reduceAdd, Nat.reduceMul, Nat.reduceSub, Nat.reduceMod, Nat.reduceDiv, Nat.reduceEqDiff, Int.reduceToNat, reduceIte, reduceCtorEq, Int.reduceLE, Int.reduceLT, Int.reduceEq, Int.reduceNeg, Int.reduceAdd, Int.reduceSub, Int.reduceMul]
  · exact eqSpotS_Q cx h n i cap i' cap' L s s' hs hi ⟨by omega, hc⟩ hs' hi' ⟨by omega, hc'⟩ hm9
theorem markSpots_E (V : SV) (L : List (Int × Int)) (lo : Nat) (hA : SpsOut h lo n V L) (hm9 : L.length ≤ 1000000000) (K : HK)
    (hK : ∀ h', HOk n h' → (∀ m h0, m ≤ lo → HExt m h0 h → HExt m h0 h') → SpsHeld h' lo n V L.length → K (.int .i64 (2 * L.length + 1)) h' n) :
    CallE Try.prog cx 22 [V, .int .i64 1] h n K := by
  refine CallE.hokE ?_
  rcases hA with ⟨rfl, rfl⟩ | ⟨i, cap, s, rfl, h0, hi, hs, hrw, hn, hc⟩
  · refine callE_of_T (P := Try.prog) hti (nt := 29) (rs := [.tmp 4]) rfl rfl Try.call22 Try.func22 rfl _ (by simp only [go_sem, and_self]) (Nat.le_of_ble_eq_true rfl) _ fun hok => ?_
    simp only [go_sem, Nat.reduceBEq, Nat.reduceLT, Nat.reduceLeDiff, Nat.reduceAdd, Nat.reduceMul, Nat.reduceSub, Nat.reduceMod, Nat.reduceDiv, Nat.reduceEqDiff, Int.reduceToNat, reduceIte, reduceCtorEq, Int.reduceLE, Int.reduceLT, Int.reduceEq, Int.reduceNeg, Int.reduceAdd, Int.reduceSub, Int.reduceMul]
    refine T_unroll 0 ?_
    simp only [go_sem, Nat.reduceBEq, Nat.reduceLT, Nat.reduceLeDiff, Nat.reduceAdd, Nat.reduceMul, Nat.reduceSub, Nat.reduceMod, Nat.reduceDiv, Nat.reduceEqDiff, Int.reduceToNat, reduceIte, reduceCtorEq, Int.reduceLE, Int.reduceLT, Int.reduceEq, Int.reduceNeg, Int.reduceAdd, Int.reduceSub, Int.reduceMul]
    exact fun hok' => hK h hok' (fun m h0 _ hx => hx) (.inl ⟨rfl, rfl⟩)
  · have hfl0 : ∀ k, k < s.n → (s.c k).flat := fun k hk => by rw [hc k (by omega)]; exact spotsC_flat _ _
    refine callE_of_T (P := Try.prog) hti (nt := 29) (rs := [.tmp 4]) rfl rfl Try.call22 Try.func22 rfl _ (by simp only [go_sem, and_self]) (Nat.le_of_ble_eq_true rfl) _ fun hok => ?_
    simp only [go_sem, Nat.reduceBEq, Nat.reduceLT, Nat.reduceLeDiff, Nat.reduceAdd, Nat.reduceMul, Nat.reduceSub, Nat.reduceMod, Nat.reduceDiv, Nat.reduceEqDiff, Int.reduceToNat, reduceIte, reduceCtorEq, Int.reduceLE, Int.reduceLT, Int.reduceEq, Int.reduceNeg, Int.reduceAdd, Int.reduceSub, Int.reduceMul]
    refine T_lp (ι := { w : Nat × (Nat → SV) // w.1 ≤ L.length ∧ (∀ k, k < s.n → (w.2 k).flat) ∧ ∀ k : Nat, k < w.1 → w.2 (k * 2) = .int .i8 (IntKind.i8.wrap (2 * (k : Int) + 1)) ∧ w.2 (k * 2 + 1) = .int .i8 (IntKind.i8.wrap (2 * (k : Int) + 1 + 1)) })
      (fun w => ([(0, .sl i 0 L.length cap), (1, .int .i64 (2 * w.1.1 + 1)), (5, .int .i64 w.1.1)], hset h i ⟨s.n, w.1.2, true, s.own⟩, n)) (fun w => L.length - w.1.1) ⟨(0, s.c), by simp, hfl0, fun k hk => absurd hk (Nat.not_lt_zero k)⟩ ?_ ?_
    · refine Imp.id (by simp) ?_ ?_
      · simp only [go_sem, Nat.reduceBEq, Nat.reduceLT, Nat.reduceLeDiff, Nat.reduceAdd, Nat.reduceMul, Nat.reduceSub, Nat.reduceMod, Nat.reduceDiv, Nat.reduceEqDiff, Int.reduceToNat, reduceIte, reduceCtorEq, Int.reduceLE, Int.reduceLT, Int.reduceEq, Int.reduceNeg, Int.reduceAdd, Int.reduceSub, Int.reduceMul]
        exact hi
      · have e : hset h i ⟨s.n, s.c, true, s.own⟩ = hset h i s := by rw [← hrw]
        rw [e]
        exact impH.set0 hok (Nat.le_refl _) hs (fun j hj hji t ht => ht) hs (SegLe.flat (Nat.le_refl _) id (.inr rfl) fun k hk => ⟨rfl, hfl0 k hk⟩)
    · rintro ⟨⟨q, c⟩, hq, hfl, hmk⟩
      simp only at hq hfl hmk
      simp only [go_sem, Nat.reduceBEq, Nat.reduceLT, Nat.reduceLeDiff, Nat.reduceAdd, Nat.reduceMul, Nat.reduceSub, Nat.reduceMod, Nat.reduceDiv, Nat.reduceEqDiff, Int.reduceToNat, reduceIte, reduceCtorEq, Int.reduceLE, Int.reduceLT, Int.reduceEq, Int.reduceNeg, Int.reduceAdd, Int.reduceSub, Int.reduceMul, decide_eq_true_eq, decide_eq_false_iff_not]
      refine ⟨fun h1 => ?_, fun h1 => ?_⟩
      · have r1 : (0 : Int) ≤ q ∧ (q : Int) < L.length := ⟨by omega, by omega⟩
        have b1 : q * 2 ≤ s.n - 2 := by omega
        have b2 : q * 2 ≤ s.n - 1 := by omega
        have b3 : q * 2 + 1 ≤ s.n - 1 := by omega
        have b4 : q * 2 + 2 ≤ s.n := by omega
        have b5 : 2 ≤ s.n := by omega
        have b6 : 1 ≤ s.n := by omega
        have hg : ∀ c, hget (hset h i ⟨s.n, c, true, s.own⟩) i = some ⟨s.n, c, true, s.own⟩ := fun c => hget_hset_self hs _
        simp only [go_sem, Nat.reduceBEq, Nat.reduceLT, Nat.reduceLeDiff, Nat.reduceAdd, Nat.reduceMul, Nat.reduceSub, Nat.reduceMod, Nat.reduceDiv, Nat.reduceEqDiff, Int.reduceToNat, reduceIte, reduceCtorEq, Int.reduceLE, Int.reduceLT, Int.reduceEq, Int.reduceNeg, Int.reduceAdd, Int.reduceSub, Int.reduceMul, hg, hi, r1, b1, b2, b3, b4, b5, b6, w64 (n := 2 * (q : Int) + 1 + 1) (by omega)]
        have hf1 := wr_flat (N := s.n) (o := q * 2) (v := .int .i8 (IntKind.i8.wrap (2 * (q : Int) + 1))) trivial hfl
        have hf2 : ∀ k, k < s.n → ((upd (if q * 2 = 0 ∧ 1 = s.n then cl [.int .i8 (IntKind.i8.wrap (2 * (q : Int) + 1))] else upd c (q * 2) (.int .i8 (IntKind.i8.wrap (2 * (q : Int) + 1)))) (q * 2 + 1) (.int .i8 (IntKind.i8.wrap (2 * (q : Int) + 1 + 1)))) k).flat := fun k hk => by
          unfold upd; split
          · trivial
          · exact hf1 k hk
        refine ⟨by omega, ⟨(q + 1, _), by show q + 1 ≤ L.length; omega, hf2, fun k hk => ?_⟩, by show L.length - (q + 1) < L.length - q; omega, ?_⟩
        · obtain ⟨u1, u2, u3⟩ := upd2_at (N := s.n) (q := q) c (.int .i8 (IntKind.i8.wrap (2 * (q : Int) + 1))) (.int .i8 (IntKind.i8.wrap (2 * (q : Int) + 1 + 1))) b5
          by_cases hkq : k = q
          · subst hkq; exact ⟨u1, u2⟩
          · have hk' : k < q := by have : k < q + 1 := hk; omega
            exact ⟨(u3 _ (by omega) (by omega)).trans (hmk k hk').1, (u3 _ (by omega) (by omega)).trans (hmk k hk').2⟩
        refine Imp.id (by simp) ?_ (impH.base0 (hok_set hok hf2) (by simp) HExt.rfl)
        simp only [go_sem, Nat.reduceBEq, Nat.reduceLT, Nat.reduceLeDiff, Nat.reduceAdd, Nat.reduceMul, Nat.reduceSub, Nat.reduceMod, Nat.reduceDiv, Nat.reduceEqDiff, Int.reduceToNat, reduceIte, reduceCtorEq, Int.reduceLE, Int.reduceLT, Int.reduceEq, Int.reduceNeg, Int.reduceAdd, Int.reduceSub, Int.reduceMul, w64 (n := (q : Int) + 1) (by omega), w64 (n := 2 * (q : Int) + 1 + 1 + 1) (by omega), Int.natCast_add, Int.natCast_one]
        exact ⟨hi, by rw [show (2 * (q : Int) + 1 + 1 + 1) = 2 * ((q : Int) + 1) + 1 by omega]⟩
      · have hq' : q = L.length := by omega
        subst hq'
        refine fun hok' => hK _ hok' (fun m h0 hm hx j hj t ht => ?_) (.inr ⟨i, cap, _, rfl, h0, hi, hget_hset_self hs _, hn, hmk⟩)
        rw [hget_hset, if_neg (by omega)]; exact hx j hj t ht
theorem heldSpots_Q (V : SV) (len : Nat) (lo : Nat) (hA : SpsHeld h lo n V len) (hm9 : len ≤ 1000000000) :
    CallQ Try.prog cx 23 [V, .int .i64 1] h n (.int .i64 (2 * len + 1)) := by
  rcases hA with ⟨rfl, rfl⟩ | ⟨i, cap, s, rfl, h0, hi, hs, hn, hc⟩
  · refine callQ_of_T (P := Try.prog) hti (nt := 33) (rs := [.tmp 4]) rfl rfl Try.call23 Try.func23 rfl _ (by simp only [go_sem, and_self]) (Nat.le_of_ble_eq_true rfl) _ (by first | exact trivial | (refine lt_flat rfl ?_; simp [SV.flat]; done) | simp only [go_sem]) fun hok => ?_
    simp only [go_sem, Nat.reduceBEq, Nat.reduceLT, Nat.reduceLeDiff, Nat.reduceAdd, Nat.reduceMul, Nat.reduceSub, Nat.reduceMod, Nat.reduceDiv, Nat.reduceEqDiff, Int.reduceToNat, reduceIte, reduceCtorEq, Int.reduceLE, Int.reduceLT, Int.reduceEq, Int.reduceNeg, Int.reduceAdd, Int.reduceSub, Int.reduceMul]
    refine T_unroll 0 ?_
    simp only [go_sem, Nat.reduceBEq, Nat.reduceLT, Nat.reduceLeDiff, Nat.reduceAdd, Nat.reduceMul, Nat.reduceSub, Nat.reduceMod, Nat.reduceDiv, Nat.reduceEqDiff, Int.reduceToNat, reduceIte, reduceCtorEq, Int.reduceLE, Int.reduceLT, Int.reduceEq, Int.reduceNeg, Int.reduceAdd, Int.reduceSub, Int.reduceMul]
  · refine callQ_of_T (P := Try.prog) hti (nt := 33) (rs := [.tmp 4]) rfl rfl Try.call23 Try.func23 rfl _ (by simp only [go_sem, and_self]) (Nat.le_of_ble_eq_true rfl) _ (by first | exact trivial | (refine lt_flat rfl ?_; simp [SV.flat]; done) | simp only [go_sem]) fun hok => ?_
    simp only [go_sem, Nat.reduceBEq, Nat.reduceLT, Nat.reduceLeDiff, Nat.reduceAdd, Nat.reduceMul, Nat.reduceSub, Nat.reduceMod, Nat.reduceDiv, Nat.reduceEqDiff, Int.reduceToNat, reduceIte, reduceCtorEq, Int.reduceLE, Int.reduceLT, Int.reduceEq, Int.reduceNeg, Int.reduceAdd, Int.reduceSub, Int.reduceMul]
    refine T_lp (ι := { q : Nat // q ≤ len }) (fun q => ([(0, .sl i 0 len cap), (1, .int .i64 (2 * q.1 + 1)), (5, .int .i64 q.1)], h, n)) (fun q => len - q.1) ⟨0, by omega⟩ ?_ ?_
    · refine Imp.id (by simp) ?_ (impH.base0 hok (by simp) HExt.rfl)
      simp only [go_sem, Nat.reduceBEq, Nat.reduceLT, Nat.reduceLeDiff, Nat.reduceAdd, Nat.reduceMul, Nat.reduceSub, Nat.reduceMod, Nat.reduceDiv, Nat.reduceEqDiff, Int.reduceToNat, reduceIte, reduceCtorEq, Int.reduceLE, Int.reduceLT, Int.reduceEq, Int.reduceNeg, Int.reduceAdd, Int.reduceSub, Int.reduceMul]
      exact hi
    · rintro ⟨q, hq⟩
      simp only [go_sem, Nat.reduceBEq, Nat.reduceLT, Nat.reduceLeDiff, Nat.reduceAdd, Nat.reduceMul, Nat.reduceSub, Nat.reduceMod, Nat.reduceDiv, Nat.reduceEqDiff, Int.reduceToNat, reduceIte, reduceCtorEq, Int.reduceLE, Int.reduceLT, Int.reduceEq, Int.reduceNeg, Int.reduceAdd, Int.reduceSub, Int.reduceMul, decide_eq_true_eq, decide_eq_false_iff_not]
      refine ⟨fun h1 => ?_, fun h1 => ?_⟩
      · have r1 : (0 : Int) ≤ q ∧ (q : Int) < len := ⟨by omega, by omega⟩
        have b1 : q * 2 ≤ s.n - 2 := by omega
        have b2 : q * 2 ≤ s.n - 1 := by omega
        have b3 : q * 2 + 1 ≤ s.n - 1 := by omega
        have b5 : 2 ≤ s.n := by omega
        have b6 : 1 ≤ s.n := by omega
        obtain ⟨e1, e2⟩ := hc q (by omega)
        simp only [go_sem, Nat.reduceBEq, Nat.reduceLT, Nat.reduceLeDiff, Nat.reduceAdd, Nat.reduceMul, Nat.reduceSub, Nat.reduceMod, Nat.reduceDiv, Nat.reduceEqDiff, Int.reduceToNat, reduceIte, reduceCtorEq, Int.reduceLE, Int.reduceLT, Int.reduceEq, Int.reduceNeg, Int.reduceAdd, Int.reduceSub, Int.reduceMul, hs, hi, r1, b1, b2, b3, b5, b6, e1, e2, w64 (n := 2 * (q : Int) + 1 + 1) (by omega)]
        refine ⟨by omega, by omega, ⟨q + 1, by omega⟩, by show len - (q + 1) < len - q; omega, ?_⟩
        refine Imp.id (by simp) ?_ (impH.base0 hok (by simp) HExt.rfl)
        simp only [go_sem, Nat.reduceBEq, Nat.reduceLT, Nat.reduceLeDiff, Nat.reduceAdd, Nat.reduceMul, Nat.reduceSub, Nat.reduceMod, Nat.reduceDiv, Nat.reduceEqDiff, Int.reduceToNat, reduceIte, reduceCtorEq, Int.reduceLE, Int.reduceLT, Int.reduceEq, Int.reduceNeg, Int.reduceAdd, Int.reduceSub, Int.reduceMul, w64 (n := (q : Int) + 1) (by omega), w64 (n := 2 * (q : Int) + 1 + 1 + 1) (by omega), Int.natCast_add, Int.natCast_one]
        exact ⟨hi, by rw [show (2 * (q : Int) + 1 + 1 + 1) = 2 * ((q : Int) + 1) + 1 by omega]⟩
      · have hq' : q = len := by omega
        subst hq'
        simp only [go_sem, Nat.reduceBEq, Nat.reduceLT, Nat.reduceLeDiff, Nat.reduceAdd, Nat.reduceMul, Nat.reduceSub, Nat.reduceMod, Nat.reduceDiv, Nat.reduceEqDiff, Int.reduceToNat, reduceIte, reduceCtorEq, Int.reduceLE, Int.reduceLT, Int.reduceEq, Int.reduceNeg, Int.reduceAdd, Int.reduceSub, Int.reduceMul]
end
end Go.Proofs.Ytjepjeaecmioaaa.V

/- What is stained: the program's own walk. -/
namespace Go.Proofs.Ytjepjeaecmioaaa.V

theorem drop_good {S : Sh} {x y ink amount water : Int} (hG : Good S) (ha : 0 ≤ amount ∧ amount ≤ 1000) (hw : 0 ≤ water ∧ water ≤ 200) : Good (S.drop x y ink amount water) :=
  ⟨hG.small, fun y' x' a b c d => by
    show 0 ≤ (if y' = y ∧ x' = x then water else S.wet y' x') ∧ (if y' = y ∧ x' = x then water else S.wet y' x') ≤ 200
    split
    · exact hw
    · exact hG.wet y' x' a b c d, fun y' x' i' a b c d e f => by
    show 0 ≤ (if y' = y ∧ x' = x ∧ i' = ink then amount else S.dye y' x' i') ∧ (if y' = y ∧ x' = x ∧ i' = ink then amount else S.dye y' x' i') ≤ 1000
    split
    · exact ha
    · exact hG.dye y' x' i' a b c d e f⟩
theorem dropD_blank {S : Sh} {x y ink amount water : Int} (hw : waxB S x y = false) (h1 : S.wet y x = 0) (h2 : S.dye y x ink = 0) (ha : amount ≤ 1000) (hwa : water ≤ 200) : dropC S x y ink amount water = 0 ∧ dropD S x y ink amount water = S.drop x y ink amount water := by
  have e : dropC S x y ink amount water = 0 := by
    unfold dropC
    rw [if_neg (by rw [hw]; simp), if_neg (by rw [h1, h2]; omega)]
  refine ⟨e, ?_⟩
  unfold dropD Sh.drop
  rw [if_pos e, h1, h2, Int.zero_add, Int.zero_add]
section
variable (cx : Cx) (h : List (Nat × Seg)) (n : Nat)
theorem runC_E (i : Nat) (S : Sh) (W H : Nat) (hs : hget h i = some (shS S)) (hi : i < n) (hR : ShR S) (hG : Good S) (hW : S.wide = W) (hH : S.high = H) (K : HK)
    (hK : ShR (runS S W H).1 → K (.int .i64 (runS S W H).2) (hset h i (shS (runS S W H).1)) n) : CallE Try.prog cx 102 [.ptr i 0] h n K := by
  refine (run_E cx h n i 0 (shS S) S W H hs hi rfl (shAt_shC hR) hG hW hH (fun r' h' n' => r' = .int .i64 (runS S W H).2 ∧ n' = n ∧ ∃ c', ShAt ⟨266, c', true, none⟩ 0 (runS S W H).1 ∧ h' = hset h i ⟨266, c', true, none⟩) (fun c' hc' _ => ⟨rfl, rfl, c', hc', rfl⟩)).imp0 ?_
  rintro hok r' h1 n1 ⟨rfl, rfl, c', hS, rfl⟩
  have hF : ShF c' (runS S W H).1 := by simpa using hS.2
  exact ⟨_, hset h i (shS (runS S W H).1), n1, Nat.le_refl _, by rw [ren_nil], (show (SV.int .i64 (runS S W H).2).lt n1 from trivial), impH.set0 hok (Nat.le_refl _) hs (HBut.set i n1 h _) (hget_hset_self hs _) (SegLe.flat (Nat.le_refl _) id (.inr rfl) fun k hk => ⟨hF.eqC hk, shC_flat _ k⟩), hK hF.R⟩
theorem runUntil_E (i : Nat) (S : Sh) (W H : Nat) (hs : hget h i = some (shS S)) (hi : i < n) (hR : ShR S) (hG : Good S) (hW : S.wide = W) (hH : S.high = H) (K : HK)
    (hK : K (.tup 2 (cl [.int .i64 (untilN W H 500 0 S).2.1, .int .i64 (if (untilN W H 500 0 S).2.2 then 0 else 7)])) (hset h i (shS (untilN W H 500 0 S).1)) n) : CallE Try.prog cx 86 [.ptr i 0] h n K := by
  refine CallE.to _ _ (by simp only [go_sem, Nat.reduceBEq, Nat.reduceLT, Nat.reduceLeDiff, Nat.reduceAdd, Nat.reduceMul, Nat.reduceSub, Nat.reduceMod, Nat.reduceDiv, Nat.reduceEqDiff, Int.reduceToNat, reduceIte, reduceCtorEq, Int.reduceLE, Int.reduceLT, Int.reduceEq, Int.reduceNeg, Int.reduceAdd, Int.reduceSub, Int.reduceMul]) (fun hok => hok_set hok fun k hk => shC_flat _ _) hK ?_
  refine callE_of_T (P := Try.prog) hti (nt := 13) (rs := [.tmp 2, .tmp 3]) rfl rfl Try.call86 Try.func86 rfl _ (by simp only [go_sem, and_self]) (Nat.le_of_ble_eq_true rfl) _ fun hok => ?_
  simp only [go_sem, Nat.reduceBEq, Nat.reduceLT, Nat.reduceLeDiff, Nat.reduceAdd, Nat.reduceMul, Nat.reduceSub, Nat.reduceMod, Nat.reduceDiv, Nat.reduceEqDiff, Int.reduceToNat, reduceIte, reduceCtorEq, Int.reduceLE, Int.reduceLT, Int.reduceEq, Int.reduceNeg, Int.reduceAdd, Int.reduceSub, Int.reduceMul]
  refine T_lp (ι := { p : Nat × Sh // p.1 ≤ 500 ∧ ShR p.2 ∧ Good p.2 ∧ p.2.wide = W ∧ p.2.high = H ∧ untilN W H (500 - p.1) p.1 p.2 = untilN W H 500 0 S })
    (fun p => ([(0, .ptr i 0), (4, .int .i64 p.1.1)], hset h i (shS p.1.2), n)) (fun p => 500 - p.1.1) ⟨(0, S), by simp, hR, hG, hW, hH, rfl⟩ ?_ ?_
  · refine Imp.id (by simp) ?_ ?_
    · simp only [go_sem, Nat.reduceBEq, Nat.reduceLT, Nat.reduceLeDiff, Nat.reduceAdd, Nat.reduceMul, Nat.reduceSub, Nat.reduceMod, Nat.reduceDiv, Nat.reduceEqDiff, Int.reduceToNat, reduceIte, reduceCtorEq, Int.reduceLE, Int.reduceLT, Int.reduceEq, Int.reduceNeg, Int.reduceAdd, Int.reduceSub, Int.reduceMul]
      exact hi
    · rw [hset_self hs]; exact impH.base0 hok (by simp) HExt.rfl
  · rintro ⟨⟨k, S1⟩, hk, hR1, hG1, hW1, hH1, he⟩
    simp only at hk hR1 hG1 hW1 hH1 he
    simp only [go_sem, Nat.reduceBEq, Nat.reduceLT, Nat.reduceLeDiff, Nat.reduceAdd, Nat.reduceMul, Nat.reduceSub, Nat.reduceMod, Nat.reduceDiv, Nat.reduceEqDiff, Int.reduceToNat, reduceIte, reduceCtorEq, Int.reduceLE, Int.reduceLT, Int.reduceEq, Int.reduceNeg, Int.reduceAdd, Int.reduceSub, Int.reduceMul]
    refine callA_false (runC_E _ _ _ i S1 W H (hget_hset_self hs _) (by omega) hR1 hG1 hW1 hH1 _ fun hR2 => ?_)
    obtain ⟨g1, g2, g3, g4⟩ := runS_good hG1 hW1 hH1
    by_cases h0 : (runS S1 W H).2 = 0
    · rw [untilN_stop h0] at he
      have hst := runS_still h0
      simp only [go_sem, Nat.reduceBEq, Nat.reduceLT, Nat.reduceLeDiff, Nat.reduceAdd, Nat.reduceMul, Nat.reduceSub, Nat.reduceMod, Nat.reduceDiv, Nat.reduceEqDiff, Int.reduceToNat, reduceIte, reduceCtorEq, Int.reduceLE, Int.reduceLT, Int.reduceEq, Int.reduceNeg, Int.reduceAdd, Int.reduceSub, Int.reduceMul, h0, ← he, hst, if_true]
    · by_cases h5 : k = 500
      · subst h5
        rw [Nat.sub_self, untilN_end h0] at he
        simp only [go_sem, Nat.reduceBEq, Nat.reduceLT, Nat.reduceLeDiff, Nat.reduceAdd, Nat.reduceMul, Nat.reduceSub, Nat.reduceMod, Nat.reduceDiv, Nat.reduceEqDiff, Int.reduceToNat, reduceIte, reduceCtorEq, Int.reduceLE, Int.reduceLT, Int.reduceEq, Int.reduceNeg, Int.reduceAdd, Int.reduceSub, Int.reduceMul, h0, ← he]
      · have hk5 : ¬ ((k : Int) = 500) := by omega
        rw [show 500 - k = (500 - (k + 1)) + 1 by omega, untilN_next h0] at he
        simp only [go_sem, Nat.reduceBEq, Nat.reduceLT, Nat.reduceLeDiff, Nat.reduceAdd, Nat.reduceMul, Nat.reduceSub, Nat.reduceMod, Nat.reduceDiv, Nat.reduceEqDiff, Int.reduceToNat, reduceIte, reduceCtorEq, Int.reduceLE, Int.reduceLT, Int.reduceEq, Int.reduceNeg, Int.reduceAdd, Int.reduceSub, Int.reduceMul, h0, hk5]
        refine ⟨⟨(k + 1, (runS S1 W H).1), by show k + 1 ≤ 500; omega, hR2, g1, g2.wide.trans hW1, g2.high.trans hH1, he⟩, by show 500 - (k + 1) < 500 - k; omega, ?_⟩
        refine Imp.id (by simp) ?_ ?_
        · simp only [go_sem, Nat.reduceBEq, Nat.reduceLT, Nat.reduceLeDiff, Nat.reduceAdd, Nat.reduceMul, Nat.reduceSub, Nat.reduceMod, Nat.reduceDiv, Nat.reduceEqDiff, Int.reduceToNat, reduceIte, reduceCtorEq, Int.reduceLE, Int.reduceLT, Int.reduceEq, Int.reduceNeg, Int.reduceAdd, Int.reduceSub, Int.reduceMul, w64 (n := (k : Int) + 1) (by omega), Int.natCast_add, Int.natCast_one]
          exact hi
        · exact impH.base0 (hok_set hok fun k hk => shC_flat _ _) (by simp) HExt.rfl
theorem stained_Q (S : Sh) (W H : Nat) (x y ink amount water : Int) (hR : ShR S) (hG : Good S) (hW : S.wide = W) (hH : S.high = H) (hx : 0 ≤ x) (hx8 : x < 8) (hy : 0 ≤ y) (hy8 : y < 8)
    (hk0 : 0 ≤ ink) (hk3 : ink < 3) (ha : 0 ≤ amount ∧ amount ≤ 1000) (hw : 0 ≤ water ∧ water ≤ 200) (hwx : waxB S x y = false) (h1 : S.wet y x = 0) (h2 : S.dye y x ink = 0) :
    CallQ Try.prog cx 55 [.agg 266 (shC S), spot x y, .int .i64 ink, .int .i64 amount, .int .i64 water] h n
      (.tup 2 (cl [.agg 266 (shC (untilN W H 500 0 (S.drop x y ink amount water)).1), .int .i64 (if (untilN W H 500 0 (S.drop x y ink amount water)).2.2 then 0 else 7)])) := by
  obtain ⟨e1, e2⟩ := dropD_blank (amount := amount) (water := water) hwx h1 h2 ha.2 hw.2
  have hGd := drop_good (x := x) (y := y) (ink := ink) hG ha hw
  have hRd : ShR (S.drop x y ink amount water) := (hR.setWet (by omega)).setDye (by omega)
  refine callQ_of_T (P := Try.prog) hti (nt := 25) (rs := [.cell 10 51, .tmp 11]) rfl rfl Try.call55 Try.func55 rfl _ (by simp only [go_sem, and_self]) (Nat.le_of_ble_eq_true rfl) _ (by first | exact trivial | (refine lt_flat rfl ?_; simp [SV.flat]; done) | simp only [go_sem]) fun hok => ?_
  simp only [go_sem, Nat.reduceBEq, Nat.reduceLT, Nat.reduceLeDiff, Nat.reduceAdd, Nat.reduceMul, Nat.reduceSub, Nat.reduceMod, Nat.reduceDiv, Nat.reduceEqDiff, Int.reduceToNat, reduceIte, reduceCtorEq, Int.reduceLE, Int.reduceLT, Int.reduceEq, Int.reduceNeg, Int.reduceAdd, Int.reduceSub, Int.reduceMul]
  refine callA_false (drop_E _ _ _ n S x y ink amount water (by simp only [go_sem, Nat.reduceBEq, Nat.reduceLT, Nat.reduceLeDiff, Nat.reduceAdd, Nat.reduceMul, Nat.reduceSub, Nat.reduceMod, Nat.reduceDiv, Nat.reduceEqDiff, Int.reduceToNat, reduceIte, reduceCtorEq, Int.reduceLE, Int.reduceLT, Int.reduceEq, Int.reduceNeg, Int.reduceAdd, Int.reduceSub, Int.reduceMul]) (by omega) hR hG hx hx8 hy hy8 hk0 hk3 ha hw _ ?_)
  rw [e1, e2]
  simp only [go_sem, Nat.reduceBEq, Nat.reduceLT, Nat.reduceLeDiff, Nat.reduceAdd, Nat.reduceMul, Nat.reduceSub, Nat.reduceMod, Nat.reduceDiv, Nat.reduceEqDiff, Int.reduceToNat, reduceIte, reduceCtorEq, Int.reduceLE, Int.reduceLT, Int.reduceEq, Int.reduceNeg, Int.reduceAdd, Int.reduceSub, Int.reduceMul]
  refine callA_false (runUntil_E _ _ _ n (S.drop x y ink amount water) W H (by simp only [go_sem, Nat.reduceBEq, Nat.reduceLT, Nat.reduceLeDiff, Nat.reduceAdd, Nat.reduceMul, Nat.reduceSub, Nat.reduceMod, Nat.reduceDiv, Nat.reduceEqDiff, Int.reduceToNat, reduceIte, reduceCtorEq, Int.reduceLE, Int.reduceLT, Int.reduceEq, Int.reduceNeg, Int.reduceAdd, Int.reduceSub, Int.reduceMul]) (by omega) hRd hGd hW hH _ ?_)
  simp only [go_sem, Nat.reduceBEq, Nat.reduceLT, Nat.reduceLeDiff, Nat.reduceAdd, Nat.reduceMul, Nat.reduceSub, Nat.reduceMod, Nat.reduceDiv, Nat.reduceEqDiff, Int.reduceToNat, reduceIte, reduceCtorEq, Int.reduceLE, Int.reduceLT, Int.reduceEq, Int.reduceNeg, Int.reduceAdd, Int.reduceSub, Int.reduceMul]
/-- A function that is asked of a spot. -/
def Asks (cx : Cx) (h : List (Nat × Seg)) (n f a b : Nat) (G F : Nat → SV) (x y : Int) (q : Bool) : Prop :=
  ∀ nt n0 h' n', n ≤ n' → HExt n h h' → CallQ Try.prog ⟨cx.w0, cx.W, nt, n0⟩ f (lst a G ++ [spot x y] ++ lst b F) h' n' (.bool q)
theorem that1_Q (iv : Nat) (f a b : Nat) (G F : Nat → SV) (x y : Int) (q : Bool) (hv : hget h iv = some ⟨1, cl [.fn f a G b F], true, none⟩) (hi : iv < n) (hq : Asks cx h n f a b G F x y q) :
    CallQ Try.prog cx 88 [spot x y, .ptr iv 0] h n (.bool !q) := by
  refine callQ_of_T (P := Try.prog) hti (nt := 8) (rs := [.tmp 3]) rfl rfl Try.call88 Try.func88 rfl _ (by simp only [go_sem, and_self]) (Nat.le_of_ble_eq_true rfl) _ (by first | exact trivial | (refine lt_flat rfl ?_; simp [SV.flat]; done) | simp only [go_sem]) fun hok => ?_
  simp only [go_sem, Nat.reduceBEq, Nat.reduceLT, Nat.reduceLeDiff, Nat.reduceAdd, Nat.reduceMul, Nat.reduceSub, Nat.reduceMod, Nat.reduceDiv, Nat.reduceEqDiff, Int.reduceToNat, reduceIte, reduceCtorEq, Int.reduceLE, Int.reduceLT, Int.reduceEq, Int.reduceNeg, Int.reduceAdd, Int.reduceSub, Int.reduceMul, hv, hi]
  refine CallQ.A (hq _ _ _ _ (by omega) (by simp only [go_sem, Nat.reduceBEq, Nat.reduceLT, Nat.reduceLeDiff, Nat.reduceAdd, Nat.reduceMul, Nat.reduceSub, Nat.reduceMod, Nat.reduceDiv, Nat.reduceEqDiff, Int.reduceToNat, reduceIte, reduceCtorEq, Int.reduceLE, Int.reduceLT, Int.reduceEq, Int.reduceNeg, Int.reduceAdd, Int.reduceSub, Int.reduceMul, HExt_cons])) ?_
  simp only [go_sem, Nat.reduceBEq, Nat.reduceLT, Nat.reduceLeDiff, Nat.reduceAdd, Nat.reduceMul, Nat.reduceSub, Nat.reduceMod, Nat.reduceDiv, Nat.reduceEqDiff, Int.reduceToNat, reduceIte, reduceCtorEq, Int.reduceLE, Int.reduceLT, Int.reduceEq, Int.reduceNeg, Int.reduceAdd, Int.reduceSub, Int.reduceMul]
end
end Go.Proofs.Ytjepjeaecmioaaa.V

/- StainOf by the program's own code: the walk. -/
namespace Go.Proofs.Ytjepjeaecmioaaa.V
theorem valid_sides {S : Sh} (hs : Small S) : S.wide = (S.wide.toNat : Int) ∧ S.high = (S.high.toNat : Int) ∧ S.wide.toNat ≤ 8 ∧ S.high.toNat ≤ 8 := by
  unfold Small at hs; omega
section
variable (cx : Cx) (h : List (Nat × Seg)) (n : Nat)
theorem stain1_Q (iv : Nat) (S : Sh) (x y : Int) (hv : hget h iv = some (shS S)) (hi : iv < n) (hR : ShR S) (hG : Good S) (hx : 0 ≤ x) (hx8 : x < 8) (hy : 0 ≤ y) (hy8 : y < 8) :
    CallQ Try.prog cx 57 [spot x y, .ptr iv 0] h n (.bool (decide (1 ≤ darkB S x y))) := by
  refine callQ_of_T (P := Try.prog) hti (nt := 7) (rs := [.tmp 3]) rfl rfl Try.call57 Try.func57 rfl _ (by simp only [go_sem, and_self]) (Nat.le_of_ble_eq_true rfl) _ (by first | exact trivial | (refine lt_flat rfl ?_; simp [SV.flat]; done) | simp only [go_sem]) fun hok => ?_
  simp only [go_sem, Nat.reduceBEq, Nat.reduceLT, Nat.reduceLeDiff, Nat.reduceAdd, Nat.reduceMul, Nat.reduceSub, Nat.reduceMod, Nat.reduceDiv, Nat.reduceEqDiff, Int.reduceToNat, reduceIte, reduceCtorEq, Int.reduceLE, Int.reduceLT, Int.reduceEq, Int.reduceNeg, Int.reduceAdd, Int.reduceSub, Int.reduceMul]
  refine (dark_Q _ _ _ iv 0 _ S x y (by simp only [go_sem, Nat.reduceBEq, Nat.reduceLT, Nat.reduceLeDiff, Nat.reduceAdd, Nat.reduceMul, Nat.reduceSub, Nat.reduceMod, Nat.reduceDiv, Nat.reduceEqDiff, Int.reduceToNat, reduceIte, reduceCtorEq, Int.reduceLE, Int.reduceLT, Int.reduceEq, Int.reduceNeg, Int.reduceAdd, Int.reduceSub, Int.reduceMul, hv, hi]) (by omega) (shAt_shC hR) hG hx hx8 hy hy8).A ?_
  simp only [go_sem, Nat.reduceBEq, Nat.reduceLT, Nat.reduceLeDiff, Nat.reduceAdd, Nat.reduceMul, Nat.reduceSub, Nat.reduceMod, Nat.reduceDiv, Nat.reduceEqDiff, Int.reduceToNat, reduceIte, reduceCtorEq, Int.reduceLE, Int.reduceLT, Int.reduceEq, Int.reduceNeg, Int.reduceAdd, Int.reduceSub, Int.reduceMul]
  congr 1
theorem that_E (i : Nat) (S : Sh) (W H : Nat) (hs : hget h i = some (shS S)) (hi : i < n) (hR : ShR S) (hW : S.wide = W) (hH : S.high = H) (hW8 : W ≤ 8) (hH8 : H ≤ 8) (f a b : Nat) (G F : Nat → SV) (hfl : (SV.fn f a G b F).lt n) (p : Int → Int → Bool)
    (hp : ∀ j, j < H * W → Asks cx h n f a b G F ((j % W : Nat) : Int) ((j / W : Nat) : Int) (p ((j % W : Nat) : Int) ((j / W : Nat) : Int))) (K : HK)
    (hK : ∀ V h' n', n ≤ n' → HExt n h h' → HOk n' h' → SpsOut h' n n' V ((cellsL W H).filter fun a => p a.1 a.2) → K V h' n') :
    CallE Try.prog cx 56 [.ptr i 0, .fn f a G b F] h n K := by
  have hWH : H * W ≤ 64 := Nat.mul_le_mul hH8 hW8
  refine CallE.hokE ?_
  refine callE_of_T (P := Try.prog) hti (nt := 9) (rs := [.tmp 4]) rfl rfl Try.call56 Try.func56 rfl _ (by simp only [go_sem, and_self]) (Nat.le_of_ble_eq_true rfl) _ fun hok => ?_
  simp only [go_sem, Nat.reduceBEq, Nat.reduceLT, Nat.reduceLeDiff, Nat.reduceAdd, Nat.reduceMul, Nat.reduceSub, Nat.reduceMod, Nat.reduceDiv, Nat.reduceEqDiff, Int.reduceToNat, reduceIte, reduceCtorEq, Int.reduceLE, Int.reduceLT, Int.reduceEq, Int.reduceNeg, Int.reduceAdd, Int.reduceSub, Int.reduceMul]
  refine callA_false (cells_E _ _ _ i 0 _ S W H (by simp only [go_sem, Nat.reduceBEq, Nat.reduceLT, Nat.reduceLeDiff, Nat.reduceAdd, Nat.reduceMul, Nat.reduceSub, Nat.reduceMod, Nat.reduceDiv, Nat.reduceEqDiff, Int.reduceToNat, reduceIte, reduceCtorEq, Int.reduceLE, Int.reduceLT, Int.reduceEq, Int.reduceNeg, Int.reduceAdd, Int.reduceSub, Int.reduceMul, hs, hi]) (by omega) (shAt_shC hR) hW hH hW8 hH8 _ fun cap hc1 hc2 => ?_)
  simp only [go_sem, Nat.reduceBEq, Nat.reduceLT, Nat.reduceLeDiff, Nat.reduceAdd, Nat.reduceMul, Nat.reduceSub, Nat.reduceMod, Nat.reduceDiv, Nat.reduceEqDiff, Int.reduceToNat, reduceIte, reduceCtorEq, Int.reduceLE, Int.reduceLT, Int.reduceEq, Int.reduceNeg, Int.reduceAdd, Int.reduceSub, Int.reduceMul]
  obtain ⟨r, r0, r1⟩ := fst_ex (fun x y => !p x y) (cellsL W H) (H * W)
  refine callA_false (deleteFunc_E _ _ _ (n + 1) (H * W) cap (cellsL W H) _ _ _ _ _ _ (fun x y => !p x y) r (hget_hit _ _ _) (by omega) (cellsL_len W H) (by omega) hc1 rfl rfl (fun k hk => cellsL_cells W H k hk) ?_ r0 r1 (fun j hj nt n0 h' n' hn hb => ?_) _ fun own => ?_)
  · exact fn_lt (xs := []) (ys := [.ptr n 0]) (fun v hv => by cases hv) (fun v hv => by simp at hv; subst hv; show n < _; omega)
  · rw [cellsL_get W H j hj]
    have hx' : HExt n h h' := fun k hk t ht => hb k (by omega) (by omega) t (by simp only [hget]; rw [if_neg (by omega), if_neg (by omega)]; exact ht)
    exact that1_Q _ h' n' n f a b G F _ _ _ (hb n (by omega) (by omega) _ (by simp [hget])) (by omega) fun nt1 n1 h1 n1' hn1 hx1 => hp j hj nt1 n1 h1 n1' (by omega) (hx'.tr hx1 (by omega))
  · simp only [go_sem, Nat.reduceBEq, Nat.reduceLT, Nat.reduceLeDiff, Nat.reduceAdd, Nat.reduceMul, Nat.reduceSub, Nat.reduceMod, Nat.reduceDiv, Nat.reduceEqDiff, Int.reduceToNat, reduceIte, reduceCtorEq, Int.reduceLE, Int.reduceLT, Int.reduceEq, Int.reduceNeg, Int.reduceAdd, Int.reduceSub, Int.reduceMul]
    simp only [Bool.not_not]
    exact fun hok' => hK _ _ _ (by omega) (by simp only [go_sem, Nat.reduceBEq, Nat.reduceLT, Nat.reduceLeDiff, Nat.reduceAdd, Nat.reduceMul, Nat.reduceSub, Nat.reduceMod, Nat.reduceDiv, Nat.reduceEqDiff, Int.reduceToNat, reduceIte, reduceCtorEq, Int.reduceLE, Int.reduceLT, Int.reduceEq, Int.reduceNeg, Int.reduceAdd, Int.reduceSub, Int.reduceMul, HExt_cons]) hok' (.inr ⟨n + 1, cap, _, rfl, by omega, by omega, hget_hit _ _ _, rfl, rfl, fun k hk => rfl⟩)
theorem codeI_bad {S : Sh} {b : Bool} (h : ¬ Valid S) : codeI S b = 1 := by simp [codeI, validB_false h]
theorem codeI_ok {S : Sh} {b : Bool} (h : Valid S) : codeI S b = if b then 0 else 2 := by simp [codeI, validB_true h]
def dropB (S : Sh) (x y ink amount water : Int) : Bool := hasB S x y && decide (0 ≤ ink ∧ ink ≤ 2) && decide (0 ≤ amount ∧ amount ≤ 1000) && decide (0 ≤ water ∧ water ≤ 200)
theorem dropB_iff {S : Sh} {x y ink amount water : Int} : dropB S x y ink amount water = true ↔ hasB S x y = true ∧ (0 ≤ ink ∧ ink ≤ 2) ∧ (0 ≤ amount ∧ amount ≤ 1000) ∧ (0 ≤ water ∧ water ≤ 200) := by
  simp only [dropB, Bool.and_eq_true, decide_eq_true_eq, and_assoc]
theorem stainR_bad {S : Sh} {x y ink amount water : Int} (h : ¬ Valid S) : stainR S x y ink amount water = ([], 1) := by unfold stainR; rw [if_neg h]
theorem stainR_range {S : Sh} {x y ink amount water : Int} (h : Valid S) (h2 : ¬ dropB S x y ink amount water = true) : stainR S x y ink amount water = ([], 2) := by
  rw [dropB_iff] at h2; unfold stainR; rw [if_pos h, if_neg h2]
theorem stainR_state {S : Sh} {x y ink amount water : Int} (h : Valid S) (h2 : dropB S x y ink amount water = true) (h3 : ¬ (Blank S S.wide.toNat S.high.toNat ∧ waxB S x y = false)) : stainR S x y ink amount water = ([], 4) := by
  rw [dropB_iff] at h2; unfold stainR; rw [if_pos h, if_pos h2, if_neg h3]
theorem stainR_run {S : Sh} {x y ink amount water : Int} (h : Valid S) (h2 : dropB S x y ink amount water = true) (h3 : Blank S S.wide.toNat S.high.toNat ∧ waxB S x y = false) :
    stainR S x y ink amount water = if (untilN S.wide.toNat S.high.toNat 500 0 (S.drop x y ink amount water)).2.2 then (dyedL (untilN S.wide.toNat S.high.toNat 500 0 (S.drop x y ink amount water)).1 S.wide.toNat S.high.toNat 1, 0) else ([], 7) := by
  rw [dropB_iff] at h2; unfold stainR; rw [if_pos h, if_pos h2, if_pos h3]
theorem stain_E (S : Sh) (x y ink amount water : Int) (hR : ShR S) (K : HK)
    (hK : ∀ V h' n', n ≤ n' → HExt n h h' → HOk n' h' → SpsOut h' n n' V (stainR S x y ink amount water).1 → K (.tup 2 (cl [V, .int .i64 (stainR S x y ink amount water).2])) h' n') :
    CallE Try.prog cx 20 [.agg 266 (shC S), spot x y, .int .i64 ink, .int .i64 amount, .int .i64 water] h n K := by
  refine CallE.hokE ?_
  have bad : ∀ (c : Int) (h' : List (Nat × Seg)) (n' : Nat), stainR S x y ink amount water = ([], c) → n ≤ n' → HExt n h h' → HOk n' h' → K (.tup 2 (cl [.nils, .int .i64 c])) h' n' := fun c h' n' e hn' hx hok' => by
    have := hK .nils h' n' hn' hx hok' (by rw [e]; exact .inl ⟨rfl, rfl⟩)
    rw [e] at this; exact this
  refine callE_of_T (P := Try.prog) hti (nt := 47) (rs := [.tmp 10, .tmp 11]) rfl rfl Try.call20 Try.func20 rfl _ (by simp only [go_sem, and_self]) (Nat.le_of_ble_eq_true rfl) _ fun hok => ?_
  simp only [go_sem, Nat.reduceBEq, Nat.reduceLT, Nat.reduceLeDiff, Nat.reduceAdd, Nat.reduceMul, Nat.reduceSub, Nat.reduceMod, Nat.reduceDiv, Nat.reduceEqDiff, Int.reduceToNat, reduceIte, reduceCtorEq, Int.reduceLE, Int.reduceLT, Int.reduceEq, Int.reduceNeg, Int.reduceAdd, Int.reduceSub, Int.reduceMul]
  refine (isDrop_Q _ _ _ n S x y ink amount water (by simp only [go_sem, Nat.reduceBEq, Nat.reduceLT, Nat.reduceLeDiff, Nat.reduceAdd, Nat.reduceMul, Nat.reduceSub, Nat.reduceMod, Nat.reduceDiv, Nat.reduceEqDiff, Int.reduceToNat, reduceIte, reduceCtorEq, Int.reduceLE, Int.reduceLT, Int.reduceEq, Int.reduceNeg, Int.reduceAdd, Int.reduceSub, Int.reduceMul]) (by omega) hR).A ?_
  simp only [go_sem, Nat.reduceBEq, Nat.reduceLT, Nat.reduceLeDiff, Nat.reduceAdd, Nat.reduceMul, Nat.reduceSub, Nat.reduceMod, Nat.reduceDiv, Nat.reduceEqDiff, Int.reduceToNat, reduceIte, reduceCtorEq, Int.reduceLE, Int.reduceLT, Int.reduceEq, Int.reduceNeg, Int.reduceAdd, Int.reduceSub, Int.reduceMul]
  refine (code_Q _ _ _ n 0 _ S (dropB S x y ink amount water) (by simp only [go_sem, Nat.reduceBEq, Nat.reduceLT, Nat.reduceLeDiff, Nat.reduceAdd, Nat.reduceMul, Nat.reduceSub, Nat.reduceMod, Nat.reduceDiv, Nat.reduceEqDiff, Int.reduceToNat, reduceIte, reduceCtorEq, Int.reduceLE, Int.reduceLT, Int.reduceEq, Int.reduceNeg, Int.reduceAdd, Int.reduceSub, Int.reduceMul]) (by omega) (shAt_shC hR)).A ?_
  by_cases hV : Valid S
  rotate_left
  · simp only [go_sem, Nat.reduceBEq, Nat.reduceLT, Nat.reduceLeDiff, Nat.reduceAdd, Nat.reduceMul, Nat.reduceSub, Nat.reduceMod, Nat.reduceDiv, Nat.reduceEqDiff, Int.reduceToNat, reduceIte, reduceCtorEq, Int.reduceLE, Int.reduceLT, Int.reduceEq, Int.reduceNeg, Int.reduceAdd, Int.reduceSub, Int.reduceMul, codeI_bad hV]
    exact fun hok' => bad 1 _ _ (stainR_bad hV) (by omega) (by simp only [go_sem, Nat.reduceBEq, Nat.reduceLT, Nat.reduceLeDiff, Nat.reduceAdd, Nat.reduceMul, Nat.reduceSub, Nat.reduceMod, Nat.reduceDiv, Nat.reduceEqDiff, Int.reduceToNat, reduceIte, reduceCtorEq, Int.reduceLE, Int.reduceLT, Int.reduceEq, Int.reduceNeg, Int.reduceAdd, Int.reduceSub, Int.reduceMul, HExt_cons]) hok'
  obtain ⟨hW, hH, hW8, hH8⟩ := valid_sides hV.1
  by_cases hd : dropB S x y ink amount water = true
  rotate_left
  · simp only [go_sem, Nat.reduceBEq, Nat.reduceLT, Nat.reduceLeDiff, Nat.reduceAdd, Nat.reduceMul, Nat.reduceSub, Nat.reduceMod, Nat.reduceDiv, Nat.reduceEqDiff, Int.reduceToNat, reduceIte, reduceCtorEq, Int.reduceLE, Int.reduceLT, Int.reduceEq, Int.reduceNeg, Int.reduceAdd, Int.reduceSub, Int.reduceMul, codeI_ok hV, hd]
    exact fun hok' => bad 2 _ _ (stainR_range hV hd) (by omega) (by simp only [go_sem, Nat.reduceBEq, Nat.reduceLT, Nat.reduceLeDiff, Nat.reduceAdd, Nat.reduceMul, Nat.reduceSub, Nat.reduceMod, Nat.reduceDiv, Nat.reduceEqDiff, Int.reduceToNat, reduceIte, reduceCtorEq, Int.reduceLE, Int.reduceLT, Int.reduceEq, Int.reduceNeg, Int.reduceAdd, Int.reduceSub, Int.reduceMul, HExt_cons]) hok'
  obtain ⟨hh, hk, ha, hw⟩ := dropB_iff.1 hd
  obtain ⟨x0, x8, y0, y8⟩ := hasB_in hV.1 hh
  simp only [go_sem, Nat.reduceBEq, Nat.reduceLT, Nat.reduceLeDiff, Nat.reduceAdd, Nat.reduceMul, Nat.reduceSub, Nat.reduceMod, Nat.reduceDiv, Nat.reduceEqDiff, Int.reduceToNat, reduceIte, reduceCtorEq, Int.reduceLE, Int.reduceLT, Int.reduceEq, Int.reduceNeg, Int.reduceAdd, Int.reduceSub, Int.reduceMul, codeI_ok hV, hd]
  refine (isBlank_Q _ _ _ n S _ _ (by simp only [go_sem, Nat.reduceBEq, Nat.reduceLT, Nat.reduceLeDiff, Nat.reduceAdd, Nat.reduceMul, Nat.reduceSub, Nat.reduceMod, Nat.reduceDiv, Nat.reduceEqDiff, Int.reduceToNat, reduceIte, reduceCtorEq, Int.reduceLE, Int.reduceLT, Int.reduceEq, Int.reduceNeg, Int.reduceAdd, Int.reduceSub, Int.reduceMul]) (by omega) hR hV.good hW hH).A ?_
  by_cases hB : Blank S S.wide.toNat S.high.toNat
  rotate_left
  · simp only [go_sem, Nat.reduceBEq, Nat.reduceLT, Nat.reduceLeDiff, Nat.reduceAdd, Nat.reduceMul, Nat.reduceSub, Nat.reduceMod, Nat.reduceDiv, Nat.reduceEqDiff, Int.reduceToNat, reduceIte, reduceCtorEq, Int.reduceLE, Int.reduceLT, Int.reduceEq, Int.reduceNeg, Int.reduceAdd, Int.reduceSub, Int.reduceMul, blankB_f hB]
    exact fun hok' => bad 4 _ _ (stainR_state hV hd fun h => hB h.1) (by omega) (by simp only [go_sem, Nat.reduceBEq, Nat.reduceLT, Nat.reduceLeDiff, Nat.reduceAdd, Nat.reduceMul, Nat.reduceSub, Nat.reduceMod, Nat.reduceDiv, Nat.reduceEqDiff, Int.reduceToNat, reduceIte, reduceCtorEq, Int.reduceLE, Int.reduceLT, Int.reduceEq, Int.reduceNeg, Int.reduceAdd, Int.reduceSub, Int.reduceMul, HExt_cons]) hok'
  simp only [go_sem, Nat.reduceBEq, Nat.reduceLT, Nat.reduceLeDiff, Nat.reduceAdd, Nat.reduceMul, Nat.reduceSub, Nat.reduceMod, Nat.reduceDiv, Nat.reduceEqDiff, Int.reduceToNat, reduceIte, reduceCtorEq, Int.reduceLE, Int.reduceLT, Int.reduceEq, Int.reduceNeg, Int.reduceAdd, Int.reduceSub, Int.reduceMul, blankB_t hB]
  refine (waxed_Q _ _ _ n 0 _ S x y (by simp only [go_sem, Nat.reduceBEq, Nat.reduceLT, Nat.reduceLeDiff, Nat.reduceAdd, Nat.reduceMul, Nat.reduceSub, Nat.reduceMod, Nat.reduceDiv, Nat.reduceEqDiff, Int.reduceToNat, reduceIte, reduceCtorEq, Int.reduceLE, Int.reduceLT, Int.reduceEq, Int.reduceNeg, Int.reduceAdd, Int.reduceSub, Int.reduceMul]) (by omega) (shAt_shC hR) x0 y0 y8).A ?_
  by_cases hwx : waxB S x y = true
  · simp only [go_sem, Nat.reduceBEq, Nat.reduceLT, Nat.reduceLeDiff, Nat.reduceAdd, Nat.reduceMul, Nat.reduceSub, Nat.reduceMod, Nat.reduceDiv, Nat.reduceEqDiff, Int.reduceToNat, reduceIte, reduceCtorEq, Int.reduceLE, Int.reduceLT, Int.reduceEq, Int.reduceNeg, Int.reduceAdd, Int.reduceSub, Int.reduceMul, hwx]
    exact fun hok' => bad 4 _ _ (stainR_state hV hd fun h => by rw [hwx] at h; cases h.2) (by omega) (by simp only [go_sem, Nat.reduceBEq, Nat.reduceLT, Nat.reduceLeDiff, Nat.reduceAdd, Nat.reduceMul, Nat.reduceSub, Nat.reduceMod, Nat.reduceDiv, Nat.reduceEqDiff, Int.reduceToNat, reduceIte, reduceCtorEq, Int.reduceLE, Int.reduceLT, Int.reduceEq, Int.reduceNeg, Int.reduceAdd, Int.reduceSub, Int.reduceMul, HExt_cons]) hok'
  have hwf : waxB S x y = false := by simpa using hwx
  simp only [go_sem, Nat.reduceBEq, Nat.reduceLT, Nat.reduceLeDiff, Nat.reduceAdd, Nat.reduceMul, Nat.reduceSub, Nat.reduceMod, Nat.reduceDiv, Nat.reduceEqDiff, Int.reduceToNat, reduceIte, reduceCtorEq, Int.reduceLE, Int.reduceLT, Int.reduceEq, Int.reduceNeg, Int.reduceAdd, Int.reduceSub, Int.reduceMul, hwf]
  refine (stained_Q _ _ _ S _ _ x y ink amount water hR hV.good hW hH x0 x8 y0 y8 hk.1 (by omega) ha hw hwf (hB.wet hV.good hW hH hh) (hB.dye hV.good hW hH hh hk.1 (by omega))).A ?_
  have hGd := drop_good (x := x) (y := y) (ink := ink) hV.good ha hw
  obtain ⟨u1, u2, u3⟩ := untilN_good (W := S.wide.toNat) (H := S.high.toNat) 500 0 (S.drop x y ink amount water) hGd hW hH
  have hr := stainR_run hV hd ⟨hB, hwf⟩
  have uR : ShR (untilN S.wide.toNat S.high.toNat 500 0 (S.drop x y ink amount water)).1 := untilN_R 500 0 _ ((hR.setWet (by omega)).setDye (by omega))
  generalize hU : untilN S.wide.toNat S.high.toNat 500 0 (S.drop x y ink amount water) = U at *
  by_cases hu : U.2.2 = true
  rotate_left
  · rw [if_neg hu] at hr
    simp only [go_sem, Nat.reduceBEq, Nat.reduceLT, Nat.reduceLeDiff, Nat.reduceAdd, Nat.reduceMul, Nat.reduceSub, Nat.reduceMod, Nat.reduceDiv, Nat.reduceEqDiff, Int.reduceToNat, reduceIte, reduceCtorEq, Int.reduceLE, Int.reduceLT, Int.reduceEq, Int.reduceNeg, Int.reduceAdd, Int.reduceSub, Int.reduceMul, hu]
    exact fun hok' => bad 7 _ _ hr (by omega) (by simp only [go_sem, Nat.reduceBEq, Nat.reduceLT, Nat.reduceLeDiff, Nat.reduceAdd, Nat.reduceMul, Nat.reduceSub, Nat.reduceMod, Nat.reduceDiv, Nat.reduceEqDiff, Int.reduceToNat, reduceIte, reduceCtorEq, Int.reduceLE, Int.reduceLT, Int.reduceEq, Int.reduceNeg, Int.reduceAdd, Int.reduceSub, Int.reduceMul, HExt_cons]) hok'
  rw [if_pos hu] at hr
  simp only [go_sem, Nat.reduceBEq, Nat.reduceLT, Nat.reduceLeDiff, Nat.reduceAdd, Nat.reduceMul, Nat.reduceSub, Nat.reduceMod, Nat.reduceDiv, Nat.reduceEqDiff, Int.reduceToNat, reduceIte, reduceCtorEq, Int.reduceLE, Int.reduceLT, Int.reduceEq, Int.reduceNeg, Int.reduceAdd, Int.reduceSub, Int.reduceMul, hu]
  refine callA_false (that_E _ _ _ (n + 2) U.1 _ _ (by simp only [go_sem, Nat.reduceBEq, Nat.reduceLT, Nat.reduceLeDiff, Nat.reduceAdd, Nat.reduceMul, Nat.reduceSub, Nat.reduceMod, Nat.reduceDiv, Nat.reduceEqDiff, Int.reduceToNat, reduceIte, reduceCtorEq, Int.reduceLE, Int.reduceLT, Int.reduceEq, Int.reduceNeg, Int.reduceAdd, Int.reduceSub, Int.reduceMul]) (by omega) uR (u2.wide.trans hW) (u2.high.trans hH) hW8 hH8 _ _ _ _ _ ?_ (fun x y => decide (1 ≤ darkB U.1 x y)) (fun j hj nt n0 h' n' hn hx => ?_) _ fun V h' n' hn' hx' hok' hV' => ?_)
  · exact fn_lt (xs := []) (ys := [.ptr (n + 2) 0]) (fun v hv => by cases hv) (fun v hv => by simp at hv; subst hv; show n + 2 < _; omega)
  · obtain ⟨a0, a8, b0, b8⟩ := cell_in u1.small (u2.wide.trans hW) (u2.high.trans hH) hj
    exact stain1_Q _ h' n' (n + 2) U.1 _ _ (hx (n + 2) (by omega) _ (by simp only [go_sem, Nat.reduceBEq, Nat.reduceLT, Nat.reduceLeDiff, Nat.reduceAdd, Nat.reduceMul, Nat.reduceSub, Nat.reduceMod, Nat.reduceDiv, Nat.reduceEqDiff, Int.reduceToNat, reduceIte, reduceCtorEq, Int.reduceLE, Int.reduceLT, Int.reduceEq, Int.reduceNeg, Int.reduceAdd, Int.reduceSub, Int.reduceMul])) (by omega) uR u1 a0 a8 b0 b8
  · simp only [go_sem, Nat.reduceBEq, Nat.reduceLT, Nat.reduceLeDiff, Nat.reduceAdd, Nat.reduceMul, Nat.reduceSub, Nat.reduceMod, Nat.reduceDiv, Nat.reduceEqDiff, Int.reduceToNat, reduceIte, reduceCtorEq, Int.reduceLE, Int.reduceLT, Int.reduceEq, Int.reduceNeg, Int.reduceAdd, Int.reduceSub, Int.reduceMul, hV'.ok]
    intro hok2
    have := hK V h' n' (by omega) (HExt.tr (m' := n + 3) (by simp only [go_sem, Nat.reduceBEq, Nat.reduceLT, Nat.reduceLeDiff, Nat.reduceAdd, Nat.reduceMul, Nat.reduceSub, Nat.reduceMod, Nat.reduceDiv, Nat.reduceEqDiff, Int.reduceToNat, reduceIte, reduceCtorEq, Int.reduceLE, Int.reduceLT, Int.reduceEq, Int.reduceNeg, Int.reduceAdd, Int.reduceSub, Int.reduceMul, HExt_cons]) hx' (by omega)) hok2 (by rw [hr]; exact hV'.mono' (by omega))
    rw [hr] at this
    exact this
end
end Go.Proofs.Ytjepjeaecmioaaa.V
