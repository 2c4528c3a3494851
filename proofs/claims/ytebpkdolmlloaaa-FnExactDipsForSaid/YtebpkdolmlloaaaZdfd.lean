/- Part 4 of the texts that this proof stands on: a symbolic walk over the program, what its functions and the reference's do, plain laws. -/
import Derived.Test.YtebpkdolmlloaaaZdfc
import Derived.Test.YtebpkdolmlloaaaV17
set_option linter.all false

/- The law's lists of spots: copied, compared, marked. -/
namespace Go.Proofs.Ytebpkdolmlloaaa.V

/-- An argument that is a list of spots. -/
def SpsArg (h : List (Nat × Seg)) (n : Nat) (A : SV) (L : List (Int × Int)) : Prop :=
  (A = .nils ∧ L = []) ∨ ∃ i cap s, A = .sl i 0 L.length cap ∧ i < n ∧ hget h i = some s ∧ SpsAt s L
theorem SpsArg.ext {h h' : List (Nat × Seg)} {n n' : Nat} {A : SV} {L : List (Int × Int)} (hA : SpsArg h n A L) (hn : n ≤ n') (hx : HExt n h h') : SpsArg h' n' A L := by
  rcases hA with h1 | ⟨i, cap, s, h1, hi, hs, hL⟩
  · exact .inl h1
  · exact .inr ⟨i, cap, s, h1, by omega, hx i hi s hs, hL⟩
theorem SpsArg.ok {h : List (Nat × Seg)} {n : Nat} {A : SV} {L : List (Int × Int)} (hA : SpsArg h n A L) : A.ok = True := by
  rcases hA with ⟨rfl, rfl⟩ | ⟨i, cap, s, rfl, hi, hs, hL⟩ <;> rfl
theorem SpsArg.lt {h : List (Nat × Seg)} {n : Nat} {A : SV} {L : List (Int × Int)} (hA : SpsArg h n A L) : A.lt n := by
  rcases hA with ⟨rfl, rfl⟩ | ⟨i, cap, s, rfl, hi, hs, hL⟩
  · trivial
  · exact hi
theorem SpsArg.ren {h : List (Nat × Seg)} {n : Nat} {A : SV} {L : List (Int × Int)} (hA : SpsArg h n A L) {σ : Nat → Nat} (hσ : ∀ i, i < n → σ i = i) : V.ren σ A = A := by
  rcases hA with ⟨rfl, rfl⟩ | ⟨i, cap, s, rfl, hi, hs, hL⟩
  · rfl
  · simp only [ren_sl, hσ i hi]
/-- A list of spots, as it was made. -/
def spsS (L : List (Int × Int)) : Seg := ⟨L.length * 2, spotsC L, true, some (86, L.length * 2)⟩
@[go_sem] theorem spsS_eq (L : List (Int × Int)) : spsS L = ⟨L.length * 2, spotsC L, true, some (86, L.length * 2)⟩ := rfl
theorem zSpot (q : Nat) (L : List (Int × Int)) (z : Nat) : zrow (ti 86) z = if z < 0 * 2 then spotsC L z else SV.int .i8 0 := by
  rw [if_neg (by omega)]
  simp only [go_sem, Nat.reduceBEq, Nat.reduceLT, Nat.reduceLeDiff, Nat.reduceAdd, Nat.reduceMul, Nat.reduceSub, Nat.reduceMod, Nat.reduceDiv, Nat.reduceEqDiff, Int.reduceToNat, reduceIte, reduceCtorEq, Int.reduceLE, Int.reduceLT, Int.reduceEq, Int.reduceNeg, Int.reduceAdd, Int.reduceSub, Int.reduceMul, zrow_mk]
  rcases (by omega : z % 2 = 0 ∨ z % 2 = 1) with e | e <;> rw [e] <;> rfl
theorem spsAt_spsS (L : List (Int × Int)) : SpsAt (spsS L) L := ⟨Nat.le_refl _, fun _ _ => rfl⟩
section
variable (cx : Cx) (h : List (Nat × Seg)) (n : Nat)
theorem toSpot_Q (x y : Int) : CallQ Try.prog cx 49 [spot x y] h n (spot x y) := by
  refine callQ_of_T (P := Try.prog) hti (nt := 11) (rs := [.cell 2 86]) rfl rfl Try.call49 Try.func49 rfl _ (by simp only [go_sem, and_self]) (Nat.le_of_ble_eq_true rfl) _ (by first | exact trivial | (refine lt_flat rfl ?_; simp [SV.flat]; done) | simp only [go_sem]) fun hok => ?_
  simp only [go_sem, Nat.reduceBEq, Nat.reduceLT, Nat.reduceLeDiff, Nat.reduceAdd, Nat.reduceMul, Nat.reduceSub, Nat.reduceMod, Nat.reduceDiv, Nat.reduceEqDiff, Int.reduceToNat, reduceIte, reduceCtorEq, Int.reduceLE, Int.reduceLT, Int.reduceEq, Int.reduceNeg, Int.reduceAdd, Int.reduceSub, Int.reduceMul]
theorem eqSpot_Q (x y x' y' : Int) : CallQ Try.prog cx 58 [spot x y, spot x' y'] h n (.bool (decide (x = x' ∧ y = y'))) := by
  refine callQ_of_T (P := Try.prog) hti (nt := 15) (rs := [.tmp 4]) rfl rfl Try.call58 Try.func58 rfl _ (by simp only [go_sem, and_self]) (Nat.le_of_ble_eq_true rfl) _ (by first | exact trivial | (refine lt_flat rfl ?_; simp [SV.flat]; done) | simp only [go_sem]) fun hok => ?_
  simp only [go_sem, Nat.reduceBEq, Nat.reduceLT, Nat.reduceLeDiff, Nat.reduceAdd, Nat.reduceMul, Nat.reduceSub, Nat.reduceMod, Nat.reduceDiv, Nat.reduceEqDiff, Int.reduceToNat, reduceIte, reduceCtorEq, Int.reduceLE, Int.reduceLT, Int.reduceEq, Int.reduceNeg, Int.reduceAdd, Int.reduceSub, Int.reduceMul]
  by_cases hx : x = x'
  · by_cases hy : y = y'
    · simp only [go_sem, Nat.reduceBEq, Nat.reduceLT, Nat.reduceLeDiff, Nat.reduceAdd, Nat.reduceMul, Nat.reduceSub, Nat.reduceMod, Nat.reduceDiv, Nat.reduceEqDiff, Int.reduceToNat, reduceIte, reduceCtorEq, Int.reduceLE, Int.reduceLT, Int.reduceEq, Int.reduceNeg, Int.reduceAdd, Int.reduceSub, Int.reduceMul, hx, hy]
    · simp only [go_sem, Nat.reduceBEq, Nat.reduceLT, Nat.reduceLeDiff, Nat.reduceAdd, Nat.reduceMul, Nat.reduceSub, Nat.reduceMod, Nat.reduceDiv, Nat.reduceEqDiff, Int.reduceToNat, reduceIte, reduceCtorEq, Int.reduceLE, Int.reduceLT, Int.reduceEq, Int.reduceNeg, Int.reduceAdd, Int.reduceSub, Int.reduceMul, hx, hy]
  · simp only [go_sem, Nat.reduceBEq, Nat.reduceLT, Nat.reduceLeDiff, Nat.reduceAdd, Nat.reduceMul, Nat.reduceSub, Nat.reduceMod, Nat.reduceDiv, Nat.reduceEqDiff, Int.reduceToNat, reduceIte, reduceCtorEq, Int.reduceLE, Int.reduceLT, Int.reduceEq, Int.reduceNeg, Int.reduceAdd, Int.reduceSub, Int.reduceMul, hx]
theorem szSpotS_Q (A : SV) (L : List (Int × Int)) (hA : SpsArg h n A L) (left : Int) (hl : -9223372036854775808 ≤ left - L.length) (hl2 : left - L.length < 9223372036854775808) :
    CallQ Try.prog cx 11 [A, .int .i64 left] h n (.int .i64 (if left - L.length < 0 then -1 else left - L.length)) := by
  rcases hA with ⟨rfl, rfl⟩ | ⟨i, cap, s, rfl, hi, hs, hL⟩
  · refine callQ_of_T (P := Try.prog) hti (nt := 12) (rs := [.tmp 4]) rfl rfl Try.call11 Try.func11 rfl _ (by simp only [go_sem, and_self]) (Nat.le_of_ble_eq_true rfl) _ (by first | exact trivial | (refine lt_flat rfl ?_; simp [SV.flat]; done) | simp only [go_sem]) fun hok => ?_
    simp only [List.length_nil] at hl hl2
    by_cases hn : left < 0
    · simp only [go_sem, Nat.reduceBEq, Nat.reduceLT, Nat.reduceLeDiff, Nat.reduceAdd, Nat.reduceMul, Nat.reduceSub, Nat.reduceMod, Nat.reduceDiv, Nat.reduceEqDiff, Int.reduceToNat, reduceIte, reduceCtorEq, Int.reduceLE, Int.reduceLT, Int.reduceEq, Int.reduceNeg, Int.reduceAdd, Int.reduceSub, Int.reduceMul, w64 (n := left) (by omega), hn, Int.sub_zero, Int.natCast_zero]
    · simp only [go_sem, Nat.reduceBEq, Nat.reduceLT, Nat.reduceLeDiff, Nat.reduceAdd, Nat.reduceMul, Nat.reduceSub, Nat.reduceMod, Nat.reduceDiv, Nat.reduceEqDiff, Int.reduceToNat, reduceIte, reduceCtorEq, Int.reduceLE, Int.reduceLT, Int.reduceEq, Int.reduceNeg, Int.reduceAdd, Int.reduceSub, Int.reduceMul, w64 (n := left) (by omega), hn, Int.sub_zero, Int.natCast_zero]
  · refine callQ_of_T (P := Try.prog) hti (nt := 12) (rs := [.tmp 4]) rfl rfl Try.call11 Try.func11 rfl _ (by simp only [go_sem, and_self]) (Nat.le_of_ble_eq_true rfl) _ (by first | exact trivial | (refine lt_flat rfl ?_; simp [SV.flat]; done) | simp only [go_sem]) fun hok => ?_
    by_cases hn : left - L.length < 0
    · simp only [go_sem, Nat.reduceBEq, Nat.reduceLT, Nat.reduceLeDiff, Nat.reduceAdd, Nat.reduceMul, Nat.reduceSub, Nat.reduceMod, Nat.reduceDiv, Nat.reduceEqDiff, Int.reduceToNat, reduceIte, reduceCtorEq, Int.reduceLE, Int.reduceLT, Int.reduceEq, Int.reduceNeg, Int.reduceAdd, Int.reduceSub, Int.reduceMul, w64 (n := left - L.length) ⟨hl, hl2⟩, hn]
    · simp only [go_sem, Nat.reduceBEq, Nat.reduceLT, Nat.reduceLeDiff, Nat.reduceAdd, Nat.reduceMul, Nat.reduceSub, Nat.reduceMod, Nat.reduceDiv, Nat.reduceEqDiff, Int.reduceToNat, reduceIte, reduceCtorEq, Int.reduceLE, Int.reduceLT, Int.reduceEq, Int.reduceNeg, Int.reduceAdd, Int.reduceSub, Int.reduceMul, w64 (n := left - L.length) ⟨hl, hl2⟩, hn]
theorem toSpotS_E (A : SV) (L : List (Int × Int)) (hA : SpsArg h n A L) (hm9 : L.length ≤ 1000000000) (K : HK) (hK : K (.sl n 0 L.length L.length) ((n, spsS L) :: h) (n + 1)) :
    CallE Try.prog cx 14 [A] h n K := by
  have fl : ∀ q z, (if z < q * 2 then spotsC L z else SV.int .i8 0).flat := fun q z => by split; exact spotsC_flat _ _; trivial
  refine CallE.imp0 (K := fun r h1 n1 => r = .sl n 0 L.length L.length ∧ n + 1 ≤ n1 ∧ HExt n h h1 ∧ ∃ s, hget h1 n = some s ∧ s.n = L.length * 2 ∧ s.rw = true ∧ s.own = (spsS L).own ∧ ∀ z, z < L.length * 2 → s.c z = spotsC L z) ?_ ?_
  rotate_left
  · rintro hok r h1 n1 ⟨rfl, hn, hx, s, hs, s1, s2, s3, s4⟩
    exact ⟨_, (n, spsS L) :: h, n + 1, by omega, by simp only [ren_nil], by simp [SV.lt], impH.cons0 hs (by omega) (SegLe.flat (by simp [s1, spsS]) (fun _ => s2) (.inr s3.symm) fun z hz => ⟨s4 z hz, spotsC_flat _ _⟩) (impH.base0 hok (by omega) hx), hK⟩
  rcases hA with ⟨rfl, rfl⟩ | ⟨i, cap, s, rfl, hi, hs, hL⟩
  · refine callE_of_T (P := Try.prog) hti (nt := 23) (rs := [.tmp 2]) rfl rfl Try.call14 Try.func14 rfl _ (by simp only [go_sem, and_self]) (Nat.le_of_ble_eq_true rfl) _ fun hok => ?_
    simp only [go_sem, Nat.reduceBEq, Nat.reduceLT, Nat.reduceLeDiff, Nat.reduceAdd, Nat.reduceMul, Nat.reduceSub, Nat.reduceMod, Nat.reduceDiv, Nat.reduceEqDiff, Int.reduceToNat, reduceIte, reduceCtorEq, Int.reduceLE, Int.reduceLT, Int.reduceEq, Int.reduceNeg, Int.reduceAdd, Int.reduceSub, Int.reduceMul]
    refine T_unroll 0 ?_
    simp only [go_sem, Nat.reduceBEq, Nat.reduceLT, Nat.reduceLeDiff, Nat.reduceAdd, Nat.reduceMul, Nat.reduceSub, Nat.reduceMod, Nat.reduceDiv, Nat.reduceEqDiff, Int.reduceToNat, reduceIte, reduceCtorEq, Int.reduceLE, Int.reduceLT, Int.reduceEq, Int.reduceNeg, Int.reduceAdd, Int.reduceSub, Int.reduceMul, HExt_cons, Option.some.injEq, exists_eq_left']
    intro z hz
    omega
  · have hn := hL.1
    refine callE_of_T (P := Try.prog) hti (nt := 23) (rs := [.tmp 2]) rfl rfl Try.call14 Try.func14 rfl _ (by simp only [go_sem, and_self]) (Nat.le_of_ble_eq_true rfl) _ fun hok => ?_
    simp only [go_sem, Nat.reduceBEq, Nat.reduceLT, Nat.reduceLeDiff, Nat.reduceAdd, Nat.reduceMul, Nat.reduceSub, Nat.reduceMod, Nat.reduceDiv, Nat.reduceEqDiff, Int.reduceToNat, reduceIte, reduceCtorEq, Int.reduceLE, Int.reduceLT, Int.reduceEq, Int.reduceNeg, Int.reduceAdd, Int.reduceSub, Int.reduceMul]
    refine ⟨by omega, ?_⟩
    refine T_lp (ι := { q : Nat // q ≤ L.length })
      (fun q => ([(0, .sl i 0 L.length cap), (3, .sl n 0 L.length L.length), (4, .int .i64 q.1)], (n, ⟨L.length * 2, fun z => if z < q.1 * 2 then spotsC L z else .int .i8 0, true, some (86, L.length * 2)⟩) :: h, n + 1)) (fun q => L.length - q.1) ⟨0, by omega⟩ ?_ ?_
    · refine Imp.id (by simp) ?_ ?_
      · simp only [go_sem, Nat.reduceBEq, Nat.reduceLT, Nat.reduceLeDiff, Nat.reduceAdd, Nat.reduceMul, Nat.reduceSub, Nat.reduceMod, Nat.reduceDiv, Nat.reduceEqDiff, Int.reduceToNat, reduceIte, reduceCtorEq, Int.reduceLE, Int.reduceLT, Int.reduceEq, Int.reduceNeg, Int.reduceAdd, Int.reduceSub, Int.reduceMul]
        omega
      · refine impH.cons0 (hget_hit _ _ _) (by simp) (SegLe.flat (Nat.le_refl _) id (.inr rfl) fun z hz => ⟨?_, fl 0 z⟩) (impH.base0 hok (by simp) (HExt.rfl.cons (Nat.le_refl n)))
        exact zSpot 0 L z
    · rintro ⟨q, hq⟩
      simp only [go_sem, Nat.reduceBEq, Nat.reduceLT, Nat.reduceLeDiff, Nat.reduceAdd, Nat.reduceMul, Nat.reduceSub, Nat.reduceMod, Nat.reduceDiv, Nat.reduceEqDiff, Int.reduceToNat, reduceIte, reduceCtorEq, Int.reduceLE, Int.reduceLT, Int.reduceEq, Int.reduceNeg, Int.reduceAdd, Int.reduceSub, Int.reduceMul, decide_eq_true_eq, decide_eq_false_iff_not]
      refine ⟨fun h1 => ?_, fun h1 => ?_⟩
      · have r1 : (0 : Int) ≤ q ∧ (q : Int) < L.length := ⟨by omega, by omega⟩
        have b1 : q * 2 ≤ s.n - 2 := by omega
        have b2 : q * 2 ≤ L.length * 2 - 2 := by omega
        have b3 : 2 ≤ s.n := by omega
        have b4 : 2 ≤ L.length * 2 := by omega
        have b5 : q * 2 + 2 ≤ L.length * 2 := by omega
        simp only [go_sem, Nat.reduceBEq, Nat.reduceLT, Nat.reduceLeDiff, Nat.reduceAdd, Nat.reduceMul, Nat.reduceSub, Nat.reduceMod, Nat.reduceDiv, Nat.reduceEqDiff, Int.reduceToNat, reduceIte, reduceCtorEq, Int.reduceLE, Int.reduceLT, Int.reduceEq, Int.reduceNeg, Int.reduceAdd, Int.reduceSub, Int.reduceMul, hs, hi, r1, b1, b3, hL.x (j := q) (by omega), hL.y (j := q) (by omega)]
        refine ⟨by omega, (toSpot_Q _ _ _ _ _).A ?_⟩
        simp only [go_sem, Nat.reduceBEq, Nat.reduceLT, Nat.reduceLeDiff, Nat.reduceAdd, Nat.reduceMul, Nat.reduceSub, Nat.reduceMod, Nat.reduceDiv, Nat.reduceEqDiff, Int.reduceToNat, reduceIte, reduceCtorEq, Int.reduceLE, Int.reduceLT, Int.reduceEq, Int.reduceNeg, Int.reduceAdd, Int.reduceSub, Int.reduceMul, r1, b5]
        refine ⟨⟨q + 1, by omega⟩, by show L.length - (q + 1) < L.length - q; omega, ?_⟩
        refine Imp.id (by simp) ?_ ?_
        · simp only [go_sem, Nat.reduceBEq, Nat.reduceLT, Nat.reduceLeDiff, Nat.reduceAdd, Nat.reduceMul, Nat.reduceSub, Nat.reduceMod, Nat.reduceDiv, Nat.reduceEqDiff, Int.reduceToNat, reduceIte, reduceCtorEq, Int.reduceLE, Int.reduceLT, Int.reduceEq, Int.reduceNeg, Int.reduceAdd, Int.reduceSub, Int.reduceMul, w64 (n := (q : Int) + 1) (by omega), Int.natCast_add, Int.natCast_one]
          exact ⟨by omega, by omega⟩
        · refine impH.cons0 (hget_hit _ _ _) (by simp) (SegLe.flat (Nat.le_refl _) id (.inr rfl) fun z hz => ⟨?_, fl (q + 1) z⟩) (impH.base0 hok (by simp) (HExt.rfl.cons (Nat.le_refl n)))
          exact part_agg (C := spotsC L) (Z := fun _ => .int .i8 0) (sz := 2) (fun j hj => by
            rcases (by omega : j = 0 ∨ j = 1) with rfl | rfl
            · exact (spotsC_x L q).symm
            · exact (spotsC_y L q).symm) (by omega) hz
      · have hq' : q = L.length := by omega
        subst hq'
        simp only [go_sem, Nat.reduceBEq, Nat.reduceLT, Nat.reduceLeDiff, Nat.reduceAdd, Nat.reduceMul, Nat.reduceSub, Nat.reduceMod, Nat.reduceDiv, Nat.reduceEqDiff, Int.reduceToNat, reduceIte, reduceCtorEq, Int.reduceLE, Int.reduceLT, Int.reduceEq, Int.reduceNeg, Int.reduceAdd, Int.reduceSub, Int.reduceMul, HExt_cons, Option.some.injEq, exists_eq_left']
        intro z hz
        rw [if_pos hz]
end
end Go.Proofs.Ytebpkdolmlloaaa.V

/- The law's brushes; lists of spots that are alike. -/
namespace Go.Proofs.Ytebpkdolmlloaaa.V
section
variable (cx : Cx) (h : List (Nat × Seg)) (n : Nat)
theorem cl3 {G : Nat → SV} {a b c : SV} (h0 : G 0 = a) (h1 : G 1 = b) (h2 : G 2 = c) {j : Nat} (hj : j < 3) : G j = cl [a, b, c] j := by
  rcases (by omega : j = 0 ∨ j = 1 ∨ j = 2) with rfl | rfl | rfl
  · exact h0
  · exact h1
  · exact h2
theorem toInt16A3_G (G : Nat → SV) (a b d : Int) (h0 : G 0 = .int .i16 a) (h1 : G 1 = .int .i16 b) (h2 : G 2 = .int .i16 d) : CallQ Try.prog cx 48 [.agg 3 G] h n (.agg 3 (cl [.int .i16 a, .int .i16 b, .int .i16 d])) :=
  CallQ.argsEq (fun ρ => by simp only [List.map_cons, List.map_nil]; rw [den_aggF (fun j hj => cl3 h0 h1 h2 hj) ρ]) ⟨trivial, trivial⟩
    (fun v hv => by rw [List.mem_singleton.1 hv]; simp only [go_sem]) (toInt16A3_Q cx h n a b d)
theorem eqInt16A3_G (F G : Nat → SV) (a b d : Int) (f0 : F 0 = .int .i16 a) (f1 : F 1 = .int .i16 b) (f2 : F 2 = .int .i16 d) (h0 : G 0 = .int .i16 a) (h1 : G 1 = .int .i16 b) (h2 : G 2 = .int .i16 d) :
    CallQ Try.prog cx 68 [.agg 3 F, .agg 3 G] h n (.bool true) :=
  CallQ.argsEq (fun ρ => by simp only [List.map_cons, List.map_nil]; rw [den_aggF (fun j hj => cl3 h0 h1 h2 hj) ρ, den_aggF (fun j hj => cl3 f0 f1 f2 hj) ρ]) ⟨trivial, trivial, trivial⟩
    (fun v hv => by simp only [List.mem_cons, List.not_mem_nil, or_false, or_self] at hv; subst hv; simp only [go_sem]) (eqInt16A3_Q cx h n a b d)
theorem toBrush_Q (B : Br) : CallQ Try.prog cx 13 [.agg 5 (brC B)] h n (.agg 5 (brC B)) := by
  refine callQ_of_T (P := Try.prog) hti (nt := 15) (rs := [.cell 2 45]) rfl rfl Try.call13 Try.func13 rfl _ (by simp only [go_sem, and_self]) (Nat.le_of_ble_eq_true rfl) _ (by first | exact trivial | (refine lt_flat rfl ?_; simp [SV.flat]; done) | simp only [go_sem]) fun hok => ?_
  simp only [go_sem, Nat.reduceBEq, Nat.reduceLT, Nat.reduceLeDiff, Nat.reduceAdd, Nat.reduceMul, Nat.reduceSub, Nat.reduceMod, Nat.reduceDiv, Nat.reduceEqDiff, Int.reduceToNat, reduceIte, reduceCtorEq, Int.reduceLE, Int.reduceLT, Int.reduceEq, Int.reduceNeg, Int.reduceAdd, Int.reduceSub, Int.reduceMul]
  refine (toInt16A3_G _ _ _ _ B.a B.b B.c (by simp only [go_sem, Nat.reduceBEq, Nat.reduceLT, Nat.reduceLeDiff, Nat.reduceAdd, Nat.reduceMul, Nat.reduceSub, Nat.reduceMod, Nat.reduceDiv, Nat.reduceEqDiff, Int.reduceToNat, reduceIte, reduceCtorEq, Int.reduceLE, Int.reduceLT, Int.reduceEq, Int.reduceNeg, Int.reduceAdd, Int.reduceSub, Int.reduceMul]) (by simp only [go_sem, Nat.reduceBEq, Nat.reduceLT, Nat.reduceLeDiff, Nat.reduceAdd, Nat.reduceMul, Nat.reduceSub, Nat.reduceMod, Nat.reduceDiv, Nat.reduceEqDiff, Int.reduceToNat, reduceIte, reduceCtorEq, Int.reduceLE, Int.reduceLT, Int.reduceEq, Int.reduceNeg, Int.reduceAdd, Int.reduceSub, Int.reduceMul]) (by simp only [go_sem, Nat.reduceBEq, Nat.reduceLT, Nat.reduceLeDiff, Nat.reduceAdd, Nat.reduceMul, Nat.reduceSub, Nat.reduceMod, Nat.reduceDiv, Nat.reduceEqDiff, Int.reduceToNat, reduceIte, reduceCtorEq, Int.reduceLE, Int.reduceLT, Int.reduceEq, Int.reduceNeg, Int.reduceAdd, Int.reduceSub, Int.reduceMul])).A ?_
  simp only [go_sem, Nat.reduceBEq, Nat.reduceLT, Nat.reduceLeDiff, Nat.reduceAdd, Nat.reduceMul, Nat.reduceSub, Nat.reduceMod, Nat.reduceDiv, Nat.reduceEqDiff, Int.reduceToNat, reduceIte, reduceCtorEq, Int.reduceLE, Int.reduceLT, Int.reduceEq, Int.reduceNeg, Int.reduceAdd, Int.reduceSub, Int.reduceMul]
theorem eqBrush_Q (B : Br) : CallQ Try.prog cx 28 [.agg 5 (brC B), .agg 5 (brC B)] h n (.bool true) := by
  refine callQ_of_T (P := Try.prog) hti (nt := 21) (rs := [.tmp 4]) rfl rfl Try.call28 Try.func28 rfl _ (by simp only [go_sem, and_self]) (Nat.le_of_ble_eq_true rfl) _ (by first | exact trivial | (refine lt_flat rfl ?_; simp [SV.flat]; done) | simp only [go_sem]) fun hok => ?_
  simp only [go_sem, Nat.reduceBEq, Nat.reduceLT, Nat.reduceLeDiff, Nat.reduceAdd, Nat.reduceMul, Nat.reduceSub, Nat.reduceMod, Nat.reduceDiv, Nat.reduceEqDiff, Int.reduceToNat, reduceIte, reduceCtorEq, Int.reduceLE, Int.reduceLT, Int.reduceEq, Int.reduceNeg, Int.reduceAdd, Int.reduceSub, Int.reduceMul]
  refine (eqInt16A3_G _ _ _ _ _ B.a B.b B.c (by simp only [go_sem, Nat.reduceBEq, Nat.reduceLT, Nat.reduceLeDiff, Nat.reduceAdd, Nat.reduceMul, Nat.reduceSub, Nat.reduceMod, Nat.reduceDiv, Nat.reduceEqDiff, Int.reduceToNat, reduceIte, reduceCtorEq, Int.reduceLE, Int.reduceLT, Int.reduceEq, Int.reduceNeg, Int.reduceAdd, Int.reduceSub, Int.reduceMul]) (by simp only [go_sem, Nat.reduceBEq, Nat.reduceLT, Nat.reduceLeDiff, Nat.reduceAdd, Nat.reduceMul, Nat.reduceSub, Nat.reduceMod, Nat.reduceDiv, Nat.reduceEqDiff, Int.reduceToNat, reduceIte, reduceCtorEq, Int.reduceLE, Int.reduceLT, Int.reduceEq, Int.reduceNeg, Int.reduceAdd, Int.reduceSub, Int.reduceMul]) (by simp only [go_sem, Nat.reduceBEq, Nat.reduceLT, Nat.reduceLeDiff, Nat.reduceAdd, Nat.reduceMul, Nat.reduceSub, Nat.reduceMod, Nat.reduceDiv, Nat.reduceEqDiff, Int.reduceToNat, reduceIte, reduceCtorEq, Int.reduceLE, Int.reduceLT, Int.reduceEq, Int.reduceNeg, Int.reduceAdd, Int.reduceSub, Int.reduceMul]) (by simp only [go_sem, Nat.reduceBEq, Nat.reduceLT, Nat.reduceLeDiff, Nat.reduceAdd, Nat.reduceMul, Nat.reduceSub, Nat.reduceMod, Nat.reduceDiv, Nat.reduceEqDiff, Int.reduceToNat, reduceIte, reduceCtorEq, Int.reduceLE, Int.reduceLT, Int.reduceEq, Int.reduceNeg, Int.reduceAdd, Int.reduceSub, Int.reduceMul]) (by simp only [go_sem, Nat.reduceBEq, Nat.reduceLT, Nat.reduceLeDiff, Nat.reduceAdd, Nat.reduceMul, Nat.reduceSub, Nat.reduceMod, Nat.reduceDiv, Nat.reduceEqDiff, Int.reduceToNat, reduceIte, reduceCtorEq, Int.reduceLE, Int.reduceLT, Int.reduceEq, Int.reduceNeg, Int.reduceAdd, Int.reduceSub, Int.reduceMul]) (by simp only [go_sem, Nat.reduceBEq, Nat.reduceLT, Nat.reduceLeDiff, Nat.reduceAdd, Nat.reduceMul, Nat.reduceSub, Nat.reduceMod, Nat.reduceDiv, Nat.reduceEqDiff, Int.reduceToNat, reduceIte, reduceCtorEq, Int.reduceLE, Int.reduceLT, Int.reduceEq, Int.reduceNeg, Int.reduceAdd, Int.reduceSub, Int.reduceMul])).A ?_
  simp only [go_sem, Nat.reduceBEq, Nat.reduceLT, Nat.reduceLeDiff, Nat.reduceAdd, Nat.reduceMul, Nat.reduceSub, Nat.reduceMod, Nat.reduceDiv, Nat.reduceEqDiff, Int.reduceToNat, reduceIte, reduceCtorEq, Int.reduceLE, Int.reduceLT, Int.reduceEq, Int.reduceNeg, Int.reduceAdd, Int.reduceSub, Int.reduceMul]
theorem eqSpotS_Q (i cap i' cap' : Nat) (L : List (Int × Int)) (s s' : Seg) (hs : hget h i = some s) (hi : i < n) (hL : SpsAt s L) (hs' : hget h i' = some s') (hi' : i' < n) (hL' : SpsAt s' L) (hm9 : L.length ≤ 1000000000) :
    CallQ Try.prog cx 17 [.sl i 0 L.length cap, .sl i' 0 L.length cap'] h n (.bool true) := by
  have hn := hL.1; have hn' := hL'.1
  refine callQ_of_T (P := Try.prog) hti (nt := 27) (rs := [.tmp 4]) rfl rfl Try.call17 Try.func17 rfl _ (by simp only [go_sem, and_self]) (Nat.le_of_ble_eq_true rfl) _ (by first | exact trivial | (refine lt_flat rfl ?_; simp [SV.flat]; done) | simp only [go_sem]) fun hok => ?_
  simp only [go_sem, Nat.reduceBEq, Nat.reduceLT, Nat.reduceLeDiff, Nat.reduceAdd, Nat.reduceMul, Nat.reduceSub, Nat.reduceMod, Nat.reduceDiv, Nat.reduceEqDiff, Int.reduceToNat, reduceIte, reduceCtorEq, Int.reduceLE, Int.reduceLT, Int.reduceEq, Int.reduceNeg, Int.reduceAdd, Int.reduceSub, Int.reduceMul]
  refine T_lp (ι := { q : Nat // q ≤ L.length }) (fun q => ([(0, .sl i 0 L.length cap), (1, .sl i' 0 L.length cap'), (5, .int .i64 q.1)], h, n)) (fun q => L.length - q.1) ⟨0, by omega⟩ ?_ ?_
  · refine Imp.id (by simp) ?_ (impH.base0 hok (by simp) HExt.rfl)
    simp only [go_sem, Nat.reduceBEq, Nat.reduceLT, Nat.reduceLeDiff, Nat.reduceAdd, Nat.reduceMul, Nat.reduceSub, Nat.reduceMod, Nat.reduceDiv, Nat.reduceEqDiff, Int.reduceToNat, reduceIte, reduceCtorEq, Int.reduceLE, Int.reduceLT, Int.reduceEq, Int.reduceNeg, Int.reduceAdd, Int.reduceSub, Int.reduceMul]
    exact ⟨hi, hi'⟩
  · rintro ⟨q, hq⟩
    simp only [go_sem, Nat.reduceBEq, Nat.reduceLT, Nat.reduceLeDiff, Nat.reduceAdd, Nat.reduceMul, Nat.reduceSub, Nat.reduceMod, Nat.reduceDiv, Nat.reduceEqDiff, Int.reduceToNat, reduceIte, reduceCtorEq, Int.reduceLE, Int.reduceLT, Int.reduceEq, Int.reduceNeg, Int.reduceAdd, Int.reduceSub, Int.reduceMul, decide_eq_true_eq, decide_eq_false_iff_not]
    refine ⟨fun h1 => ?_, fun h1 => ?_⟩
    · have r1 : (0 : Int) ≤ q ∧ (q : Int) < L.length := ⟨by omega, by omega⟩
      have b1 : q * 2 ≤ s.n - 2 := by omega
      have b2 : q * 2 ≤ s'.n - 2 := by omega
      have b3 : 2 ≤ s.n := by omega
      have b4 : 2 ≤ s'.n := by omega
      refine T_draw hti _ _ (by kernel_rfl) (by kernel_rfl) ?_
      simp only [go_sem, Nat.reduceBEq, Nat.reduceLT, Nat.reduceLeDiff, Nat.reduceAdd, Nat.reduceMul, Nat.reduceSub, Nat.reduceMod, Nat.reduceDiv, Nat.reduceEqDiff, Int.reduceToNat, reduceIte, reduceCtorEq, Int.reduceLE, Int.reduceLT, Int.reduceEq, Int.reduceNeg, Int.reduceAdd, Int.reduceSub, Int.reduceMul, hs, hs', r1, b1, b2, b3, b4, hL.x (j := q) (by omega), hL.y (j := q) (by omega), hL'.x (j := q) (by omega), hL'.y (j := q) (by omega)]
      refine ⟨by omega, by omega, (eqSpot_Q _ _ _ _ _ _ _).A ?_⟩
      simp only [go_sem, Nat.reduceBEq, Nat.reduceLT, Nat.reduceLeDiff, Nat.reduceAdd, Nat.reduceMul, Nat.reduceSub, Nat.reduceMod, Nat.reduceDiv, Nat.reduceEqDiff, Int.reduceToNat, reduceIte, reduceCtorEq, Int.reduceLE, Int.reduceLT, Int.reduceEq, Int.reduceNeg, Int.reduceAdd, Int.reduceSub, Int.reduceMul]
      refine ⟨⟨q + 1, by omega⟩, by show L.length - (q + 1) < L.length - q; omega, ?_⟩
      refine Imp.id (by simp) ?_ (impH.base0 hok (by simp) HExt.rfl)
      simp only [go_sem, Nat.reduceBEq, Nat.reduceLT, Nat.reduceLeDiff, Nat.reduceAdd, Nat.reduceMul, Nat.reduceSub, Nat.reduceMod, Nat.reduceDiv, Nat.reduceEqDiff, Int.reduceToNat, reduceIte, reduceCtorEq, Int.reduceLE, Int.reduceLT, Int.reduceEq, Int.reduceNeg, Int.reduceAdd, Int.reduceSub, Int.reduceMul, w64 (n := (q : Int) + 1) (by omega), Int.natCast_add, Int.natCast_one]
      exact ⟨hi, hi'⟩
    · simp only [go_sem, Nat.reduceBEq, Nat.reduceLT, Nat.reduceLeDiff, Nat.reduceAdd, Nat.reduceMul, Nat.reduceSub, Nat.reduceMod, Nat.reduceDiv, Nat.reduceEqDiff, Int.reduceToNat, reduceIte, reduceCtorEq, Int.reduceLE, Int.reduceLT, Int.reduceEq, Int.reduceNeg, Int.reduceAdd, Int.reduceSub, Int.reduceMul]
end
end Go.Proofs.Ytebpkdolmlloaaa.V

/- Dips of a brush: what is told, and the small functions of both codes. -/
namespace Go.Proofs.Ytebpkdolmlloaaa.V

def lvSum (S : Sh) (B : Br) (y x : Int) : Int := lvA S B y x + lvB S B y x + lvC S B y x
theorem lvSum_in {S : Sh} {B : Br} {y x : Int} (hG : Good S) (hB : BrV B) (hx : 0 ≤ x) (hx8 : x < 8) (hy : 0 ≤ y) (hy8 : y < 8) : 0 ≤ lvSum S B y x ∧ lvSum S B y x ≤ 900 := by
  have l0 := lvA_in hG hB hx hx8 hy hy8
  have l1 := lvB_in hG hB hx hx8 hy hy8
  have l2 := lvC_in hG hB hx hx8 hy hy8
  have := hB.2.1
  unfold lvSum
  omega
abbrev DSt := Sh × Br × List Int
/-- One cell of a path. -/
def dipStep (B0 : Br) (least : Int) (p : DSt) (q : Nat) (a : Int × Int) : Option DSt :=
  if waxB p.1 a.1 a.2 then some p
  else if lvSum p.1 p.2.1 a.2 a.1 < least then (if lvSum p.1 B0 a.2 a.1 < least then none else some (touchS p.1 B0 a.2 a.1, touchB p.1 B0 a.2 a.1, p.2.2 ++ [(q : Int)]))
  else some (touchS p.1 p.2.1 a.2 a.1, touchB p.1 p.2.1 a.2 a.1, p.2.2)
def dipN (S : Sh) (B0 : Br) (least : Int) (L : List (Int × Int)) : Nat → Option DSt
  | 0 => some (S, B0, [])
  | q + 1 => (dipN S B0 least L q).bind fun p => dipStep B0 least p q (L.getD q (0, 0))
theorem dipN_none {S : Sh} {B0 : Br} {least : Int} {L : List (Int × Int)} {q : Nat} (h : dipN S B0 least L q = none) : ∀ k, dipN S B0 least L (q + k) = none
  | 0 => h
  | k + 1 => by show (dipN S B0 least L (q + k)).bind _ = none; rw [dipN_none h k]; rfl
theorem dipN_end {S : Sh} {B0 : Br} {least : Int} {L : List (Int × Int)} {q : Nat} (h : dipN S B0 least L q = none) (hq : q ≤ L.length) : dipN S B0 least L L.length = none := by
  have := dipN_none h (L.length - q)
  rwa [show q + (L.length - q) = L.length by omega] at this
theorem touchS_wax {S : Sh} {B : Br} {y x : Int} (h : waxB S x y = true) : touchS S B y x = S := by
  unfold touchS lvA lvB lvC lvW
  simp only [h, if_true, Int.add_zero]
  obtain ⟨w, hh, wet, dye, wax⟩ := S
  simp only [Sh.setWet, Sh.setDye, Sh.mk.injEq, true_and, and_true]
  refine ⟨?_, ?_⟩
  · funext y' x'; split
    · rename_i hc; rw [hc.1, hc.2]
    · rfl
  · funext y' x' i'
    (repeat' split) <;> first | rfl | (rename_i hc; rw [hc.1, hc.2.1, hc.2.2])
theorem touchB_wax {S : Sh} {B : Br} {y x : Int} (h : waxB S x y = true) : touchB S B y x = B := by
  unfold touchB lvA lvB lvC lvW
  simp only [h, if_true, Int.sub_zero]
structure DOk (S0 : Sh) (q : Nat) (p : DSt) : Prop where
  ok : OkSB S0 (p.1, p.2.1)
  len : p.2.2.length ≤ q
theorem dipStep_ok {S0 : Sh} {B0 : Br} {least : Int} {p p' : DSt} {q : Nat} {a : Int × Int} (h : DOk S0 q p) (hB : BrV B0) (hx : 0 ≤ a.1) (hx8 : a.1 < 8) (hy : 0 ≤ a.2) (hy8 : a.2 < 8) (e : dipStep B0 least p q a = some p') : DOk S0 (q + 1) p' := by
  unfold dipStep at e
  split at e
  · obtain rfl : p = p' := by simpa using e
    exact ⟨h.ok, Nat.le_succ_of_le h.len⟩
  · split at e
    · split at e
      · cases e
      · obtain rfl : _ = p' := by simpa using e
        exact ⟨touch_ok (p := (p.1, B0)) ⟨h.ok.R, h.ok.G, hB, h.ok.wide, h.ok.high, h.ok.wax⟩ hx hx8 hy hy8, by simp; exact h.len⟩
    · obtain rfl : _ = p' := by simpa using e
      exact ⟨touch_ok h.ok hx hx8 hy hy8, Nat.le_succ_of_le h.len⟩
theorem dipN_ok {S : Sh} {B0 : Br} {least : Int} {L : List (Int × Int)} (hI : InP S L) (hS : Small S) (h : OkSB S (S, B0)) : ∀ (q : Nat) (p : DSt), q ≤ L.length → dipN S B0 least L q = some p → DOk S q p
  | 0, p, _, e => by
    obtain rfl : (S, B0, ([] : List Int)) = p := by simpa [dipN] using e
    exact ⟨h, Nat.le_refl _⟩
  | q + 1, p, hq, e => by
    cases e1 : dipN S B0 least L q with
    | none => simp [dipN, e1] at e
    | some p1 =>
      simp only [dipN, e1, Option.bind_some] at e
      obtain ⟨a, b, c, d⟩ := hI.at hS (q := q) (by omega)
      exact dipStep_ok (dipN_ok hI hS h q p1 (by omega) e1) h.B a b c d e
open Classical in
/-- What DipsFor returns. -/
noncomputable def dipR (S : Sh) (B : Br) (L : List (Int × Int)) (least : Int) : List Int × Int :=
  if Valid S ∧ BrV B then (if PathP S L ∧ 1 ≤ least ∧ least ≤ 3000 then (match dipN S B least L L.length with | some p => (p.2.2, 0) | none => ([], 6)) else ([], 2)) else ([], 1)
theorem dipR_bad {S : Sh} {B : Br} {L : List (Int × Int)} {least : Int} (h : ¬ (Valid S ∧ BrV B)) : dipR S B L least = ([], 1) := by unfold dipR; rw [if_neg h]
theorem dipR_range {S : Sh} {B : Br} {L : List (Int × Int)} {least : Int} (h : Valid S ∧ BrV B) (h2 : ¬ (PathP S L ∧ 1 ≤ least ∧ least ≤ 3000)) : dipR S B L least = ([], 2) := by unfold dipR; rw [if_pos h, if_neg h2]
theorem dipR_none {S : Sh} {B : Br} {L : List (Int × Int)} {least : Int} (h : Valid S ∧ BrV B) (h2 : PathP S L ∧ 1 ≤ least ∧ least ≤ 3000) (e : dipN S B least L L.length = none) : dipR S B L least = ([], 6) := by unfold dipR; rw [if_pos h, if_pos h2, e]
theorem dipR_some {S : Sh} {B : Br} {L : List (Int × Int)} {least : Int} {p : DSt} (h : Valid S ∧ BrV B) (h2 : PathP S L ∧ 1 ≤ least ∧ least ≤ 3000) (e : dipN S B least L L.length = some p) : dipR S B L least = (p.2.2, 0) := by unfold dipR; rw [if_pos h, if_pos h2, e]

/-- Numbers in a row. -/
def intsC (L : List Int) : Nat → SV := fun k => .int .i64 (L.getD k 0)
theorem intsC_flat (L : List Int) (k : Nat) : (intsC L k).flat := trivial
/-- A list of numbers that a call has made. -/
def IntsOut (h : List (Nat × Seg)) (lo n : Nat) (V : SV) (L : List Int) : Prop :=
  (V = .nils ∧ L = []) ∨ ∃ i cap s, V = .sl i 0 L.length cap ∧ lo ≤ i ∧ i < n ∧ hget h i = some s ∧ s.rw = true ∧ s.n = L.length ∧ ∀ k, k < L.length → s.c k = intsC L k

section
variable {cx : Cx} {h : List (Nat × Seg)} {n : Nat}
theorem CallE.hokE {P : Program} {f : Nat} {args : List SV} {K : HK} (hc : CallE P cx f args h n fun r h' n' => HOk n' h' → K r h' n') : CallE P cx f args h n K := by
  obtain ⟨h1, h2, h3⟩ := hc
  refine ⟨h1, h2, fun ρ w sh hl => (h3 ρ w sh hl).mono fun e w' he => ?_⟩
  obtain ⟨ρ', r', h', n', g1, g2, g3, g4, g5, g6⟩ := he
  exact ⟨ρ', r', h', n', g1, g2, g3, g4, g5, g6 g5.lt⟩
variable (cx) (h) (n)
variable (i : Nat) (S : Sh) (B : Br) (x y least : Int) (hs : hget h i = some (shS S)) (hi : i < n) (hR : ShR S) (hG : Good S) (hB : BrV B) (hx : 0 ≤ x) (hx8 : x < 8) (hy : 0 ≤ y) (hy8 : y < 8)
theorem least2_Q : CallQ Try.prog cx 44 [.int .i64 least] h n (.bool (decide (1 ≤ least ∧ least ≤ 3000))) := by
  refine callQ_of_T (P := Try.prog) hti (nt := 5) (rs := [.tmp 2]) rfl rfl Try.call44 Try.func44 rfl _ (by simp only [go_sem, and_self]) (Nat.le_of_ble_eq_true rfl) _ (by first | exact trivial | (refine lt_flat rfl ?_; simp [SV.flat]; done) | simp only [go_sem]) fun hok => ?_
  simp only [go_sem, Nat.reduceBEq, Nat.reduceLT, Nat.reduceLeDiff, Nat.reduceAdd, Nat.reduceMul, Nat.reduceSub, Nat.reduceMod, Nat.reduceDiv, Nat.reduceEqDiff, Int.reduceToNat, reduceIte, reduceCtorEq, Int.reduceLE, Int.reduceLT, Int.reduceEq, Int.reduceNeg, Int.reduceAdd, Int.reduceSub, Int.reduceMul]
  refine (in_Q _ _ _ _ _ _).A ?_
  simp only [go_sem, Nat.reduceBEq, Nat.reduceLT, Nat.reduceLeDiff, Nat.reduceAdd, Nat.reduceMul, Nat.reduceSub, Nat.reduceMod, Nat.reduceDiv, Nat.reduceEqDiff, Int.reduceToNat, reduceIte, reduceCtorEq, Int.reduceLE, Int.reduceLT, Int.reduceEq, Int.reduceNeg, Int.reduceAdd, Int.reduceSub, Int.reduceMul]
theorem isDarkness_Q : CallQ Try.prog cx 52 [.int .i64 least] h n (.bool (decide (1 ≤ least ∧ least ≤ 3000))) := by
  refine callQ_of_T (P := Try.prog) hti (nt := 5) (rs := [.tmp 2]) rfl rfl Try.call52 Try.func52 rfl _ (by simp only [go_sem, and_self]) (Nat.le_of_ble_eq_true rfl) _ (by first | exact trivial | (refine lt_flat rfl ?_; simp [SV.flat]; done) | simp only [go_sem]) fun hok => ?_
  simp only [go_sem, Nat.reduceBEq, Nat.reduceLT, Nat.reduceLeDiff, Nat.reduceAdd, Nat.reduceMul, Nat.reduceSub, Nat.reduceMod, Nat.reduceDiv, Nat.reduceEqDiff, Int.reduceToNat, reduceIte, reduceCtorEq, Int.reduceLE, Int.reduceLT, Int.reduceEq, Int.reduceNeg, Int.reduceAdd, Int.reduceSub, Int.reduceMul]
  refine (within_Q _ _ _ _ _ _).A ?_
  simp only [go_sem, Nat.reduceBEq, Nat.reduceLT, Nat.reduceLeDiff, Nat.reduceAdd, Nat.reduceMul, Nat.reduceSub, Nat.reduceMod, Nat.reduceDiv, Nat.reduceEqDiff, Int.reduceToNat, reduceIte, reduceCtorEq, Int.reduceLE, Int.reduceLT, Int.reduceEq, Int.reduceNeg, Int.reduceAdd, Int.reduceSub, Int.reduceMul]
include hs hi hR hG hB hx hx8 hy hy8 in
theorem enough2_Q (j : Nat) (ht : hget h j = some (brS B)) (hj : j < n) : CallQ Try.prog cx 46 [.ptr i 0, .ptr j 0, spot x y, .int .i64 least] h n (.bool (decide (least ≤ lvSum S B y x))) := by
  have l0 := lvA_in hG hB hx hx8 hy hy8
  have l1 := lvB_in hG hB hx hx8 hy hy8
  have l2 := lvC_in hG hB hx hx8 hy hy8
  obtain ⟨⟨b1, b2, b3⟩, b4, b5, b6⟩ := id hB
  refine callQ_of_T (P := Try.prog) hti (nt := 28) (rs := [.tmp 8]) rfl rfl Try.call46 Try.func46 rfl _ (by simp only [go_sem, and_self]) (Nat.le_of_ble_eq_true rfl) _ (by first | exact trivial | (refine lt_flat rfl ?_; simp [SV.flat]; done) | simp only [go_sem]) fun hok => ?_
  simp only [go_sem, Nat.reduceBEq, Nat.reduceLT, Nat.reduceLeDiff, Nat.reduceAdd, Nat.reduceMul, Nat.reduceSub, Nat.reduceMod, Nat.reduceDiv, Nat.reduceEqDiff, Int.reduceToNat, reduceIte, reduceCtorEq, Int.reduceLE, Int.reduceLT, Int.reduceEq, Int.reduceNeg, Int.reduceAdd, Int.reduceSub, Int.reduceMul]
  refine (leave2_Q _ _ _ i j S B x y (by simp only [go_sem, Nat.reduceBEq, Nat.reduceLT, Nat.reduceLeDiff, Nat.reduceAdd, Nat.reduceMul, Nat.reduceSub, Nat.reduceMod, Nat.reduceDiv, Nat.reduceEqDiff, Int.reduceToNat, reduceIte, reduceCtorEq, Int.reduceLE, Int.reduceLT, Int.reduceEq, Int.reduceNeg, Int.reduceAdd, Int.reduceSub, Int.reduceMul, hs, hi]) (by omega) (by simp only [go_sem, Nat.reduceBEq, Nat.reduceLT, Nat.reduceLeDiff, Nat.reduceAdd, Nat.reduceMul, Nat.reduceSub, Nat.reduceMod, Nat.reduceDiv, Nat.reduceEqDiff, Int.reduceToNat, reduceIte, reduceCtorEq, Int.reduceLE, Int.reduceLT, Int.reduceEq, Int.reduceNeg, Int.reduceAdd, Int.reduceSub, Int.reduceMul, ht, hj]) (by omega) hR hG hB hx hx8 hy hy8).A ?_
  simp only [go_sem, Nat.reduceBEq, Nat.reduceLT, Nat.reduceLeDiff, Nat.reduceAdd, Nat.reduceMul, Nat.reduceSub, Nat.reduceMod, Nat.reduceDiv, Nat.reduceEqDiff, Int.reduceToNat, reduceIte, reduceCtorEq, Int.reduceLE, Int.reduceLT, Int.reduceEq, Int.reduceNeg, Int.reduceAdd, Int.reduceSub, Int.reduceMul, w64 (n := lvA S B y x + lvB S B y x) (by omega), w64 (n := lvA S B y x + lvB S B y x + lvC S B y x) (by omega)]
  rfl
theorem loadOf_G (G : Nat → SV) (B : Br) (hB : BrR B) (h0 : ∀ j, j < 5 → G j = brC B j) : CallQ Try.prog cx 55 [.agg 5 G] h n (.int .i64 (B.a + B.b + B.c)) :=
  CallQ.argsEq (fun ρ => by simp only [List.map_cons, List.map_nil]; rw [den_aggF h0 ρ]) ⟨trivial, trivial⟩ (fun v hv => by rw [List.mem_singleton.1 hv]; exact brC_lt _ _) (loadOf_Q cx h n B hB)
include hs hi hR hG hB hx hx8 hy hy8 in
theorem few_Q (j : Nat) (ht : hget h j = some ⟨1, cl [.int .i64 least], true, none⟩) (hj : j < n) : CallQ Try.prog cx 53 [.agg 5 (brC B), spot x y, .ptr i 0, .ptr j 0] h n (.bool (decide (lvSum S B y x < least))) := by
  have l0 := lvA_in hG hB hx hx8 hy hy8
  have l1 := lvB_in hG hB hx hx8 hy hy8
  have l2 := lvC_in hG hB hx hx8 hy hy8
  obtain ⟨⟨b1, b2, b3⟩, b4, b5, b6⟩ := id hB
  refine callQ_of_T (P := Try.prog) hti (nt := 20) (rs := [.tmp 6]) rfl rfl Try.call53 Try.func53 rfl _ (by simp only [go_sem, and_self]) (Nat.le_of_ble_eq_true rfl) _ (by first | exact trivial | (refine lt_flat rfl ?_; simp [SV.flat]; done) | simp only [go_sem]) fun hok => ?_
  simp only [go_sem, Nat.reduceBEq, Nat.reduceLT, Nat.reduceLeDiff, Nat.reduceAdd, Nat.reduceMul, Nat.reduceSub, Nat.reduceMod, Nat.reduceDiv, Nat.reduceEqDiff, Int.reduceToNat, reduceIte, reduceCtorEq, Int.reduceLE, Int.reduceLT, Int.reduceEq, Int.reduceNeg, Int.reduceAdd, Int.reduceSub, Int.reduceMul]
  refine (leave_Q _ _ _ i S B x y (by simp only [go_sem, Nat.reduceBEq, Nat.reduceLT, Nat.reduceLeDiff, Nat.reduceAdd, Nat.reduceMul, Nat.reduceSub, Nat.reduceMod, Nat.reduceDiv, Nat.reduceEqDiff, Int.reduceToNat, reduceIte, reduceCtorEq, Int.reduceLE, Int.reduceLT, Int.reduceEq, Int.reduceNeg, Int.reduceAdd, Int.reduceSub, Int.reduceMul, hs, hi]) (by omega) hR hG hB hx hx8 hy hy8).A ?_
  simp only [go_sem, Nat.reduceBEq, Nat.reduceLT, Nat.reduceLeDiff, Nat.reduceAdd, Nat.reduceMul, Nat.reduceSub, Nat.reduceMod, Nat.reduceDiv, Nat.reduceEqDiff, Int.reduceToNat, reduceIte, reduceCtorEq, Int.reduceLE, Int.reduceLT, Int.reduceEq, Int.reduceNeg, Int.reduceAdd, Int.reduceSub, Int.reduceMul]
  refine T_draw hti _ _ (by kernel_rfl) (by kernel_rfl) ?_
  simp only [go_sem, Nat.reduceBEq, Nat.reduceLT, Nat.reduceLeDiff, Nat.reduceAdd, Nat.reduceMul, Nat.reduceSub, Nat.reduceMod, Nat.reduceDiv, Nat.reduceEqDiff, Int.reduceToNat, reduceIte, reduceCtorEq, Int.reduceLE, Int.reduceLT, Int.reduceEq, Int.reduceNeg, Int.reduceAdd, Int.reduceSub, Int.reduceMul]
  refine (loadOf_G _ _ _ _ ⟨lvA S B y x, lvB S B y x, lvC S B y x, 0, 0⟩ (by constructor <;> simp only <;> omega) (fun j hj => ?_)).A ?_
  · rfl
  simp only [go_sem, Nat.reduceBEq, Nat.reduceLT, Nat.reduceLeDiff, Nat.reduceAdd, Nat.reduceMul, Nat.reduceSub, Nat.reduceMod, Nat.reduceDiv, Nat.reduceEqDiff, Int.reduceToNat, reduceIte, reduceCtorEq, Int.reduceLE, Int.reduceLT, Int.reduceEq, Int.reduceNeg, Int.reduceAdd, Int.reduceSub, Int.reduceMul, ht, hj]
  rfl
end
end Go.Proofs.Ytebpkdolmlloaaa.V

/- The law's lists of numbers: compared, marked, looked at again. -/
namespace Go.Proofs.Ytebpkdolmlloaaa.V
theorem IntsOut.ok {h : List (Nat × Seg)} {lo n : Nat} {V : SV} {L : List Int} (hA : IntsOut h lo n V L) : V.ok = True := by
  rcases hA with ⟨rfl, rfl⟩ | ⟨i, cap, s, rfl, _⟩ <;> rfl
theorem IntsOut.lt {h : List (Nat × Seg)} {lo n : Nat} {V : SV} {L : List Int} (hA : IntsOut h lo n V L) : V.lt n := by
  rcases hA with ⟨rfl, rfl⟩ | ⟨i, cap, s, rfl, h1, h2, _⟩
  · trivial
  · exact h2
theorem IntsOut.mono {h h' : List (Nat × Seg)} {lo n n' : Nat} {V : SV} {L : List Int} (hA : IntsOut h lo n V L) (hn : n ≤ n') (hx : ∀ i, lo ≤ i → i < n → ∀ t, hget h i = some t → hget h' i = some t) : IntsOut h' lo n' V L := by
  rcases hA with h1 | ⟨i, cap, s, rfl, h1, h2, h3, h4⟩
  · exact .inl h1
  · exact .inr ⟨i, cap, s, rfl, h1, by omega, hx i h1 h2 s h3, h4⟩
theorem IntsOut.ext {h h' : List (Nat × Seg)} {lo n n' : Nat} {V : SV} {L : List Int} (hA : IntsOut h lo n V L) (hn : n ≤ n') (hx : HExt n h h') : IntsOut h' lo n' V L := hA.mono hn fun i _ hi => hx i hi
/-- Numbers that were marked. -/
def IntsHeld (h : List (Nat × Seg)) (lo n : Nat) (V : SV) (len : Nat) : Prop :=
  (V = .nils ∧ len = 0) ∨ ∃ i cap s, V = .sl i 0 len cap ∧ lo ≤ i ∧ i < n ∧ hget h i = some s ∧ s.n = len ∧ ∀ k, k < len → s.c k = .int .i64 (k + 1)
theorem IntsHeld.ext {h h' : List (Nat × Seg)} {lo n n' : Nat} {V : SV} {len : Nat} (hA : IntsHeld h lo n V len) (hn : n ≤ n') (hx : HExt n h h') : IntsHeld h' lo n' V len := by
  rcases hA with h1 | ⟨i, cap, s, rfl, h1, h2, h3, h4⟩
  · exact .inl h1
  · exact .inr ⟨i, cap, s, rfl, h1, by omega, hx i h2 s h3, h4⟩
/-- Memory that is as it was but for one segment. -/
def HSame (j : Nat) (h h' : List (Nat × Seg)) : Prop := ∀ i, i ≠ j → hget h' i = hget h i
theorem HSame.ext {j m n : Nat} {h0 h h' : List (Nat × Seg)} (hs : HSame j h h') (hx : HExt m h0 h) (hj : m ≤ j) : HExt m h0 h' := fun i hi t ht => by
  rw [hs i (by omega)]; exact hx i hi t ht
theorem wr_at {N o k : Nat} {v : SV} {c : Nat → SV} (hk : k < N) : (if o = 0 ∧ 1 = N then cl [v] else upd c o v) k = upd c o v k := by
  split
  · rename_i e
    obtain ⟨rfl, rfl⟩ := e
    obtain rfl : k = 0 := by omega
    rfl
  · rfl
theorem wr_flat {N o : Nat} {v : SV} {c : Nat → SV} (hv : v.flat) (hc : ∀ k, k < N → (c k).flat) : ∀ k, k < N → ((if o = 0 ∧ 1 = N then cl [v] else upd c o v) k).flat := fun k hk => by
  rw [wr_at hk]; unfold upd; split
  · exact hv
  · exact hc k hk
section
variable (cx : Cx) (h : List (Nat × Seg)) (n : Nat)
theorem eqInt64S_Q (V V' : SV) (L : List Int) (lo lo' : Nat) (hA : IntsOut h lo n V L) (hA' : IntsOut h lo' n V' L) (hm9 : L.length ≤ 1000000000) :
    CallQ Try.prog cx 16 [V, V'] h n (.bool true) := by
  rcases hA with ⟨rfl, rfl⟩ | ⟨i, cap, s, rfl, h0, hi, hs, _, hn, hc⟩ <;> rcases hA' with ⟨rfl, hL⟩ | ⟨i', cap', s', rfl, h0', hi', hs', _, hn', hc'⟩
  · refine callQ_of_T (P := Try.prog) hti (nt := 26) (rs := [.tmp 4]) rfl rfl Try.call16 Try.func16 rfl _ (by simp only [go_sem, and_self]) (Nat.le_of_ble_eq_true rfl) _ (by first | exact trivial | (refine lt_flat rfl ?_; simp [SV.flat]; done) | simp only [go_sem]) fun hok => ?_
    simp only [go_sem, Nat.reduceBEq, Nat.reduceLT, Nat.reduceLeDiff, Nat.reduceAdd, Nat.reduceMul, Nat.reduceSub, Nat.reduceMod, Nat.reduceDiv, Nat.reduceEqDiff, Int.reduceToNat, reduceIte, reduceCtorEq, Int.reduceLE, Int.reduceLT, Int.reduceEq, Int.reduceNeg, Int.reduceAdd, Int.reduceSub, Int.reduceMul]
    refine T_unroll 0 ?_
    simp only [go_sem, Nat.reduceBEq, Nat.reduceLT, Nat.reduceLeDiff, Nat.reduceAdd, Nat.reduceMul, Nat.reduceSub, Nat.reduceMod, Nat.reduceDiv, Nat.reduceEqDiff, Int.reduceToNat, reduceIte, reduceCtorEq, Int.reduceLE, Int.reduceLT, Int.reduceEq, Int.reduceNeg, Int.reduceAdd, Int.reduceSub, Int.reduceMul]
  · refine callQ_of_T (P := Try.prog) hti (nt := 26) (rs := [.tmp 4]) rfl rfl Try.call16 Try.func16 rfl _ (by simp only [go_sem, and_self]) (Nat.le_of_ble_eq_true rfl) _ (by first | exact trivial | (refine lt_flat rfl ?_; simp [SV.flat]; done) | simp only [go_sem]) fun hok => ?_
    simp only [go_sem, Nat.reduceBEq, Nat.reduceLT, Nat.reduceLeDiff, Nat.reduceAdd, Nat.reduceMul, Nat.reduceSub, Nat.reduceMod, Nat.reduceDiv, Nat.reduceEqDiff, Int.reduceToNat, reduceIte, reduceCtorEq, Int.reduceLE, Int.reduceLT, Int.reduceEq, Int.reduceNeg, Int.reduceAdd, Int.reduceSub, Int.reduceMul]
    refine T_unroll 0 ?_
    simp only [go_sem, Nat.reduceBEq, Nat.reduceLT, Nat.reduceLeDiff, Nat.reduceAdd, Nat.reduceMul, Nat.reduceSub, Nat.reduceMod, Nat.reduceDiv, Nat.reduceEqDiff, Int.reduceToNat, reduceIte, reduceCtorEq, Int.reduceLE, Int.reduceLT, Int.reduceEq, Int.reduceNeg, Int.reduceAdd, Int.reduceSub, Int.reduceMul]
  · subst hL
    refine callQ_of_T (P := Try.prog) hti (nt := 26) (rs := [.tmp 4]) rfl rfl Try.call16 Try.func16 rfl _ (by simp only [go_sem, and_self]) (Nat.le_of_ble_eq_true rfl) _ (by first | exact trivial | (refine lt_flat rfl ?_; simp [SV.flat]; done) | simp only [go_sem]) fun hok => ?_
    simp only [go_sem, Nat.reduceBEq, Nat.reduceLT, Nat.reduceLeDiff, Nat.reduceAdd, Nat.reduceMul, Nat.reduceSub, Nat.reduceMod, Nat.reduceDiv, Nat.reduceEqDiff, Int.reduceToNat, reduceIte, reduceCtorEq, Int.reduceLE, Int.reduceLT, Int.reduceEq, Int.reduceNeg, Int.reduceAdd, Int.reduceSub, Int.reduceMul]
    refine T_unroll 0 ?_
    simp only [go_sem, Nat.reduceBEq, Nat.reduceLT, Nat.reduceLeDiff, Nat.reduceAdd, Nat.reduceMul, Nat.reduceSub, Nat.reduceMod, Nat.reduceDiv, Nat.reduceEqDiff, Int.reduceToNat, reduceIte, reduceCtorEq, Int.reduceLE, Int.reduceLT, Int.reduceEq, Int.reduceNeg, Int.reduceAdd, Int.reduceSub, Int.reduceMul]
  · refine callQ_of_T (P := Try.prog) hti (nt := 26) (rs := [.tmp 4]) rfl rfl Try.call16 Try.func16 rfl _ (by simp only [go_sem, and_self]) (Nat.le_of_ble_eq_true rfl) _ (by first | exact trivial | (refine lt_flat rfl ?_; simp [SV.flat]; done) | simp only [go_sem]) fun hok => ?_
    simp only [go_sem, Nat.reduceBEq, Nat.reduceLT, Nat.reduceLeDiff, Nat.reduceAdd, Nat.reduceMul, Nat.reduceSub, Nat.reduceMod, Nat.reduceDiv, Nat.reduceEqDiff, Int.reduceToNat, reduceIte, reduceCtorEq, Int.reduceLE, Int.reduceLT, Int.reduceEq, Int.reduceNeg, Int.reduceAdd, Int.reduceSub, Int.reduceMul]
    refine T_lp (ι := { q : Nat // q ≤ L.length }) (fun q => ([(0, .sl i 0 L.length cap), (1, .sl i' 0 L.length cap'), (5, .int .i64 q.1)], h, n)) (fun q => L.length - q.1) ⟨0, by omega⟩ ?_ ?_
    · refine Imp.id (by simp) ?_ (impH.base0 hok (by simp) HExt.rfl)
      simp only [go_sem, Nat.reduceBEq, Nat.reduceLT, Nat.reduceLeDiff, Nat.reduceAdd, Nat.reduceMul, Nat.reduceSub, Nat.reduceMod, Nat.reduceDiv, Nat.reduceEqDiff, Int.reduceToNat, reduceIte, reduceCtorEq, Int.reduceLE, Int.reduceLT, Int.reduceEq, Int.reduceNeg, Int.reduceAdd, Int.reduceSub, Int.reduceMul]
      exact ⟨hi, hi'⟩
    · rintro ⟨q, hq⟩
      simp only [go_sem, Nat.reduceBEq, Nat.reduceLT, Nat.reduceLeDiff, Nat.reduceAdd, Nat.reduceMul, Nat.reduceSub, Nat.reduceMod, Nat.reduceDiv, Nat.reduceEqDiff, Int.reduceToNat, reduceIte, reduceCtorEq, Int.reduceLE, Int.reduceLT, Int.reduceEq, Int.reduceNeg, Int.reduceAdd, Int.reduceSub, Int.reduceMul, decide_eq_true_eq, decide_eq_false_iff_not]
      refine ⟨fun h1 => ?_, fun h1 => ?_⟩
      · have r1 : (0 : Int) ≤ q ∧ (q : Int) < L.length := ⟨by omega, by omega⟩
        have b1 : q < s.n := by omega
        have b2 : q < s'.n := by omega
        have b3 : q ≤ s.n - 1 := by omega
        have b4 : q ≤ s'.n - 1 := by omega
        have b5 : 1 ≤ s.n := by omega
        have b6 : 1 ≤ s'.n := by omega
        have e1 : s.c q = .int .i64 (L.getD q 0) := hc q (by omega)
        have e2 : s'.c q = .int .i64 (L.getD q 0) := hc' q (by omega)
        refine T_draw hti _ _ (by kernel_rfl) (by kernel_rfl) ?_
        simp only [go_sem, Nat.reduceBEq, Nat.reduceLT, Nat.reduceLeDiff, Nat.reduceAdd, Nat.reduceMul, Nat.reduceSub, Nat.reduceMod, Nat.reduceDiv, Nat.reduceEqDiff, Int.reduceToNat, reduceIte, reduceCtorEq, Int.reduceLE, Int.reduceLT, Int.reduceEq, Int.reduceNeg, Int.reduceAdd, Int.reduceSub, Int.reduceMul, hs, hs', r1, b1, b2, b3, b4, b5, b6, e1, e2]
        refine ⟨by omega, by omega, ⟨q + 1, by omega⟩, by show L.length - (q + 1) < L.length - q; omega, ?_⟩
        refine Imp.id (by simp) ?_ (impH.base0 hok (by simp) HExt.rfl)
        simp only [go_sem, Nat.reduceBEq, Nat.reduceLT, Nat.reduceLeDiff, Nat.reduceAdd, Nat.reduceMul, Nat.reduceSub, Nat.reduceMod, Nat.reduceDiv, Nat.reduceEqDiff, Int.reduceToNat, reduceIte, reduceCtorEq, Int.reduceLE, Int.reduceLT, Int.reduceEq, Int.reduceNeg, Int.reduceAdd, Int.reduceSub, Int.reduceMul, w64 (n := (q : Int) + 1) (by omega), Int.natCast_add, Int.natCast_one]
        exact ⟨hi, hi'⟩
      · simp only [go_sem, Nat.reduceBEq, Nat.reduceLT, Nat.reduceLeDiff, Nat.reduceAdd, Nat.reduceMul, Nat.reduceSub, Nat.reduceMod, Nat.reduceDiv, Nat.reduceEqDiff, Int.reduceToNat, reduceIte, reduceCtorEq, Int.reduceLE, Int.reduceLT, Int.reduceEq, Int.reduceNeg, Int.reduceAdd, Int.reduceSub, Int.reduceMul]
theorem held_Q (V : SV) (len : Nat) (lo : Nat) (hA : IntsHeld h lo n V len) (hm9 : len ≤ 1000000000) :
    CallQ Try.prog cx 20 [V, .int .i64 1] h n (.int .i64 (len + 1)) := by
  rcases hA with ⟨rfl, rfl⟩ | ⟨i, cap, s, rfl, h0, hi, hs, hn, hc⟩
  · refine callQ_of_T (P := Try.prog) hti (nt := 21) (rs := [.tmp 4]) rfl rfl Try.call20 Try.func20 rfl _ (by simp only [go_sem, and_self]) (Nat.le_of_ble_eq_true rfl) _ (by first | exact trivial | (refine lt_flat rfl ?_; simp [SV.flat]; done) | simp only [go_sem]) fun hok => ?_
    simp only [go_sem, Nat.reduceBEq, Nat.reduceLT, Nat.reduceLeDiff, Nat.reduceAdd, Nat.reduceMul, Nat.reduceSub, Nat.reduceMod, Nat.reduceDiv, Nat.reduceEqDiff, Int.reduceToNat, reduceIte, reduceCtorEq, Int.reduceLE, Int.reduceLT, Int.reduceEq, Int.reduceNeg, Int.reduceAdd, Int.reduceSub, Int.reduceMul]
    refine T_unroll 0 ?_
    simp only [go_sem, Nat.reduceBEq, Nat.reduceLT, Nat.reduceLeDiff, Nat.reduceAdd, Nat.reduceMul, Nat.reduceSub, Nat.reduceMod, Nat.reduceDiv, Nat.reduceEqDiff, Int.reduceToNat, reduceIte, reduceCtorEq, Int.reduceLE, Int.reduceLT, Int.reduceEq, Int.reduceNeg, Int.reduceAdd, Int.reduceSub, Int.reduceMul]
  · refine callQ_of_T (P := Try.prog) hti (nt := 21) (rs := [.tmp 4]) rfl rfl Try.call20 Try.func20 rfl _ (by simp only [go_sem, and_self]) (Nat.le_of_ble_eq_true rfl) _ (by first | exact trivial | (refine lt_flat rfl ?_; simp [SV.flat]; done) | simp only [go_sem]) fun hok => ?_
    simp only [go_sem, Nat.reduceBEq, Nat.reduceLT, Nat.reduceLeDiff, Nat.reduceAdd, Nat.reduceMul, Nat.reduceSub, Nat.reduceMod, Nat.reduceDiv, Nat.reduceEqDiff, Int.reduceToNat, reduceIte, reduceCtorEq, Int.reduceLE, Int.reduceLT, Int.reduceEq, Int.reduceNeg, Int.reduceAdd, Int.reduceSub, Int.reduceMul]
    refine T_lp (ι := { q : Nat // q ≤ len }) (fun q => ([(0, .sl i 0 len cap), (1, .int .i64 (q.1 + 1)), (5, .int .i64 q.1)], h, n)) (fun q => len - q.1) ⟨0, by omega⟩ ?_ ?_
    · refine Imp.id (by simp) ?_ (impH.base0 hok (by simp) HExt.rfl)
      simp only [go_sem, Nat.reduceBEq, Nat.reduceLT, Nat.reduceLeDiff, Nat.reduceAdd, Nat.reduceMul, Nat.reduceSub, Nat.reduceMod, Nat.reduceDiv, Nat.reduceEqDiff, Int.reduceToNat, reduceIte, reduceCtorEq, Int.reduceLE, Int.reduceLT, Int.reduceEq, Int.reduceNeg, Int.reduceAdd, Int.reduceSub, Int.reduceMul]
      exact hi
    · rintro ⟨q, hq⟩
      simp only [go_sem, Nat.reduceBEq, Nat.reduceLT, Nat.reduceLeDiff, Nat.reduceAdd, Nat.reduceMul, Nat.reduceSub, Nat.reduceMod, Nat.reduceDiv, Nat.reduceEqDiff, Int.reduceToNat, reduceIte, reduceCtorEq, Int.reduceLE, Int.reduceLT, Int.reduceEq, Int.reduceNeg, Int.reduceAdd, Int.reduceSub, Int.reduceMul, decide_eq_true_eq, decide_eq_false_iff_not]
      refine ⟨fun h1 => ?_, fun h1 => ?_⟩
      · have r1 : (0 : Int) ≤ q ∧ (q : Int) < len := ⟨by omega, by omega⟩
        have b1 : q < s.n := by omega
        have b3 : q ≤ s.n - 1 := by omega
        have b5 : 1 ≤ s.n := by omega
        have e1 : s.c q = .int .i64 ((q : Int) + 1) := hc q (by omega)
        simp only [go_sem, Nat.reduceBEq, Nat.reduceLT, Nat.reduceLeDiff, Nat.reduceAdd, Nat.reduceMul, Nat.reduceSub, Nat.reduceMod, Nat.reduceDiv, Nat.reduceEqDiff, Int.reduceToNat, reduceIte, reduceCtorEq, Int.reduceLE, Int.reduceLT, Int.reduceEq, Int.reduceNeg, Int.reduceAdd, Int.reduceSub, Int.reduceMul, hs, hi, r1, b1, b3, b5, e1]
        refine ⟨by omega, ⟨q + 1, by omega⟩, by show len - (q + 1) < len - q; omega, ?_⟩
        refine Imp.id (by simp) ?_ (impH.base0 hok (by simp) HExt.rfl)
        simp only [go_sem, Nat.reduceBEq, Nat.reduceLT, Nat.reduceLeDiff, Nat.reduceAdd, Nat.reduceMul, Nat.reduceSub, Nat.reduceMod, Nat.reduceDiv, Nat.reduceEqDiff, Int.reduceToNat, reduceIte, reduceCtorEq, Int.reduceLE, Int.reduceLT, Int.reduceEq, Int.reduceNeg, Int.reduceAdd, Int.reduceSub, Int.reduceMul, w64 (n := (q : Int) + 1) (by omega), w64 (n := (q : Int) + 1 + 1) (by omega), Int.natCast_add, Int.natCast_one]
        exact hi
      · have hq' : q = len := by omega
        subst hq'
        simp only [go_sem, Nat.reduceBEq, Nat.reduceLT, Nat.reduceLeDiff, Nat.reduceAdd, Nat.reduceMul, Nat.reduceSub, Nat.reduceMod, Nat.reduceDiv, Nat.reduceEqDiff, Int.reduceToNat, reduceIte, reduceCtorEq, Int.reduceLE, Int.reduceLT, Int.reduceEq, Int.reduceNeg, Int.reduceAdd, Int.reduceSub, Int.reduceMul]
theorem markInt64S_E (V : SV) (L : List Int) (lo : Nat) (hA : IntsOut h lo n V L) (hm9 : L.length ≤ 1000000000) (K : HK)
    (hK : ∀ h', HOk n h' → (∀ m h0, m ≤ lo → HExt m h0 h → HExt m h0 h') → IntsHeld h' lo n V L.length → K (.int .i64 (L.length + 1)) h' n) :
    CallE Try.prog cx 19 [V, .int .i64 1] h n K := by
  refine CallE.hokE ?_
  rcases hA with ⟨rfl, rfl⟩ | ⟨i, cap, s, rfl, h0, hi, hs, hrw, hn, hc⟩
  · refine callE_of_T (P := Try.prog) hti (nt := 19) (rs := [.tmp 4]) rfl rfl Try.call19 Try.func19 rfl _ (by simp only [go_sem, and_self]) (Nat.le_of_ble_eq_true rfl) _ fun hok => ?_
    simp only [go_sem, Nat.reduceBEq, Nat.reduceLT, Nat.reduceLeDiff, Nat.reduceAdd, Nat.reduceMul, Nat.reduceSub, Nat.reduceMod, Nat.reduceDiv, Nat.reduceEqDiff, Int.reduceToNat, reduceIte, reduceCtorEq, Int.reduceLE, Int.reduceLT, Int.reduceEq, Int.reduceNeg, Int.reduceAdd, Int.reduceSub, Int.reduceMul]
    refine T_unroll 0 ?_
    simp only [go_sem, Nat.reduceBEq, Nat.reduceLT, Nat.reduceLeDiff, Nat.reduceAdd, Nat.reduceMul, Nat.reduceSub, Nat.reduceMod, Nat.reduceDiv, Nat.reduceEqDiff, Int.reduceToNat, reduceIte, reduceCtorEq, Int.reduceLE, Int.reduceLT, Int.reduceEq, Int.reduceNeg, Int.reduceAdd, Int.reduceSub, Int.reduceMul]
    exact fun hok' => hK h hok' (fun m h0 _ hx => hx) (.inl ⟨rfl, rfl⟩)
  · refine callE_of_T (P := Try.prog) hti (nt := 19) (rs := [.tmp 4]) rfl rfl Try.call19 Try.func19 rfl _ (by simp only [go_sem, and_self]) (Nat.le_of_ble_eq_true rfl) _ fun hok => ?_
    simp only [go_sem, Nat.reduceBEq, Nat.reduceLT, Nat.reduceLeDiff, Nat.reduceAdd, Nat.reduceMul, Nat.reduceSub, Nat.reduceMod, Nat.reduceDiv, Nat.reduceEqDiff, Int.reduceToNat, reduceIte, reduceCtorEq, Int.reduceLE, Int.reduceLT, Int.reduceEq, Int.reduceNeg, Int.reduceAdd, Int.reduceSub, Int.reduceMul]
    refine T_lp (ι := { w : Nat × (Nat → SV) // w.1 ≤ L.length ∧ (∀ k, k < s.n → (w.2 k).flat) ∧ ∀ k, k < w.1 → w.2 k = .int .i64 (k + 1) })
      (fun w => ([(0, .sl i 0 L.length cap), (1, .int .i64 (w.1.1 + 1)), (5, .int .i64 w.1.1)], hset h i ⟨s.n, w.1.2, true, s.own⟩, n)) (fun w => L.length - w.1.1) ⟨(0, s.c), by simp, fun k hk => by show (s.c k).flat; rw [hc k (by omega)]; trivial, fun k hk => absurd hk (Nat.not_lt_zero k)⟩ ?_ ?_
    · refine Imp.id (by simp) ?_ ?_
      · simp only [go_sem, Nat.reduceBEq, Nat.reduceLT, Nat.reduceLeDiff, Nat.reduceAdd, Nat.reduceMul, Nat.reduceSub, Nat.reduceMod, Nat.reduceDiv, Nat.reduceEqDiff, Int.reduceToNat, reduceIte, reduceCtorEq, Int.reduceLE, Int.reduceLT, Int.reduceEq, Int.reduceNeg, Int.reduceAdd, Int.reduceSub, Int.reduceMul]
        exact hi
      · have e : hset h i ⟨s.n, s.c, true, s.own⟩ = hset h i s := by rw [← hrw]
        rw [e]
        exact impH.set0 hok (Nat.le_refl _) hs (fun j hj hji t ht => ht) hs (SegLe.flat (Nat.le_refl _) id (.inr rfl) fun k hk => ⟨rfl, by rw [hc k (by omega)]; trivial⟩)
    · rintro ⟨⟨q, c⟩, hq, hfl, hmk⟩
      simp only at hq hfl hmk
      simp only [go_sem, Nat.reduceBEq, Nat.reduceLT, Nat.reduceLeDiff, Nat.reduceAdd, Nat.reduceMul, Nat.reduceSub, Nat.reduceMod, Nat.reduceDiv, Nat.reduceEqDiff, Int.reduceToNat, reduceIte, reduceCtorEq, Int.reduceLE, Int.reduceLT, Int.reduceEq, Int.reduceNeg, Int.reduceAdd, Int.reduceSub, Int.reduceMul, decide_eq_true_eq, decide_eq_false_iff_not]
      refine ⟨fun h1 => ?_, fun h1 => ?_⟩
      · have r1 : (0 : Int) ≤ q ∧ (q : Int) < L.length := ⟨by omega, by omega⟩
        have b1 : q < s.n := by omega
        have b3 : q ≤ s.n - 1 := by omega
        have b4 : q + 1 ≤ s.n := by omega
        have b5 : 1 ≤ s.n := by omega
        have hg : hget (hset h i ⟨s.n, c, true, s.own⟩) i = some ⟨s.n, c, true, s.own⟩ := hget_hset_self hs _
        simp only [go_sem, Nat.reduceBEq, Nat.reduceLT, Nat.reduceLeDiff, Nat.reduceAdd, Nat.reduceMul, Nat.reduceSub, Nat.reduceMod, Nat.reduceDiv, Nat.reduceEqDiff, Int.reduceToNat, reduceIte, reduceCtorEq, Int.reduceLE, Int.reduceLT, Int.reduceEq, Int.reduceNeg, Int.reduceAdd, Int.reduceSub, Int.reduceMul, hg, hi, r1, b1, b3, b4, b5]
        have hfl' := wr_flat (N := s.n) (o := q) (v := .int .i64 ((q : Int) + 1)) trivial hfl
        refine ⟨⟨(q + 1, if q = 0 ∧ 1 = s.n then cl [.int .i64 ((q : Int) + 1)] else upd c q (.int .i64 ((q : Int) + 1))), by show q + 1 ≤ L.length; omega, hfl', fun k hk => ?_⟩, by show L.length - (q + 1) < L.length - q; omega, ?_⟩
        · simp only at hk
          simp only
          rw [wr_at (by omega)]
          unfold upd
          split
          · rename_i e; rw [e]
          · exact hmk k (by omega)
        · refine Imp.id (by simp) ?_ (impH.base0 (hok_set hok hfl') (by simp) HExt.rfl)
          simp only [go_sem, Nat.reduceBEq, Nat.reduceLT, Nat.reduceLeDiff, Nat.reduceAdd, Nat.reduceMul, Nat.reduceSub, Nat.reduceMod, Nat.reduceDiv, Nat.reduceEqDiff, Int.reduceToNat, reduceIte, reduceCtorEq, Int.reduceLE, Int.reduceLT, Int.reduceEq, Int.reduceNeg, Int.reduceAdd, Int.reduceSub, Int.reduceMul, w64 (n := (q : Int) + 1) (by omega), w64 (n := (q : Int) + 1 + 1) (by omega), Int.natCast_add, Int.natCast_one]
          exact hi
      · have hq' : q = L.length := by omega
        subst hq'
        refine fun hok' => hK _ hok' (fun m h0 hm hx j hj t ht => ?_) (.inr ⟨i, cap, _, rfl, h0, hi, hget_hset_self hs _, hn, hmk⟩)
        rw [hget_hset, if_neg (by omega)]; exact hx j hj t ht
theorem markSpotS_E (i cap : Nat) (L : List (Int × Int)) (s : Seg) (hs : hget h i = some s) (hi : i < n) (hrw : s.rw = true) (hL : SpsAt s L) (hfl0 : ∀ k, k < s.n → (s.c k).flat) (hm9 : L.length ≤ 1000000000) (K : HK)
    (hK : ∀ h', HOk n h' → HSame i h h' → K (.int .i64 (2 * L.length + 1)) h' n) :
    CallE Try.prog cx 18 [.sl i 0 L.length cap, .int .i64 1] h n K := by
  refine CallE.hokE ?_
  have hn := hL.1
  refine callE_of_T (P := Try.prog) hti (nt := 29) (rs := [.tmp 4]) rfl rfl Try.call18 Try.func18 rfl _ (by simp only [go_sem, and_self]) (Nat.le_of_ble_eq_true rfl) _ fun hok => ?_
  simp only [go_sem, Nat.reduceBEq, Nat.reduceLT, Nat.reduceLeDiff, Nat.reduceAdd, Nat.reduceMul, Nat.reduceSub, Nat.reduceMod, Nat.reduceDiv, Nat.reduceEqDiff, Int.reduceToNat, reduceIte, reduceCtorEq, Int.reduceLE, Int.reduceLT, Int.reduceEq, Int.reduceNeg, Int.reduceAdd, Int.reduceSub, Int.reduceMul]
  refine T_lp (ι := { w : Nat × (Nat → SV) // w.1 ≤ L.length ∧ (∀ k, k < s.n → (w.2 k).flat) })
    (fun w => ([(0, .sl i 0 L.length cap), (1, .int .i64 (2 * w.1.1 + 1)), (5, .int .i64 w.1.1)], hset h i ⟨s.n, w.1.2, true, s.own⟩, n)) (fun w => L.length - w.1.1) ⟨(0, s.c), by simp, hfl0⟩ ?_ ?_
  · refine Imp.id (by simp) ?_ ?_
    · simp only [go_sem, Nat.reduceBEq, Nat.reduceLT, Nat.reduceLeDiff, Nat.reduceAdd, Nat.reduceMul, Nat.reduceSub, Nat.reduceMod, Nat.reduceDiv, Nat.reduceEqDiff, Int.reduceToNat, reduceIte, reduceCtorEq, Int.reduceLE, Int.reduceLT, Int.reduceEq, Int.reduceNeg, Int.reduceAdd, Int.reduceSub, Int.reduceMul]
      exact hi
    · have e : hset h i ⟨s.n, s.c, true, s.own⟩ = hset h i s := by rw [← hrw]
      rw [e]
      exact impH.set0 hok (Nat.le_refl _) hs (fun j hj hji t ht => ht) hs (SegLe.flat (Nat.le_refl _) id (.inr rfl) fun k hk => ⟨rfl, hfl0 k hk⟩)
  · rintro ⟨⟨q, c⟩, hq, hfl⟩
    simp only at hq hfl
    simp only [go_sem, Nat.reduceBEq, Nat.reduceLT, Nat.reduceLeDiff, Nat.reduceAdd, Nat.reduceMul, Nat.reduceSub, Nat.reduceMod, Nat.reduceDiv, Nat.reduceEqDiff, Int.reduceToNat, reduceIte, reduceCtorEq, Int.reduceLE, Int.reduceLT, Int.reduceEq, Int.reduceNeg, Int.reduceAdd, Int.reduceSub, Int.reduceMul, decide_eq_true_eq, decide_eq_false_iff_not]
    refine ⟨fun h1 => ?_, fun h1 => ?_⟩
    · have r1 : (0 : Int) ≤ q ∧ (q : Int) < L.length := ⟨by omega, by omega⟩
      have b1 : q * 2 ≤ s.n - 2 := by omega
      have b2 : q * 2 ≤ s.n - 1 := by omega
      have b3 : q * 2 + 1 ≤ s.n - 1 := by omega
      have b4 : q * 2 + 2 ≤ s.n := by omega
      have b5 : 2 ≤ s.n := by omega
      have b6 : 1 ≤ s.n := by omega
      have hg : ∀ c, hget (hset h i ⟨s.n, c, true, s.own⟩) i = some ⟨s.n, c, true, s.own⟩ := fun c => hget_hset_self hs _
      simp only [go_sem, Nat.reduceBEq, Nat.reduceLT, Nat.reduceLeDiff, Nat.reduceAdd, Nat.reduceMul, Nat.reduceSub, Nat.reduceMod, Nat.reduceDiv, Nat.reduceEqDiff, Int.reduceToNat, reduceIte, reduceCtorEq, Int.reduceLE, Int.reduceLT, Int.reduceEq, Int.reduceNeg, Int.reduceAdd, Int.reduceSub, Int.reduceMul, hg, hi, r1, b1, b2, b3, b4, b5, b6, w64 (n := 2 * (q : Int) + 1 + 1) (by omega)]
      have hf1 := wr_flat (N := s.n) (o := q * 2) (v := .int .i8 (IntKind.i8.wrap (2 * (q : Int) + 1))) trivial hfl
      have hf2 : ∀ k, k < s.n → ((upd (if q * 2 = 0 ∧ 1 = s.n then cl [.int .i8 (IntKind.i8.wrap (2 * (q : Int) + 1))] else upd c (q * 2) (.int .i8 (IntKind.i8.wrap (2 * (q : Int) + 1)))) (q * 2 + 1) (.int .i8 (IntKind.i8.wrap (2 * (q : Int) + 1 + 1)))) k).flat := fun k hk => by
        unfold upd; split
        · trivial
        · exact hf1 k hk
      refine ⟨by omega, ⟨(q + 1, _), by show q + 1 ≤ L.length; omega, hf2⟩, by show L.length - (q + 1) < L.length - q; omega, ?_⟩
      refine Imp.id (by simp) ?_ (impH.base0 (hok_set hok hf2) (by simp) HExt.rfl)
      simp only [go_sem, Nat.reduceBEq, Nat.reduceLT, Nat.reduceLeDiff, Nat.reduceAdd, Nat.reduceMul, Nat.reduceSub, Nat.reduceMod, Nat.reduceDiv, Nat.reduceEqDiff, Int.reduceToNat, reduceIte, reduceCtorEq, Int.reduceLE, Int.reduceLT, Int.reduceEq, Int.reduceNeg, Int.reduceAdd, Int.reduceSub, Int.reduceMul, w64 (n := (q : Int) + 1) (by omega), w64 (n := 2 * (q : Int) + 1 + 1 + 1) (by omega), Int.natCast_add, Int.natCast_one]
      exact ⟨hi, by rw [show (2 * (q : Int) + 1 + 1 + 1) = 2 * ((q : Int) + 1) + 1 by omega]⟩
    · have hq' : q = L.length := by omega
      subst hq'
      exact fun hok' => hK _ hok' (fun j hj => by rw [hget_hset, if_neg (fun e => hj e.symm)])
end
end Go.Proofs.Ytebpkdolmlloaaa.V

/- DipsFor by the program's own code: the walk. -/
namespace Go.Proofs.Ytebpkdolmlloaaa.V

section
variable (cx : Cx) (h : List (Nat × Seg)) (n : Nat)
variable (i cap : Nat) (L : List (Int × Int)) (s : Seg) (hs : hget h i = some s) (hi : i < n) (hL : SpsAt s L) (hm9 : L.length ≤ 1000000000) (S : Sh) (B : Br) (hR : ShR S) (hB : BrR B) (least : Int)
theorem one_flat {v : Int} {k : Nat} (hk : k < 1) : (cl [SV.int .i64 v] k).flat := by obtain rfl : k = 0 := (by omega); trivial
theorem intsC_push (z : Nat) (out : List Int) (v : Int) {k : Nat} (hk : k < (out ++ [v]).length) : both out.length (intsC out) (news (upd (zrow (ti 2)) 0 (.int .i64 v)) 0) k = intsC (out ++ [v]) k := by
  rw [List.length_append, List.length_singleton] at hk
  unfold intsC
  by_cases h : k < out.length
  · simp only [both, h, if_true]
    rw [List.getD_eq_getElem?_getD, List.getD_eq_getElem?_getD, List.getElem?_append_left h]
  · obtain rfl : k = out.length := by omega
    simp only [both, Nat.lt_irrefl, if_false, Nat.sub_self, news, upd, if_true]
    simp
theorem dipN_succ {S : Sh} {B0 : Br} {least : Int} {L : List (Int × Int)} {q : Nat} {p : DSt} (h : dipN S B0 least L q = some p) : dipN S B0 least L (q + 1) = dipStep B0 least p q (L.getD q (0, 0)) := by
  simp only [dipN, h, Option.bind_some]
include hs hi hL hm9 hR hB in
theorem dips_E (K : HK) (hK : ∀ V h' n', n ≤ n' → HExt n h h' → HOk n' h' → IntsOut h' n n' V (dipR S B L least).1 → K (.tup 2 (cl [V, .int .i64 (dipR S B L least).2])) h' n') :
    CallE Try.prog cx 15 [.agg 266 (shC S), .agg 5 (brC B), .sl i 0 L.length cap, .int .i64 least] h n K := by
  have hn := hL.1
  refine CallE.hokE ?_
  refine callE_of_T (P := Try.prog) hti (nt := 61) (rs := [.tmp 8, .tmp 9]) rfl rfl Try.call15 Try.func15 rfl _ (by simp only [go_sem, and_self]) (Nat.le_of_ble_eq_true rfl) _ fun hok => ?_
  simp only [go_sem, Nat.reduceBEq, Nat.reduceLT, Nat.reduceLeDiff, Nat.reduceAdd, Nat.reduceMul, Nat.reduceSub, Nat.reduceMod, Nat.reduceDiv, Nat.reduceEqDiff, Int.reduceToNat, reduceIte, reduceCtorEq, Int.reduceLE, Int.reduceLT, Int.reduceEq, Int.reduceNeg, Int.reduceAdd, Int.reduceSub, Int.reduceMul]
  refine T_draw hti _ _ (by kernel_rfl) (by kernel_rfl) ?_
  simp only [go_sem, Nat.reduceBEq, Nat.reduceLT, Nat.reduceLeDiff, Nat.reduceAdd, Nat.reduceMul, Nat.reduceSub, Nat.reduceMod, Nat.reduceDiv, Nat.reduceEqDiff, Int.reduceToNat, reduceIte, reduceCtorEq, Int.reduceLE, Int.reduceLT, Int.reduceEq, Int.reduceNeg, Int.reduceAdd, Int.reduceSub, Int.reduceMul]
  refine (validPath_Q _ _ _ i cap L s (by simp only [go_sem, Nat.reduceBEq, Nat.reduceLT, Nat.reduceLeDiff, Nat.reduceAdd, Nat.reduceMul, Nat.reduceSub, Nat.reduceMod, Nat.reduceDiv, Nat.reduceEqDiff, Int.reduceToNat, reduceIte, reduceCtorEq, Int.reduceLE, Int.reduceLT, Int.reduceEq, Int.reduceNeg, Int.reduceAdd, Int.reduceSub, Int.reduceMul, hs, hi]) (by omega) hL hm9 S hR).A ?_
  have bad : ∀ (c : Int) (h' : List (Nat × Seg)) (n' : Nat), dipR S B L least = ([], c) → n ≤ n' → HExt n h h' → HOk n' h' → K (.tup 2 (cl [.nils, .int .i64 c])) h' n' := fun c h' n' e hn' hx hok' => by
    have := hK .nils h' n' hn' hx hok' (by rw [e]; exact .inl ⟨rfl, rfl⟩)
    rw [e] at this; exact this
  by_cases hP : Valid S ∧ PathP S L
  rotate_left
  · simp only [go_sem, Nat.reduceBEq, Nat.reduceLT, Nat.reduceLeDiff, Nat.reduceAdd, Nat.reduceMul, Nat.reduceSub, Nat.reduceMod, Nat.reduceDiv, Nat.reduceEqDiff, Int.reduceToNat, reduceIte, reduceCtorEq, Int.reduceLE, Int.reduceLT, Int.reduceEq, Int.reduceNeg, Int.reduceAdd, Int.reduceSub, Int.reduceMul, boolOf_f hP]
    refine (brushCode_Q _ _ _ S B _ hR hB).A ?_
    by_cases hv : Valid S ∧ BrV B
    · simp only [go_sem, Nat.reduceBEq, Nat.reduceLT, Nat.reduceLeDiff, Nat.reduceAdd, Nat.reduceMul, Nat.reduceSub, Nat.reduceMod, Nat.reduceDiv, Nat.reduceEqDiff, Int.reduceToNat, reduceIte, reduceCtorEq, Int.reduceLE, Int.reduceLT, Int.reduceEq, Int.reduceNeg, Int.reduceAdd, Int.reduceSub, Int.reduceMul, bCode_ok hv]
      exact fun hok' => bad 2 _ _ (dipR_range hv fun h => hP ⟨hv.1, h.1⟩) (by omega) (by simp only [go_sem, Nat.reduceBEq, Nat.reduceLT, Nat.reduceLeDiff, Nat.reduceAdd, Nat.reduceMul, Nat.reduceSub, Nat.reduceMod, Nat.reduceDiv, Nat.reduceEqDiff, Int.reduceToNat, reduceIte, reduceCtorEq, Int.reduceLE, Int.reduceLT, Int.reduceEq, Int.reduceNeg, Int.reduceAdd, Int.reduceSub, Int.reduceMul, HExt_cons]) hok'
    · simp only [go_sem, Nat.reduceBEq, Nat.reduceLT, Nat.reduceLeDiff, Nat.reduceAdd, Nat.reduceMul, Nat.reduceSub, Nat.reduceMod, Nat.reduceDiv, Nat.reduceEqDiff, Int.reduceToNat, reduceIte, reduceCtorEq, Int.reduceLE, Int.reduceLT, Int.reduceEq, Int.reduceNeg, Int.reduceAdd, Int.reduceSub, Int.reduceMul, bCode_bad hv]
      exact fun hok' => bad 1 _ _ (dipR_bad hv) (by omega) (by simp only [go_sem, Nat.reduceBEq, Nat.reduceLT, Nat.reduceLeDiff, Nat.reduceAdd, Nat.reduceMul, Nat.reduceSub, Nat.reduceMod, Nat.reduceDiv, Nat.reduceEqDiff, Int.reduceToNat, reduceIte, reduceCtorEq, Int.reduceLE, Int.reduceLT, Int.reduceEq, Int.reduceNeg, Int.reduceAdd, Int.reduceSub, Int.reduceMul, HExt_cons]) hok'
  simp only [go_sem, Nat.reduceBEq, Nat.reduceLT, Nat.reduceLeDiff, Nat.reduceAdd, Nat.reduceMul, Nat.reduceSub, Nat.reduceMod, Nat.reduceDiv, Nat.reduceEqDiff, Int.reduceToNat, reduceIte, reduceCtorEq, Int.reduceLE, Int.reduceLT, Int.reduceEq, Int.reduceNeg, Int.reduceAdd, Int.reduceSub, Int.reduceMul, boolOf_t hP]
  refine (isDarkness_Q _ _ _ _).A ?_
  simp only [go_sem, Nat.reduceBEq, Nat.reduceLT, Nat.reduceLeDiff, Nat.reduceAdd, Nat.reduceMul, Nat.reduceSub, Nat.reduceMod, Nat.reduceDiv, Nat.reduceEqDiff, Int.reduceToNat, reduceIte, reduceCtorEq, Int.reduceLE, Int.reduceLT, Int.reduceEq, Int.reduceNeg, Int.reduceAdd, Int.reduceSub, Int.reduceMul]
  refine (brushCode_Q _ _ _ S B _ hR hB).A ?_
  by_cases hv : Valid S ∧ BrV B
  rotate_left
  · simp only [go_sem, Nat.reduceBEq, Nat.reduceLT, Nat.reduceLeDiff, Nat.reduceAdd, Nat.reduceMul, Nat.reduceSub, Nat.reduceMod, Nat.reduceDiv, Nat.reduceEqDiff, Int.reduceToNat, reduceIte, reduceCtorEq, Int.reduceLE, Int.reduceLT, Int.reduceEq, Int.reduceNeg, Int.reduceAdd, Int.reduceSub, Int.reduceMul, bCode_bad hv]
    exact fun hok' => bad 1 _ _ (dipR_bad hv) (by omega) (by simp only [go_sem, Nat.reduceBEq, Nat.reduceLT, Nat.reduceLeDiff, Nat.reduceAdd, Nat.reduceMul, Nat.reduceSub, Nat.reduceMod, Nat.reduceDiv, Nat.reduceEqDiff, Int.reduceToNat, reduceIte, reduceCtorEq, Int.reduceLE, Int.reduceLT, Int.reduceEq, Int.reduceNeg, Int.reduceAdd, Int.reduceSub, Int.reduceMul, HExt_cons]) hok'
  by_cases hd : 1 ≤ least ∧ least ≤ 3000
  rotate_left
  · simp only [go_sem, Nat.reduceBEq, Nat.reduceLT, Nat.reduceLeDiff, Nat.reduceAdd, Nat.reduceMul, Nat.reduceSub, Nat.reduceMod, Nat.reduceDiv, Nat.reduceEqDiff, Int.reduceToNat, reduceIte, reduceCtorEq, Int.reduceLE, Int.reduceLT, Int.reduceEq, Int.reduceNeg, Int.reduceAdd, Int.reduceSub, Int.reduceMul, bCode_ok hv, hd]
    exact fun hok' => bad 2 _ _ (dipR_range hv fun h => hd h.2) (by omega) (by simp only [go_sem, Nat.reduceBEq, Nat.reduceLT, Nat.reduceLeDiff, Nat.reduceAdd, Nat.reduceMul, Nat.reduceSub, Nat.reduceMod, Nat.reduceDiv, Nat.reduceEqDiff, Int.reduceToNat, reduceIte, reduceCtorEq, Int.reduceLE, Int.reduceLT, Int.reduceEq, Int.reduceNeg, Int.reduceAdd, Int.reduceSub, Int.reduceMul, HExt_cons]) hok'
  simp only [go_sem, Nat.reduceBEq, Nat.reduceLT, Nat.reduceLeDiff, Nat.reduceAdd, Nat.reduceMul, Nat.reduceSub, Nat.reduceMod, Nat.reduceDiv, Nat.reduceEqDiff, Int.reduceToNat, reduceIte, reduceCtorEq, Int.reduceLE, Int.reduceLT, Int.reduceEq, Int.reduceNeg, Int.reduceAdd, Int.reduceSub, Int.reduceMul, bCode_ok hv, hd]
  have hsm : Small S := hv.1.1
  have hO := hv.1.ok hv.2 hR
  have hI : InP S L := hP.2.2.2
  have h80 : L.length ≤ 80 := hP.2.2.1.2
  have ok3 : HOk (n + 3) ((n + 2, ⟨1, cl [.int .i64 least], true, none⟩) :: (n + 1, brS B) :: (n, shS S) :: h) :=
    hok_cons (hok_cons (hok_cons (hok_up hok (by omega)) (by omega) fun k hk => shC_flat _ _) (by omega) fun k hk => brC_flat _ hk) (by omega) fun k hk => one_flat hk
  refine T_drawH hti 5 [4] (.b 0 1 (.b 2 0 (.b 2 2 (.b 0 3 (.b 4 4 (.f) .o) .o) .o) (.b 2 2 (.b 2 0 (.b 0 3 (.b 4 4 (.f) .o) .o) .o) .o)) .o)  [(2, .sl i 0 L.length cap), (4, .ptr n 0), (5, .ptr (n + 1) 0), (7, .ptr (n + 2) 0), (11, .sl (n + 4) 0 0 0), (12, .ptr (n + 3) 0)]
    ((n + 4, ⟨0, intsC [], true, some (2, 0)⟩) :: (n + 3, brS B) :: (n + 2, ⟨1, cl [.int .i64 least], true, none⟩) :: (n + 1, brS B) :: (n, shS S) :: h) (n + 5) _ _ (by kernel_rfl) (by kernel_rfl) ?_ ?_
  · simp only [go_sem, Nat.reduceBEq, Nat.reduceLT, Nat.reduceLeDiff, Nat.reduceAdd, Nat.reduceMul, Nat.reduceSub, Nat.reduceMod, Nat.reduceDiv, Nat.reduceEqDiff, Int.reduceToNat, reduceIte, reduceCtorEq, Int.reduceLE, Int.reduceLT, Int.reduceEq, Int.reduceNeg, Int.reduceAdd, Int.reduceSub, Int.reduceMul]
    refine T_lp (ι := { w : Nat × DSt × Nat // w.1 ≤ L.length ∧ dipN S B least L w.1 = some w.2.1 ∧ w.2.1.2.2.length ≤ w.2.2 ∧ w.2.2 ≤ maxLen })
      (fun w => ([(4, .ptr n 0), (5, .ptr (n + 1) 0), (11, .sl (n + 4) 0 w.1.2.1.2.2.length w.1.2.2), (12, .ptr (n + 3) 0), (13, .fn 53 0 (cl []) 2 (cl [.ptr n 0, .ptr (n + 2) 0])), (32, .sl i 0 L.length cap), (33, .int .i64 L.length), (34, .int .i64 w.1.1)],
        (n + 4, ⟨w.1.2.1.2.2.length, intsC w.1.2.1.2.2, true, some (2, w.1.2.2)⟩) :: (n + 3, brS w.1.2.1.2.1) :: (n + 2, ⟨1, cl [.int .i64 least], true, none⟩) :: (n + 1, brS B) :: (n, shS w.1.2.1.1) :: h, n + 5)) (fun w => L.length - w.1.1) ⟨(0, (S, B, []), 0), by simp, rfl, by simp, by simp [Go.maxLen]⟩ ?_ ?_
    · refine Imp.id (by simp) ?_ ?_
      · simp only [go_sem, Nat.reduceBEq, Nat.reduceLT, Nat.reduceLeDiff, Nat.reduceAdd, Nat.reduceMul, Nat.reduceSub, Nat.reduceMod, Nat.reduceDiv, Nat.reduceEqDiff, Int.reduceToNat, reduceIte, reduceCtorEq, Int.reduceLE, Int.reduceLT, Int.reduceEq, Int.reduceNeg, Int.reduceAdd, Int.reduceSub, Int.reduceMul, hi]
        (try omega)
      · (repeat (refine impH.cons0 (by first | (simp only [go_sem, Nat.reduceBEq, Nat.reduceLT, Nat.reduceLeDiff, Nat.reduceAdd, Nat.reduceMul, Nat.reduceSub, Nat.reduceMod, Nat.reduceDiv, Nat.reduceEqDiff, Int.reduceToNat, reduceIte, reduceCtorEq, Int.reduceLE, Int.reduceLT, Int.reduceEq, Int.reduceNeg, Int.reduceAdd, Int.reduceSub, Int.reduceMul]; done) | (simp only [go_sem, Nat.reduceBEq, Nat.reduceLT, Nat.reduceLeDiff, Nat.reduceAdd, Nat.reduceMul, Nat.reduceSub, Nat.reduceMod, Nat.reduceDiv, Nat.reduceEqDiff, Int.reduceToNat, reduceIte, reduceCtorEq, Int.reduceLE, Int.reduceLT, Int.reduceEq, Int.reduceNeg, Int.reduceAdd, Int.reduceSub, Int.reduceMul]; rfl)) (by simp) (SegLe.flat (Nat.le_refl _) id (.inr rfl) fun z hz => ⟨rfl, by first | exact shC_flat _ _ | exact brC_flat _ hz | exact cl_flat (l := [_, _, _, _, _]) (by simp [SV.flat]) hz | exact one_flat hz | trivial⟩) ?_)); exact impH.base0 hok (by simp) (by simp only [go_sem, Nat.reduceBEq, Nat.reduceLT, Nat.reduceLeDiff, Nat.reduceAdd, Nat.reduceMul, Nat.reduceSub, Nat.reduceMod, Nat.reduceDiv, Nat.reduceEqDiff, Int.reduceToNat, reduceIte, reduceCtorEq, Int.reduceLE, Int.reduceLT, Int.reduceEq, Int.reduceNeg, Int.reduceAdd, Int.reduceSub, Int.reduceMul, HExt_cons])
    · rintro ⟨⟨q, p, capo⟩, hq, he, hcap, hmx⟩
      have hD := dipN_ok hI hsm hO q p hq he
      obtain ⟨Sq, Bq, out⟩ := p
      have hR' := hD.ok.R; have hG' := hD.ok.G; have hB' := hD.ok.B; have hlen := hD.len
      simp only at hR' hG' hB' hlen hcap hmx hq
      simp only [go_sem, Nat.reduceBEq, Nat.reduceLT, Nat.reduceLeDiff, Nat.reduceAdd, Nat.reduceMul, Nat.reduceSub, Nat.reduceMod, Nat.reduceDiv, Nat.reduceEqDiff, Int.reduceToNat, reduceIte, reduceCtorEq, Int.reduceLE, Int.reduceLT, Int.reduceEq, Int.reduceNeg, Int.reduceAdd, Int.reduceSub, Int.reduceMul, decide_eq_true_eq, decide_eq_false_iff_not]
      refine ⟨fun h1 => ?_, fun h1 => ?_⟩
      · have r1 : (0 : Int) ≤ q ∧ (q : Int) < L.length := ⟨by omega, by omega⟩
        have b1 : q * 2 ≤ s.n - 2 := by omega
        have b3 : 2 ≤ s.n := by omega
        obtain ⟨x0, x8, y0, y8⟩ := hI.at hsm (q := q) (by omega)
        have hsucc := dipN_succ he
        generalize hx : (L.getD q (0, 0)).1 = x at *
        generalize hy : (L.getD q (0, 0)).2 = y at *
        have ex : s.c (q * 2) = .int .i8 x := by rw [hL.x (j := q) (by omega), hx]
        have ey : s.c (q * 2 + 1) = .int .i8 y := by rw [hL.y (j := q) (by omega), hy]
        have ok4 : ∀ S' B', HOk (n + 4) ((n + 3, brS B') :: (n + 2, ⟨1, cl [.int .i64 least], true, none⟩) :: (n + 1, brS B) :: (n, shS S') :: h) := fun S' B' =>
          hok_cons (hok_cons (hok_cons (hok_cons (hok_up hok (by omega)) (by omega) fun k hk => shC_flat _ _) (by omega) fun k hk => brC_flat _ hk) (by omega) fun k hk => one_flat hk) (by omega) fun k hk => brC_flat _ hk
        simp only [go_sem, Nat.reduceBEq, Nat.reduceLT, Nat.reduceLeDiff, Nat.reduceAdd, Nat.reduceMul, Nat.reduceSub, Nat.reduceMod, Nat.reduceDiv, Nat.reduceEqDiff, Int.reduceToNat, reduceIte, reduceCtorEq, Int.reduceLE, Int.reduceLT, Int.reduceEq, Int.reduceNeg, Int.reduceAdd, Int.reduceSub, Int.reduceMul, hs, hi, r1, b1, b3, ex, ey]
        refine ⟨by omega, (waxed_Q _ _ _ n 0 _ Sq x y (by simp only [go_sem, Nat.reduceBEq, Nat.reduceLT, Nat.reduceLeDiff, Nat.reduceAdd, Nat.reduceMul, Nat.reduceSub, Nat.reduceMod, Nat.reduceDiv, Nat.reduceEqDiff, Int.reduceToNat, reduceIte, reduceCtorEq, Int.reduceLE, Int.reduceLT, Int.reduceEq, Int.reduceNeg, Int.reduceAdd, Int.reduceSub, Int.reduceMul]) (by omega) (shAt_shC hR') x0 y0 y8).A ?_⟩
        by_cases hw : waxB Sq x y = true
        · have hst : dipN S B least L (q + 1) = some (Sq, Bq, out) := by rw [hsucc]; unfold dipStep; simp only [hx, hy, hw, if_true]
          simp only [go_sem, Nat.reduceBEq, Nat.reduceLT, Nat.reduceLeDiff, Nat.reduceAdd, Nat.reduceMul, Nat.reduceSub, Nat.reduceMod, Nat.reduceDiv, Nat.reduceEqDiff, Int.reduceToNat, reduceIte, reduceCtorEq, Int.reduceLE, Int.reduceLT, Int.reduceEq, Int.reduceNeg, Int.reduceAdd, Int.reduceSub, Int.reduceMul, hw]
          refine callA_false (touch_E _ _ _ n Sq Bq x y (by simp only [go_sem, Nat.reduceBEq, Nat.reduceLT, Nat.reduceLeDiff, Nat.reduceAdd, Nat.reduceMul, Nat.reduceSub, Nat.reduceMod, Nat.reduceDiv, Nat.reduceEqDiff, Int.reduceToNat, reduceIte, reduceCtorEq, Int.reduceLE, Int.reduceLT, Int.reduceEq, Int.reduceNeg, Int.reduceAdd, Int.reduceSub, Int.reduceMul]) (by omega) hR' hG' hB' x0 x8 y0 y8 (n + 3) (by simp only [go_sem, Nat.reduceBEq, Nat.reduceLT, Nat.reduceLeDiff, Nat.reduceAdd, Nat.reduceMul, Nat.reduceSub, Nat.reduceMod, Nat.reduceDiv, Nat.reduceEqDiff, Int.reduceToNat, reduceIte, reduceCtorEq, Int.reduceLE, Int.reduceLT, Int.reduceEq, Int.reduceNeg, Int.reduceAdd, Int.reduceSub, Int.reduceMul]) (by omega) (by simp only [go_sem, Nat.reduceBEq, Nat.reduceLT, Nat.reduceLeDiff, Nat.reduceAdd, Nat.reduceMul, Nat.reduceSub, Nat.reduceMod, Nat.reduceDiv, Nat.reduceEqDiff, Int.reduceToNat, reduceIte, reduceCtorEq, Int.reduceLE, Int.reduceLT, Int.reduceEq, Int.reduceNeg, Int.reduceAdd, Int.reduceSub, Int.reduceMul]) _ ?_)
          rw [touchS_wax hw, touchB_wax hw]
          simp only [go_sem, Nat.reduceBEq, Nat.reduceLT, Nat.reduceLeDiff, Nat.reduceAdd, Nat.reduceMul, Nat.reduceSub, Nat.reduceMod, Nat.reduceDiv, Nat.reduceEqDiff, Int.reduceToNat, reduceIte, reduceCtorEq, Int.reduceLE, Int.reduceLT, Int.reduceEq, Int.reduceNeg, Int.reduceAdd, Int.reduceSub, Int.reduceMul]
          refine ⟨⟨(q + 1, (Sq, Bq, out), capo), by show q + 1 ≤ L.length; omega, hst, hcap, hmx⟩, by show L.length - (q + 1) < L.length - q; omega, ?_⟩
          exact imp_one (n + 4) (n + 4) (Nat.le_add_right n 4) (ok4 Sq Bq) (by simp only [go_sem, Nat.reduceBEq, Nat.reduceLT, Nat.reduceLeDiff, Nat.reduceAdd, Nat.reduceMul, Nat.reduceSub, Nat.reduceMod, Nat.reduceDiv, Nat.reduceEqDiff, Int.reduceToNat, reduceIte, reduceCtorEq, Int.reduceLE, Int.reduceLT, Int.reduceEq, Int.reduceNeg, Int.reduceAdd, Int.reduceSub, Int.reduceMul, HExt_cons]) (by omega) (by simp only [go_sem, Nat.reduceBEq, Nat.reduceLT, Nat.reduceLeDiff, Nat.reduceAdd, Nat.reduceMul, Nat.reduceSub, Nat.reduceMod, Nat.reduceDiv, Nat.reduceEqDiff, Int.reduceToNat, reduceIte, reduceCtorEq, Int.reduceLE, Int.reduceLT, Int.reduceEq, Int.reduceNeg, Int.reduceAdd, Int.reduceSub, Int.reduceMul]) (fun k hk => trivial) (by simp only [go_sem, Nat.reduceBEq, Nat.reduceLT, Nat.reduceLeDiff, Nat.reduceAdd, Nat.reduceMul, Nat.reduceSub, Nat.reduceMod, Nat.reduceDiv, Nat.reduceEqDiff, Int.reduceToNat, reduceIte, reduceCtorEq, Int.reduceLE, Int.reduceLT, Int.reduceEq, Int.reduceNeg, Int.reduceAdd, Int.reduceSub, Int.reduceMul, hi, w64 (n := (q : Int) + 1) (by omega), Int.natCast_add, Int.natCast_one]; omega)
        · simp only [go_sem, Nat.reduceBEq, Nat.reduceLT, Nat.reduceLeDiff, Nat.reduceAdd, Nat.reduceMul, Nat.reduceSub, Nat.reduceMod, Nat.reduceDiv, Nat.reduceEqDiff, Int.reduceToNat, reduceIte, reduceCtorEq, Int.reduceLE, Int.reduceLT, Int.reduceEq, Int.reduceNeg, Int.reduceAdd, Int.reduceSub, Int.reduceMul, hw]
          refine (few_Q _ _ _ n Sq Bq x y least (by simp only [go_sem, Nat.reduceBEq, Nat.reduceLT, Nat.reduceLeDiff, Nat.reduceAdd, Nat.reduceMul, Nat.reduceSub, Nat.reduceMod, Nat.reduceDiv, Nat.reduceEqDiff, Int.reduceToNat, reduceIte, reduceCtorEq, Int.reduceLE, Int.reduceLT, Int.reduceEq, Int.reduceNeg, Int.reduceAdd, Int.reduceSub, Int.reduceMul]) (by omega) hR' hG' hB' x0 x8 y0 y8 (n + 2) (by simp only [go_sem, Nat.reduceBEq, Nat.reduceLT, Nat.reduceLeDiff, Nat.reduceAdd, Nat.reduceMul, Nat.reduceSub, Nat.reduceMod, Nat.reduceDiv, Nat.reduceEqDiff, Int.reduceToNat, reduceIte, reduceCtorEq, Int.reduceLE, Int.reduceLT, Int.reduceEq, Int.reduceNeg, Int.reduceAdd, Int.reduceSub, Int.reduceMul]) (by omega)).A ?_
          by_cases hf : lvSum Sq Bq y x < least
          · simp only [go_sem, Nat.reduceBEq, Nat.reduceLT, Nat.reduceLeDiff, Nat.reduceAdd, Nat.reduceMul, Nat.reduceSub, Nat.reduceMod, Nat.reduceDiv, Nat.reduceEqDiff, Int.reduceToNat, reduceIte, reduceCtorEq, Int.reduceLE, Int.reduceLT, Int.reduceEq, Int.reduceNeg, Int.reduceAdd, Int.reduceSub, Int.reduceMul, hf]
            refine (few_Q _ _ _ n Sq B x y least (by simp only [go_sem, Nat.reduceBEq, Nat.reduceLT, Nat.reduceLeDiff, Nat.reduceAdd, Nat.reduceMul, Nat.reduceSub, Nat.reduceMod, Nat.reduceDiv, Nat.reduceEqDiff, Int.reduceToNat, reduceIte, reduceCtorEq, Int.reduceLE, Int.reduceLT, Int.reduceEq, Int.reduceNeg, Int.reduceAdd, Int.reduceSub, Int.reduceMul]) (by omega) hR' hG' hv.2 x0 x8 y0 y8 (n + 2) (by simp only [go_sem, Nat.reduceBEq, Nat.reduceLT, Nat.reduceLeDiff, Nat.reduceAdd, Nat.reduceMul, Nat.reduceSub, Nat.reduceMod, Nat.reduceDiv, Nat.reduceEqDiff, Int.reduceToNat, reduceIte, reduceCtorEq, Int.reduceLE, Int.reduceLT, Int.reduceEq, Int.reduceNeg, Int.reduceAdd, Int.reduceSub, Int.reduceMul]) (by omega)).A ?_
            by_cases hf0 : lvSum Sq B y x < least
            · have hst : dipN S B least L (q + 1) = none := by rw [hsucc]; unfold dipStep; simp only [hx, hy, hw, hf, hf0, if_true, if_false, Bool.false_eq_true]
              simp only [go_sem, Nat.reduceBEq, Nat.reduceLT, Nat.reduceLeDiff, Nat.reduceAdd, Nat.reduceMul, Nat.reduceSub, Nat.reduceMod, Nat.reduceDiv, Nat.reduceEqDiff, Int.reduceToNat, reduceIte, reduceCtorEq, Int.reduceLE, Int.reduceLT, Int.reduceEq, Int.reduceNeg, Int.reduceAdd, Int.reduceSub, Int.reduceMul, hf0]
              exact fun hok' => bad 6 _ _ (dipR_none hv ⟨hP.2, hd⟩ (dipN_end hst (by omega))) (by omega) (by simp only [go_sem, Nat.reduceBEq, Nat.reduceLT, Nat.reduceLeDiff, Nat.reduceAdd, Nat.reduceMul, Nat.reduceSub, Nat.reduceMod, Nat.reduceDiv, Nat.reduceEqDiff, Int.reduceToNat, reduceIte, reduceCtorEq, Int.reduceLE, Int.reduceLT, Int.reduceEq, Int.reduceNeg, Int.reduceAdd, Int.reduceSub, Int.reduceMul, HExt_cons]) hok'
            · have hst : dipN S B least L (q + 1) = some (touchS Sq B y x, touchB Sq B y x, out ++ [(q : Int)]) := by rw [hsucc]; unfold dipStep; simp only [hx, hy, hw, hf, hf0, if_true, if_false, Bool.false_eq_true]
              simp only [go_sem, Nat.reduceBEq, Nat.reduceLT, Nat.reduceLeDiff, Nat.reduceAdd, Nat.reduceMul, Nat.reduceSub, Nat.reduceMod, Nat.reduceDiv, Nat.reduceEqDiff, Int.reduceToNat, reduceIte, reduceCtorEq, Int.reduceLE, Int.reduceLT, Int.reduceEq, Int.reduceNeg, Int.reduceAdd, Int.reduceSub, Int.reduceMul, hf0, ↓hok.del (show n ≤ n + 4 by omega)]
              refine ⟨by omega, fun cap1 c1 c2 => ?_⟩
              refine callA_false (touch_E _ _ _ n Sq B x y (by simp only [go_sem, Nat.reduceBEq, Nat.reduceLT, Nat.reduceLeDiff, Nat.reduceAdd, Nat.reduceMul, Nat.reduceSub, Nat.reduceMod, Nat.reduceDiv, Nat.reduceEqDiff, Int.reduceToNat, reduceIte, reduceCtorEq, Int.reduceLE, Int.reduceLT, Int.reduceEq, Int.reduceNeg, Int.reduceAdd, Int.reduceSub, Int.reduceMul]) (by omega) hR' hG' hv.2 x0 x8 y0 y8 (n + 3) (by simp only [go_sem, Nat.reduceBEq, Nat.reduceLT, Nat.reduceLeDiff, Nat.reduceAdd, Nat.reduceMul, Nat.reduceSub, Nat.reduceMod, Nat.reduceDiv, Nat.reduceEqDiff, Int.reduceToNat, reduceIte, reduceCtorEq, Int.reduceLE, Int.reduceLT, Int.reduceEq, Int.reduceNeg, Int.reduceAdd, Int.reduceSub, Int.reduceMul]) (by omega) (by simp only [go_sem, Nat.reduceBEq, Nat.reduceLT, Nat.reduceLeDiff, Nat.reduceAdd, Nat.reduceMul, Nat.reduceSub, Nat.reduceMod, Nat.reduceDiv, Nat.reduceEqDiff, Int.reduceToNat, reduceIte, reduceCtorEq, Int.reduceLE, Int.reduceLT, Int.reduceEq, Int.reduceNeg, Int.reduceAdd, Int.reduceSub, Int.reduceMul]) _ ?_)
              simp only [go_sem, Nat.reduceBEq, Nat.reduceLT, Nat.reduceLeDiff, Nat.reduceAdd, Nat.reduceMul, Nat.reduceSub, Nat.reduceMod, Nat.reduceDiv, Nat.reduceEqDiff, Int.reduceToNat, reduceIte, reduceCtorEq, Int.reduceLE, Int.reduceLT, Int.reduceEq, Int.reduceNeg, Int.reduceAdd, Int.reduceSub, Int.reduceMul]
              refine ⟨⟨(q + 1, (touchS Sq B y x, touchB Sq B y x, out ++ [(q : Int)]), cap1), by show q + 1 ≤ L.length; omega, hst, by simpa using c1, c2⟩, by show L.length - (q + 1) < L.length - q; omega, ?_⟩
              exact imp_oneE (s' := ⟨out.length + 1, both out.length (intsC out) (news (upd (zrow (ti 2)) 0 (.int .i64 (q : Int))) 0), true, some (2, cap1)⟩) (n + 4) (n + 7) (Nat.le_add_right n 4) (ok4 (touchS Sq B y x) (touchB Sq B y x)) (by simp only [go_sem, Nat.reduceBEq, Nat.reduceLT, Nat.reduceLeDiff, Nat.reduceAdd, Nat.reduceMul, Nat.reduceSub, Nat.reduceMod, Nat.reduceDiv, Nat.reduceEqDiff, Int.reduceToNat, reduceIte, reduceCtorEq, Int.reduceLE, Int.reduceLT, Int.reduceEq, Int.reduceNeg, Int.reduceAdd, Int.reduceSub, Int.reduceMul, HExt_cons]) (by omega) (by simp only [go_sem, Nat.reduceBEq, Nat.reduceLT, Nat.reduceLeDiff, Nat.reduceAdd, Nat.reduceMul, Nat.reduceSub, Nat.reduceMod, Nat.reduceDiv, Nat.reduceEqDiff, Int.reduceToNat, reduceIte, reduceCtorEq, Int.reduceLE, Int.reduceLT, Int.reduceEq, Int.reduceNeg, Int.reduceAdd, Int.reduceSub, Int.reduceMul]) ⟨by simp, by simp, by simp, fun k hk => intsC_push cap1 out _ hk⟩ (fun k hk => trivial) (by simp only [go_sem, Nat.reduceBEq, Nat.reduceLT, Nat.reduceLeDiff, Nat.reduceAdd, Nat.reduceMul, Nat.reduceSub, Nat.reduceMod, Nat.reduceDiv, Nat.reduceEqDiff, Int.reduceToNat, reduceIte, reduceCtorEq, Int.reduceLE, Int.reduceLT, Int.reduceEq, Int.reduceNeg, Int.reduceAdd, Int.reduceSub, Int.reduceMul, hi, List.length_append, List.length_cons, List.length_nil, w64 (n := (q : Int) + 1) (by omega), Int.natCast_add, Int.natCast_one]; omega)
          · have hst : dipN S B least L (q + 1) = some (touchS Sq Bq y x, touchB Sq Bq y x, out) := by rw [hsucc]; unfold dipStep; simp only [hx, hy, hw, hf, if_true, if_false, Bool.false_eq_true]
            simp only [go_sem, Nat.reduceBEq, Nat.reduceLT, Nat.reduceLeDiff, Nat.reduceAdd, Nat.reduceMul, Nat.reduceSub, Nat.reduceMod, Nat.reduceDiv, Nat.reduceEqDiff, Int.reduceToNat, reduceIte, reduceCtorEq, Int.reduceLE, Int.reduceLT, Int.reduceEq, Int.reduceNeg, Int.reduceAdd, Int.reduceSub, Int.reduceMul, hf]
            refine callA_false (touch_E _ _ _ n Sq Bq x y (by simp only [go_sem, Nat.reduceBEq, Nat.reduceLT, Nat.reduceLeDiff, Nat.reduceAdd, Nat.reduceMul, Nat.reduceSub, Nat.reduceMod, Nat.reduceDiv, Nat.reduceEqDiff, Int.reduceToNat, reduceIte, reduceCtorEq, Int.reduceLE, Int.reduceLT, Int.reduceEq, Int.reduceNeg, Int.reduceAdd, Int.reduceSub, Int.reduceMul]) (by omega) hR' hG' hB' x0 x8 y0 y8 (n + 3) (by simp only [go_sem, Nat.reduceBEq, Nat.reduceLT, Nat.reduceLeDiff, Nat.reduceAdd, Nat.reduceMul, Nat.reduceSub, Nat.reduceMod, Nat.reduceDiv, Nat.reduceEqDiff, Int.reduceToNat, reduceIte, reduceCtorEq, Int.reduceLE, Int.reduceLT, Int.reduceEq, Int.reduceNeg, Int.reduceAdd, Int.reduceSub, Int.reduceMul]) (by omega) (by simp only [go_sem, Nat.reduceBEq, Nat.reduceLT, Nat.reduceLeDiff, Nat.reduceAdd, Nat.reduceMul, Nat.reduceSub, Nat.reduceMod, Nat.reduceDiv, Nat.reduceEqDiff, Int.reduceToNat, reduceIte, reduceCtorEq, Int.reduceLE, Int.reduceLT, Int.reduceEq, Int.reduceNeg, Int.reduceAdd, Int.reduceSub, Int.reduceMul]) _ ?_)
            simp only [go_sem, Nat.reduceBEq, Nat.reduceLT, Nat.reduceLeDiff, Nat.reduceAdd, Nat.reduceMul, Nat.reduceSub, Nat.reduceMod, Nat.reduceDiv, Nat.reduceEqDiff, Int.reduceToNat, reduceIte, reduceCtorEq, Int.reduceLE, Int.reduceLT, Int.reduceEq, Int.reduceNeg, Int.reduceAdd, Int.reduceSub, Int.reduceMul]
            refine ⟨⟨(q + 1, (touchS Sq Bq y x, touchB Sq Bq y x, out), capo), by show q + 1 ≤ L.length; omega, hst, hcap, hmx⟩, by show L.length - (q + 1) < L.length - q; omega, ?_⟩
            exact imp_one (n + 4) (n + 4) (Nat.le_add_right n 4) (ok4 (touchS Sq Bq y x) (touchB Sq Bq y x)) (by simp only [go_sem, Nat.reduceBEq, Nat.reduceLT, Nat.reduceLeDiff, Nat.reduceAdd, Nat.reduceMul, Nat.reduceSub, Nat.reduceMod, Nat.reduceDiv, Nat.reduceEqDiff, Int.reduceToNat, reduceIte, reduceCtorEq, Int.reduceLE, Int.reduceLT, Int.reduceEq, Int.reduceNeg, Int.reduceAdd, Int.reduceSub, Int.reduceMul, HExt_cons]) (by omega) (by simp only [go_sem, Nat.reduceBEq, Nat.reduceLT, Nat.reduceLeDiff, Nat.reduceAdd, Nat.reduceMul, Nat.reduceSub, Nat.reduceMod, Nat.reduceDiv, Nat.reduceEqDiff, Int.reduceToNat, reduceIte, reduceCtorEq, Int.reduceLE, Int.reduceLT, Int.reduceEq, Int.reduceNeg, Int.reduceAdd, Int.reduceSub, Int.reduceMul]) (fun k hk => trivial) (by simp only [go_sem, Nat.reduceBEq, Nat.reduceLT, Nat.reduceLeDiff, Nat.reduceAdd, Nat.reduceMul, Nat.reduceSub, Nat.reduceMod, Nat.reduceDiv, Nat.reduceEqDiff, Int.reduceToNat, reduceIte, reduceCtorEq, Int.reduceLE, Int.reduceLT, Int.reduceEq, Int.reduceNeg, Int.reduceAdd, Int.reduceSub, Int.reduceMul, hi, w64 (n := (q : Int) + 1) (by omega), Int.natCast_add, Int.natCast_one]; omega)
      · have hq' : q = L.length := by omega
        subst hq'
        intro hok'
        have hr := dipR_some hv ⟨hP.2, hd⟩ he
        have := hK (.sl (n + 4) 0 out.length capo) _ _ (Nat.le_add_right n 5) (by simp only [go_sem, Nat.reduceBEq, Nat.reduceLT, Nat.reduceLeDiff, Nat.reduceAdd, Nat.reduceMul, Nat.reduceSub, Nat.reduceMod, Nat.reduceDiv, Nat.reduceEqDiff, Int.reduceToNat, reduceIte, reduceCtorEq, Int.reduceLE, Int.reduceLT, Int.reduceEq, Int.reduceNeg, Int.reduceAdd, Int.reduceSub, Int.reduceMul, HExt_cons]) hok' (by rw [hr]; exact .inr ⟨n + 4, capo, _, rfl, by omega, by omega, hget_hit _ _ _, rfl, rfl, fun k hk => rfl⟩)
        rw [hr] at this
        exact this
  · simp only [go_sem, Nat.reduceBEq, Nat.reduceLT, Nat.reduceLeDiff, Nat.reduceAdd, Nat.reduceMul, Nat.reduceSub, Nat.reduceMod, Nat.reduceDiv, Nat.reduceEqDiff, Int.reduceToNat, reduceIte, reduceCtorEq, Int.reduceLE, Int.reduceLT, Int.reduceEq, Int.reduceNeg, Int.reduceAdd, Int.reduceSub, Int.reduceMul]
    repeat' (with_reducible refine And.intro ?_ ?_)
    all_goals first | exact imp_twoE (t' := ⟨0, zrow (ti 2), true, some (2, 0)⟩) (n + 3) (n + 3) (n + 4) (Nat.le_add_right n 3) ok3 (by simp only [go_sem, Nat.reduceBEq, Nat.reduceLT, Nat.reduceLeDiff, Nat.reduceAdd, Nat.reduceMul, Nat.reduceSub, Nat.reduceMod, Nat.reduceDiv, Nat.reduceEqDiff, Int.reduceToNat, reduceIte, reduceCtorEq, Int.reduceLE, Int.reduceLT, Int.reduceEq, Int.reduceNeg, Int.reduceAdd, Int.reduceSub, Int.reduceMul, HExt_cons]) (by omega) (by omega) (by omega) (by simp only [go_sem, Nat.reduceBEq, Nat.reduceLT, Nat.reduceLeDiff, Nat.reduceAdd, Nat.reduceMul, Nat.reduceSub, Nat.reduceMod, Nat.reduceDiv, Nat.reduceEqDiff, Int.reduceToNat, reduceIte, reduceCtorEq, Int.reduceLE, Int.reduceLT, Int.reduceEq, Int.reduceNeg, Int.reduceAdd, Int.reduceSub, Int.reduceMul]) (by simp only [go_sem, Nat.reduceBEq, Nat.reduceLT, Nat.reduceLeDiff, Nat.reduceAdd, Nat.reduceMul, Nat.reduceSub, Nat.reduceMod, Nat.reduceDiv, Nat.reduceEqDiff, Int.reduceToNat, reduceIte, reduceCtorEq, Int.reduceLE, Int.reduceLT, Int.reduceEq, Int.reduceNeg, Int.reduceAdd, Int.reduceSub, Int.reduceMul]) .rfl' ⟨Nat.le_refl _, fun _ => rfl, .inr rfl, fun k hk => absurd hk (Nat.not_lt_zero k)⟩ (fun k hk => brC_flat _ hk) (fun k hk => trivial) (by simp only [go_sem, Nat.reduceBEq, Nat.reduceLT, Nat.reduceLeDiff, Nat.reduceAdd, Nat.reduceMul, Nat.reduceSub, Nat.reduceMod, Nat.reduceDiv, Nat.reduceEqDiff, Int.reduceToNat, reduceIte, reduceCtorEq, Int.reduceLE, Int.reduceLT, Int.reduceEq, Int.reduceNeg, Int.reduceAdd, Int.reduceSub, Int.reduceMul, hi]; omega) | exact imp_twoE (t' := ⟨0, zrow (ti 2), true, some (2, 0)⟩) (n + 3) (n + 4) (n + 3) (Nat.le_add_right n 3) ok3 (by simp only [go_sem, Nat.reduceBEq, Nat.reduceLT, Nat.reduceLeDiff, Nat.reduceAdd, Nat.reduceMul, Nat.reduceSub, Nat.reduceMod, Nat.reduceDiv, Nat.reduceEqDiff, Int.reduceToNat, reduceIte, reduceCtorEq, Int.reduceLE, Int.reduceLT, Int.reduceEq, Int.reduceNeg, Int.reduceAdd, Int.reduceSub, Int.reduceMul, HExt_cons]) (by omega) (by omega) (by omega) (by simp only [go_sem, Nat.reduceBEq, Nat.reduceLT, Nat.reduceLeDiff, Nat.reduceAdd, Nat.reduceMul, Nat.reduceSub, Nat.reduceMod, Nat.reduceDiv, Nat.reduceEqDiff, Int.reduceToNat, reduceIte, reduceCtorEq, Int.reduceLE, Int.reduceLT, Int.reduceEq, Int.reduceNeg, Int.reduceAdd, Int.reduceSub, Int.reduceMul]) (by simp only [go_sem, Nat.reduceBEq, Nat.reduceLT, Nat.reduceLeDiff, Nat.reduceAdd, Nat.reduceMul, Nat.reduceSub, Nat.reduceMod, Nat.reduceDiv, Nat.reduceEqDiff, Int.reduceToNat, reduceIte, reduceCtorEq, Int.reduceLE, Int.reduceLT, Int.reduceEq, Int.reduceNeg, Int.reduceAdd, Int.reduceSub, Int.reduceMul]) .rfl' ⟨Nat.le_refl _, fun _ => rfl, .inr rfl, fun k hk => absurd hk (Nat.not_lt_zero k)⟩ (fun k hk => brC_flat _ hk) (fun k hk => trivial) (by simp only [go_sem, Nat.reduceBEq, Nat.reduceLT, Nat.reduceLeDiff, Nat.reduceAdd, Nat.reduceMul, Nat.reduceSub, Nat.reduceMod, Nat.reduceDiv, Nat.reduceEqDiff, Int.reduceToNat, reduceIte, reduceCtorEq, Int.reduceLE, Int.reduceLT, Int.reduceEq, Int.reduceNeg, Int.reduceAdd, Int.reduceSub, Int.reduceMul, hi]; omega)
end
end Go.Proofs.Ytebpkdolmlloaaa.V

/- DipsFor by the reference: the walk. -/
namespace Go.Proofs.Ytebpkdolmlloaaa.V

section
variable (cx : Cx) (h : List (Nat × Seg)) (n : Nat)
variable (i cap : Nat) (L : List (Int × Int)) (s : Seg) (hs : hget h i = some s) (hi : i < n) (hL : SpsAt s L) (hm9 : L.length ≤ 1000000000) (S : Sh) (B : Br) (hR : ShR S) (hB : BrR B) (least : Int)
include hs hi hL hm9 hR hB in
theorem dips2_E (hLR : SpotsR L) (K : HK) (hK : ∀ V h' n', n ≤ n' → HExt n h h' → HOk n' h' → IntsOut h' n n' V (dipR S B L least).1 → K (.tup 2 (cl [V, .int .i64 (dipR S B L least).2])) h' n') :
    CallE Try.prog cx 12 [.agg 266 (shC S), .agg 5 (brC B), .sl i 0 L.length cap, .int .i64 least] h n K := by
  have hn := hL.1
  refine CallE.hokE ?_
  refine callE_of_T (P := Try.prog) hti (nt := 66) (rs := [.tmp 8, .tmp 9]) rfl rfl Try.call12 Try.func12 rfl _ (by simp only [go_sem, and_self]) (Nat.le_of_ble_eq_true rfl) _ fun hok => ?_
  simp only [go_sem, Nat.reduceBEq, Nat.reduceLT, Nat.reduceLeDiff, Nat.reduceAdd, Nat.reduceMul, Nat.reduceSub, Nat.reduceMod, Nat.reduceDiv, Nat.reduceEqDiff, Int.reduceToNat, reduceIte, reduceCtorEq, Int.reduceLE, Int.reduceLT, Int.reduceEq, Int.reduceNeg, Int.reduceAdd, Int.reduceSub, Int.reduceMul]
  refine (along_Q _ _ _ i cap L s (by simp only [go_sem, Nat.reduceBEq, Nat.reduceLT, Nat.reduceLeDiff, Nat.reduceAdd, Nat.reduceMul, Nat.reduceSub, Nat.reduceMod, Nat.reduceDiv, Nat.reduceEqDiff, Int.reduceToNat, reduceIte, reduceCtorEq, Int.reduceLE, Int.reduceLT, Int.reduceEq, Int.reduceNeg, Int.reduceAdd, Int.reduceSub, Int.reduceMul, hs, hi]) (by omega) hL hm9 n (n + 1) S B (by simp only [go_sem, Nat.reduceBEq, Nat.reduceLT, Nat.reduceLeDiff, Nat.reduceAdd, Nat.reduceMul, Nat.reduceSub, Nat.reduceMod, Nat.reduceDiv, Nat.reduceEqDiff, Int.reduceToNat, reduceIte, reduceCtorEq, Int.reduceLE, Int.reduceLT, Int.reduceEq, Int.reduceNeg, Int.reduceAdd, Int.reduceSub, Int.reduceMul]) (by omega) (by simp only [go_sem, Nat.reduceBEq, Nat.reduceLT, Nat.reduceLeDiff, Nat.reduceAdd, Nat.reduceMul, Nat.reduceSub, Nat.reduceMod, Nat.reduceDiv, Nat.reduceEqDiff, Int.reduceToNat, reduceIte, reduceCtorEq, Int.reduceLE, Int.reduceLT, Int.reduceEq, Int.reduceNeg, Int.reduceAdd, Int.reduceSub, Int.reduceMul]) (by omega) hR hB hLR).A ?_
  have bad : ∀ (c : Int) (k cp : Nat) (z : Nat → SV) (ow : Option (Nat × Nat)) (h' : List (Nat × Seg)) (n' : Nat), dipR S B L least = ([], c) → n ≤ k → k < n' → n ≤ n' → hget h' k = some ⟨0, z, true, ow⟩ → HExt n h h' → HOk n' h' → K (.tup 2 (cl [.sl k 0 0 cp, .int .i64 c])) h' n' := fun c k cp z ow h' n' e hk hk' hn' hg hx hok' => by
    have := hK (.sl k 0 0 cp) h' n' hn' hx hok' (by rw [e]; exact .inr ⟨k, cp, _, rfl, hk, hk', hg, rfl, rfl, fun j hj => absurd hj (Nat.not_lt_zero j)⟩)
    rw [e] at this; exact this
  by_cases hv : Valid S ∧ BrV B
  rotate_left
  · rw [bCode_bad hv]
    simp only [go_sem, Nat.reduceBEq, Nat.reduceLT, Nat.reduceLeDiff, Nat.reduceAdd, Nat.reduceMul, Nat.reduceSub, Nat.reduceMod, Nat.reduceDiv, Nat.reduceEqDiff, Int.reduceToNat, reduceIte, reduceCtorEq, Int.reduceLE, Int.reduceLT, Int.reduceEq, Int.reduceNeg, Int.reduceAdd, Int.reduceSub, Int.reduceMul]
    exact fun hok' => bad 1 (n + 2) _ _ _ _ _ (dipR_bad hv) (by omega) (by omega) (by omega) (by simp only [go_sem, Nat.reduceBEq, Nat.reduceLT, Nat.reduceLeDiff, Nat.reduceAdd, Nat.reduceMul, Nat.reduceSub, Nat.reduceMod, Nat.reduceDiv, Nat.reduceEqDiff, Int.reduceToNat, reduceIte, reduceCtorEq, Int.reduceLE, Int.reduceLT, Int.reduceEq, Int.reduceNeg, Int.reduceAdd, Int.reduceSub, Int.reduceMul]; rfl) (by simp only [go_sem, Nat.reduceBEq, Nat.reduceLT, Nat.reduceLeDiff, Nat.reduceAdd, Nat.reduceMul, Nat.reduceSub, Nat.reduceMod, Nat.reduceDiv, Nat.reduceEqDiff, Int.reduceToNat, reduceIte, reduceCtorEq, Int.reduceLE, Int.reduceLT, Int.reduceEq, Int.reduceNeg, Int.reduceAdd, Int.reduceSub, Int.reduceMul, HExt_cons]) hok'
  by_cases hP : PathP S L
  rotate_left
  · rw [boolOf_f (show ¬ (Valid S ∧ PathP S L) from fun h => hP h.2), bCode_ok hv]
    simp only [go_sem, Nat.reduceBEq, Nat.reduceLT, Nat.reduceLeDiff, Nat.reduceAdd, Nat.reduceMul, Nat.reduceSub, Nat.reduceMod, Nat.reduceDiv, Nat.reduceEqDiff, Int.reduceToNat, reduceIte, reduceCtorEq, Int.reduceLE, Int.reduceLT, Int.reduceEq, Int.reduceNeg, Int.reduceAdd, Int.reduceSub, Int.reduceMul]
    exact fun hok' => bad 2 (n + 2) _ _ _ _ _ (dipR_range hv fun h => hP h.1) (by omega) (by omega) (by omega) (by simp only [go_sem, Nat.reduceBEq, Nat.reduceLT, Nat.reduceLeDiff, Nat.reduceAdd, Nat.reduceMul, Nat.reduceSub, Nat.reduceMod, Nat.reduceDiv, Nat.reduceEqDiff, Int.reduceToNat, reduceIte, reduceCtorEq, Int.reduceLE, Int.reduceLT, Int.reduceEq, Int.reduceNeg, Int.reduceAdd, Int.reduceSub, Int.reduceMul]; rfl) (by simp only [go_sem, Nat.reduceBEq, Nat.reduceLT, Nat.reduceLeDiff, Nat.reduceAdd, Nat.reduceMul, Nat.reduceSub, Nat.reduceMod, Nat.reduceDiv, Nat.reduceEqDiff, Int.reduceToNat, reduceIte, reduceCtorEq, Int.reduceLE, Int.reduceLT, Int.reduceEq, Int.reduceNeg, Int.reduceAdd, Int.reduceSub, Int.reduceMul, HExt_cons]) hok'
  rw [boolOf_t (show Valid S ∧ PathP S L from ⟨hv.1, hP⟩), bCode_ok hv]
  simp only [go_sem, Nat.reduceBEq, Nat.reduceLT, Nat.reduceLeDiff, Nat.reduceAdd, Nat.reduceMul, Nat.reduceSub, Nat.reduceMod, Nat.reduceDiv, Nat.reduceEqDiff, Int.reduceToNat, reduceIte, reduceCtorEq, Int.reduceLE, Int.reduceLT, Int.reduceEq, Int.reduceNeg, Int.reduceAdd, Int.reduceSub, Int.reduceMul]
  refine (least2_Q _ _ _ _).A ?_
  by_cases hd : 1 ≤ least ∧ least ≤ 3000
  rotate_left
  · simp only [go_sem, Nat.reduceBEq, Nat.reduceLT, Nat.reduceLeDiff, Nat.reduceAdd, Nat.reduceMul, Nat.reduceSub, Nat.reduceMod, Nat.reduceDiv, Nat.reduceEqDiff, Int.reduceToNat, reduceIte, reduceCtorEq, Int.reduceLE, Int.reduceLT, Int.reduceEq, Int.reduceNeg, Int.reduceAdd, Int.reduceSub, Int.reduceMul, hd]
    exact fun hok' => bad 2 (n + 2) _ _ _ _ _ (dipR_range hv fun h => hd h.2) (by omega) (by omega) (by omega) (by simp only [go_sem, Nat.reduceBEq, Nat.reduceLT, Nat.reduceLeDiff, Nat.reduceAdd, Nat.reduceMul, Nat.reduceSub, Nat.reduceMod, Nat.reduceDiv, Nat.reduceEqDiff, Int.reduceToNat, reduceIte, reduceCtorEq, Int.reduceLE, Int.reduceLT, Int.reduceEq, Int.reduceNeg, Int.reduceAdd, Int.reduceSub, Int.reduceMul]; rfl) (by simp only [go_sem, Nat.reduceBEq, Nat.reduceLT, Nat.reduceLeDiff, Nat.reduceAdd, Nat.reduceMul, Nat.reduceSub, Nat.reduceMod, Nat.reduceDiv, Nat.reduceEqDiff, Int.reduceToNat, reduceIte, reduceCtorEq, Int.reduceLE, Int.reduceLT, Int.reduceEq, Int.reduceNeg, Int.reduceAdd, Int.reduceSub, Int.reduceMul, HExt_cons]) hok'
  simp only [go_sem, Nat.reduceBEq, Nat.reduceLT, Nat.reduceLeDiff, Nat.reduceAdd, Nat.reduceMul, Nat.reduceSub, Nat.reduceMod, Nat.reduceDiv, Nat.reduceEqDiff, Int.reduceToNat, reduceIte, reduceCtorEq, Int.reduceLE, Int.reduceLT, Int.reduceEq, Int.reduceNeg, Int.reduceAdd, Int.reduceSub, Int.reduceMul, hd]
  have hsm : Small S := hv.1.1
  have hO := hv.1.ok hv.2 hR
  have hI : InP S L := hP.2.2
  have h80 : L.length ≤ 80 := hP.2.1.2
  have ok2 : ∀ S', HOk (n + 2) ((n + 1, brS B) :: (n, shS S') :: h) := fun S' =>
    hok_cons (hok_cons (hok_up hok (by omega)) (by omega) fun k hk => shC_flat _ _) (by omega) fun k hk => brC_flat _ hk
  refine T_lp (ι := { w : Nat × DSt × Nat // w.1 ≤ L.length ∧ dipN S B least L w.1 = some w.2.1 ∧ w.2.1.2.2.length ≤ w.2.2 ∧ w.2.2 ≤ maxLen })
      (fun w => ([(2, .sl i 0 L.length cap), (3, .int .i64 least), (4, .ptr n 0), (5, .ptr (n + 1) 0), (11, .sl (n + 3) 0 w.1.2.1.2.2.length w.1.2.2), (12, .ptr (n + 2) 0), (13, .int .i64 w.1.1)],
        (n + 3, ⟨w.1.2.1.2.2.length, intsC w.1.2.1.2.2, true, some (2, w.1.2.2)⟩) :: (n + 2, brS w.1.2.1.2.1) :: (n + 1, brS B) :: (n, shS w.1.2.1.1) :: h, n + 4)) (fun w => L.length - w.1.1) ⟨(0, (S, B, []), 0), by simp, rfl, by simp, by simp [Go.maxLen]⟩ ?_ ?_
  · exact imp_twoE (t' := ⟨0, zrow (ti 2), true, some (2, 0)⟩) (n + 2) (n + 3) (n + 2) (Nat.le_add_right n 2) (ok2 S) (by simp only [go_sem, Nat.reduceBEq, Nat.reduceLT, Nat.reduceLeDiff, Nat.reduceAdd, Nat.reduceMul, Nat.reduceSub, Nat.reduceMod, Nat.reduceDiv, Nat.reduceEqDiff, Int.reduceToNat, reduceIte, reduceCtorEq, Int.reduceLE, Int.reduceLT, Int.reduceEq, Int.reduceNeg, Int.reduceAdd, Int.reduceSub, Int.reduceMul, HExt_cons]) (by omega) (by omega) (by omega) (by simp only [go_sem, Nat.reduceBEq, Nat.reduceLT, Nat.reduceLeDiff, Nat.reduceAdd, Nat.reduceMul, Nat.reduceSub, Nat.reduceMod, Nat.reduceDiv, Nat.reduceEqDiff, Int.reduceToNat, reduceIte, reduceCtorEq, Int.reduceLE, Int.reduceLT, Int.reduceEq, Int.reduceNeg, Int.reduceAdd, Int.reduceSub, Int.reduceMul]) (by simp only [go_sem, Nat.reduceBEq, Nat.reduceLT, Nat.reduceLeDiff, Nat.reduceAdd, Nat.reduceMul, Nat.reduceSub, Nat.reduceMod, Nat.reduceDiv, Nat.reduceEqDiff, Int.reduceToNat, reduceIte, reduceCtorEq, Int.reduceLE, Int.reduceLT, Int.reduceEq, Int.reduceNeg, Int.reduceAdd, Int.reduceSub, Int.reduceMul]) .rfl' ⟨Nat.le_refl _, fun _ => rfl, .inr rfl, fun k hk => absurd hk (Nat.not_lt_zero k)⟩ (fun k hk => brC_flat _ hk) (fun k hk => trivial) (by simp only [go_sem, Nat.reduceBEq, Nat.reduceLT, Nat.reduceLeDiff, Nat.reduceAdd, Nat.reduceMul, Nat.reduceSub, Nat.reduceMod, Nat.reduceDiv, Nat.reduceEqDiff, Int.reduceToNat, reduceIte, reduceCtorEq, Int.reduceLE, Int.reduceLT, Int.reduceEq, Int.reduceNeg, Int.reduceAdd, Int.reduceSub, Int.reduceMul, hi]; omega)
  · rintro ⟨⟨q, p, capo⟩, hq, he, hcap, hmx⟩
    have hD := dipN_ok hI hsm hO q p hq he
    obtain ⟨Sq, Bq, out⟩ := p
    have hR' := hD.ok.R; have hG' := hD.ok.G; have hB' := hD.ok.B; have hlen := hD.len
    simp only at hR' hG' hB' hlen hcap hmx hq
    simp only [go_sem, Nat.reduceBEq, Nat.reduceLT, Nat.reduceLeDiff, Nat.reduceAdd, Nat.reduceMul, Nat.reduceSub, Nat.reduceMod, Nat.reduceDiv, Nat.reduceEqDiff, Int.reduceToNat, reduceIte, reduceCtorEq, Int.reduceLE, Int.reduceLT, Int.reduceEq, Int.reduceNeg, Int.reduceAdd, Int.reduceSub, Int.reduceMul, decide_eq_true_eq, decide_eq_false_iff_not]
    refine ⟨fun h1 => ?_, fun h1 => ?_⟩
    · have r1 : (0 : Int) ≤ q ∧ (q : Int) < L.length := ⟨by omega, by omega⟩
      have b1 : q * 2 ≤ s.n - 2 := by omega
      have b3 : 2 ≤ s.n := by omega
      obtain ⟨x0, x8, y0, y8⟩ := hI.at hsm (q := q) (by omega)
      have hsucc := dipN_succ he
      generalize hx : (L.getD q (0, 0)).1 = x at *
      generalize hy : (L.getD q (0, 0)).2 = y at *
      have ex : s.c (q * 2) = .int .i8 x := by rw [hL.x (j := q) (by omega), hx]
      have ey : s.c (q * 2 + 1) = .int .i8 y := by rw [hL.y (j := q) (by omega), hy]
      simp only [go_sem, Nat.reduceBEq, Nat.reduceLT, Nat.reduceLeDiff, Nat.reduceAdd, Nat.reduceMul, Nat.reduceSub, Nat.reduceMod, Nat.reduceDiv, Nat.reduceEqDiff, Int.reduceToNat, reduceIte, reduceCtorEq, Int.reduceLE, Int.reduceLT, Int.reduceEq, Int.reduceNeg, Int.reduceAdd, Int.reduceSub, Int.reduceMul, hs, hi, r1, b1, b3, ex, ey]
      refine ⟨by omega, (waxed2_Q _ _ _ n 0 _ Sq x y (by simp only [go_sem, Nat.reduceBEq, Nat.reduceLT, Nat.reduceLeDiff, Nat.reduceAdd, Nat.reduceMul, Nat.reduceSub, Nat.reduceMod, Nat.reduceDiv, Nat.reduceEqDiff, Int.reduceToNat, reduceIte, reduceCtorEq, Int.reduceLE, Int.reduceLT, Int.reduceEq, Int.reduceNeg, Int.reduceAdd, Int.reduceSub, Int.reduceMul]) (by omega) (shAt_shC hR') x0 (by omega) y0 y8).A ?_⟩
      by_cases hw : waxB Sq x y = true
      · have hst : dipN S B least L (q + 1) = some (Sq, Bq, out) := by rw [hsucc]; unfold dipStep; simp only [hx, hy, hw, if_true]
        simp only [go_sem, Nat.reduceBEq, Nat.reduceLT, Nat.reduceLeDiff, Nat.reduceAdd, Nat.reduceMul, Nat.reduceSub, Nat.reduceMod, Nat.reduceDiv, Nat.reduceEqDiff, Int.reduceToNat, reduceIte, reduceCtorEq, Int.reduceLE, Int.reduceLT, Int.reduceEq, Int.reduceNeg, Int.reduceAdd, Int.reduceSub, Int.reduceMul, hw]
        refine ⟨⟨(q + 1, (Sq, Bq, out), capo), by show q + 1 ≤ L.length; omega, hst, hcap, hmx⟩, by show L.length - (q + 1) < L.length - q; omega, ?_⟩
        exact imp_twoE (n + 2) (n + 2) (n + 3) (Nat.le_add_right n 2) (ok2 Sq) (by simp only [go_sem, Nat.reduceBEq, Nat.reduceLT, Nat.reduceLeDiff, Nat.reduceAdd, Nat.reduceMul, Nat.reduceSub, Nat.reduceMod, Nat.reduceDiv, Nat.reduceEqDiff, Int.reduceToNat, reduceIte, reduceCtorEq, Int.reduceLE, Int.reduceLT, Int.reduceEq, Int.reduceNeg, Int.reduceAdd, Int.reduceSub, Int.reduceMul, HExt_cons]) (by omega) (by omega) (by omega) (by simp only [go_sem, Nat.reduceBEq, Nat.reduceLT, Nat.reduceLeDiff, Nat.reduceAdd, Nat.reduceMul, Nat.reduceSub, Nat.reduceMod, Nat.reduceDiv, Nat.reduceEqDiff, Int.reduceToNat, reduceIte, reduceCtorEq, Int.reduceLE, Int.reduceLT, Int.reduceEq, Int.reduceNeg, Int.reduceAdd, Int.reduceSub, Int.reduceMul]) (by simp only [go_sem, Nat.reduceBEq, Nat.reduceLT, Nat.reduceLeDiff, Nat.reduceAdd, Nat.reduceMul, Nat.reduceSub, Nat.reduceMod, Nat.reduceDiv, Nat.reduceEqDiff, Int.reduceToNat, reduceIte, reduceCtorEq, Int.reduceLE, Int.reduceLT, Int.reduceEq, Int.reduceNeg, Int.reduceAdd, Int.reduceSub, Int.reduceMul]) .rfl' .rfl' (fun k hk => brC_flat _ hk) (fun k hk => trivial) (by simp only [go_sem, Nat.reduceBEq, Nat.reduceLT, Nat.reduceLeDiff, Nat.reduceAdd, Nat.reduceMul, Nat.reduceSub, Nat.reduceMod, Nat.reduceDiv, Nat.reduceEqDiff, Int.reduceToNat, reduceIte, reduceCtorEq, Int.reduceLE, Int.reduceLT, Int.reduceEq, Int.reduceNeg, Int.reduceAdd, Int.reduceSub, Int.reduceMul, hi, w64 (n := (q : Int) + 1) (by omega), Int.natCast_add, Int.natCast_one]; omega)
      · simp only [go_sem, Nat.reduceBEq, Nat.reduceLT, Nat.reduceLeDiff, Nat.reduceAdd, Nat.reduceMul, Nat.reduceSub, Nat.reduceMod, Nat.reduceDiv, Nat.reduceEqDiff, Int.reduceToNat, reduceIte, reduceCtorEq, Int.reduceLE, Int.reduceLT, Int.reduceEq, Int.reduceNeg, Int.reduceAdd, Int.reduceSub, Int.reduceMul, hw, hs, hi, r1, b1, b3, ex, ey]
        refine ⟨by omega, (enough2_Q _ _ _ n Sq Bq x y least (by simp only [go_sem, Nat.reduceBEq, Nat.reduceLT, Nat.reduceLeDiff, Nat.reduceAdd, Nat.reduceMul, Nat.reduceSub, Nat.reduceMod, Nat.reduceDiv, Nat.reduceEqDiff, Int.reduceToNat, reduceIte, reduceCtorEq, Int.reduceLE, Int.reduceLT, Int.reduceEq, Int.reduceNeg, Int.reduceAdd, Int.reduceSub, Int.reduceMul]) (by omega) hR' hG' hB' x0 x8 y0 y8 (n + 2) (by simp only [go_sem, Nat.reduceBEq, Nat.reduceLT, Nat.reduceLeDiff, Nat.reduceAdd, Nat.reduceMul, Nat.reduceSub, Nat.reduceMod, Nat.reduceDiv, Nat.reduceEqDiff, Int.reduceToNat, reduceIte, reduceCtorEq, Int.reduceLE, Int.reduceLT, Int.reduceEq, Int.reduceNeg, Int.reduceAdd, Int.reduceSub, Int.reduceMul]) (by omega)).A ?_⟩
        by_cases hf : lvSum Sq Bq y x < least
        · have hf' : ¬ least ≤ lvSum Sq Bq y x := by omega
          simp only [go_sem, Nat.reduceBEq, Nat.reduceLT, Nat.reduceLeDiff, Nat.reduceAdd, Nat.reduceMul, Nat.reduceSub, Nat.reduceMod, Nat.reduceDiv, Nat.reduceEqDiff, Int.reduceToNat, reduceIte, reduceCtorEq, Int.reduceLE, Int.reduceLT, Int.reduceEq, Int.reduceNeg, Int.reduceAdd, Int.reduceSub, Int.reduceMul, hf', ↓hok.del (show n ≤ n + 3 by omega)]
          refine ⟨by omega, fun cap1 c1 c2 => ?_⟩
          simp only [go_sem, Nat.reduceBEq, Nat.reduceLT, Nat.reduceLeDiff, Nat.reduceAdd, Nat.reduceMul, Nat.reduceSub, Nat.reduceMod, Nat.reduceDiv, Nat.reduceEqDiff, Int.reduceToNat, reduceIte, reduceCtorEq, Int.reduceLE, Int.reduceLT, Int.reduceEq, Int.reduceNeg, Int.reduceAdd, Int.reduceSub, Int.reduceMul, hs, hi, r1, b1, b3, ex, ey]
          refine ⟨by omega, (enough2_Q _ _ _ n Sq B x y least (by simp only [go_sem, Nat.reduceBEq, Nat.reduceLT, Nat.reduceLeDiff, Nat.reduceAdd, Nat.reduceMul, Nat.reduceSub, Nat.reduceMod, Nat.reduceDiv, Nat.reduceEqDiff, Int.reduceToNat, reduceIte, reduceCtorEq, Int.reduceLE, Int.reduceLT, Int.reduceEq, Int.reduceNeg, Int.reduceAdd, Int.reduceSub, Int.reduceMul]) (by omega) hR' hG' hv.2 x0 x8 y0 y8 (n + 2) (by simp only [go_sem, Nat.reduceBEq, Nat.reduceLT, Nat.reduceLeDiff, Nat.reduceAdd, Nat.reduceMul, Nat.reduceSub, Nat.reduceMod, Nat.reduceDiv, Nat.reduceEqDiff, Int.reduceToNat, reduceIte, reduceCtorEq, Int.reduceLE, Int.reduceLT, Int.reduceEq, Int.reduceNeg, Int.reduceAdd, Int.reduceSub, Int.reduceMul]) (by omega)).A ?_⟩
          by_cases hf0 : lvSum Sq B y x < least
          · have hst : dipN S B least L (q + 1) = none := by rw [hsucc]; unfold dipStep; simp only [hx, hy, hw, hf, hf0, if_true, if_false, Bool.false_eq_true]
            have hf0' : ¬ least ≤ lvSum Sq B y x := by omega
            simp only [go_sem, Nat.reduceBEq, Nat.reduceLT, Nat.reduceLeDiff, Nat.reduceAdd, Nat.reduceMul, Nat.reduceSub, Nat.reduceMod, Nat.reduceDiv, Nat.reduceEqDiff, Int.reduceToNat, reduceIte, reduceCtorEq, Int.reduceLE, Int.reduceLT, Int.reduceEq, Int.reduceNeg, Int.reduceAdd, Int.reduceSub, Int.reduceMul, hf0']
            exact fun hok' => bad 6 (n + 6) _ _ _ _ _ (dipR_none hv ⟨hP, hd⟩ (dipN_end hst (by omega))) (by omega) (by omega) (by omega) (by simp only [go_sem, Nat.reduceBEq, Nat.reduceLT, Nat.reduceLeDiff, Nat.reduceAdd, Nat.reduceMul, Nat.reduceSub, Nat.reduceMod, Nat.reduceDiv, Nat.reduceEqDiff, Int.reduceToNat, reduceIte, reduceCtorEq, Int.reduceLE, Int.reduceLT, Int.reduceEq, Int.reduceNeg, Int.reduceAdd, Int.reduceSub, Int.reduceMul]; rfl) (by simp only [go_sem, Nat.reduceBEq, Nat.reduceLT, Nat.reduceLeDiff, Nat.reduceAdd, Nat.reduceMul, Nat.reduceSub, Nat.reduceMod, Nat.reduceDiv, Nat.reduceEqDiff, Int.reduceToNat, reduceIte, reduceCtorEq, Int.reduceLE, Int.reduceLT, Int.reduceEq, Int.reduceNeg, Int.reduceAdd, Int.reduceSub, Int.reduceMul, HExt_cons]) hok'
          · have hst : dipN S B least L (q + 1) = some (touchS Sq B y x, touchB Sq B y x, out ++ [(q : Int)]) := by rw [hsucc]; unfold dipStep; simp only [hx, hy, hw, hf, hf0, if_true, if_false, Bool.false_eq_true]
            have hf0' : least ≤ lvSum Sq B y x := by omega
            simp only [go_sem, Nat.reduceBEq, Nat.reduceLT, Nat.reduceLeDiff, Nat.reduceAdd, Nat.reduceMul, Nat.reduceSub, Nat.reduceMod, Nat.reduceDiv, Nat.reduceEqDiff, Int.reduceToNat, reduceIte, reduceCtorEq, Int.reduceLE, Int.reduceLT, Int.reduceEq, Int.reduceNeg, Int.reduceAdd, Int.reduceSub, Int.reduceMul, hf0', hs, hi, r1, b1, b3, ex, ey]
            refine ⟨by omega, callA_false (touch2_E _ _ _ n (n + 2) Sq B _ _ (by simp only [go_sem, Nat.reduceBEq, Nat.reduceLT, Nat.reduceLeDiff, Nat.reduceAdd, Nat.reduceMul, Nat.reduceSub, Nat.reduceMod, Nat.reduceDiv, Nat.reduceEqDiff, Int.reduceToNat, reduceIte, reduceCtorEq, Int.reduceLE, Int.reduceLT, Int.reduceEq, Int.reduceNeg, Int.reduceAdd, Int.reduceSub, Int.reduceMul]) (by omega) (by simp only [go_sem, Nat.reduceBEq, Nat.reduceLT, Nat.reduceLeDiff, Nat.reduceAdd, Nat.reduceMul, Nat.reduceSub, Nat.reduceMod, Nat.reduceDiv, Nat.reduceEqDiff, Int.reduceToNat, reduceIte, reduceCtorEq, Int.reduceLE, Int.reduceLT, Int.reduceEq, Int.reduceNeg, Int.reduceAdd, Int.reduceSub, Int.reduceMul]) (by omega) hR' hG' hv.2 x0 x8 y0 y8 (by simp only [go_sem, Nat.reduceBEq, Nat.reduceLT, Nat.reduceLeDiff, Nat.reduceAdd, Nat.reduceMul, Nat.reduceSub, Nat.reduceMod, Nat.reduceDiv, Nat.reduceEqDiff, Int.reduceToNat, reduceIte, reduceCtorEq, Int.reduceLE, Int.reduceLT, Int.reduceEq, Int.reduceNeg, Int.reduceAdd, Int.reduceSub, Int.reduceMul]) _ ?_)⟩
            simp only [go_sem, Nat.reduceBEq, Nat.reduceLT, Nat.reduceLeDiff, Nat.reduceAdd, Nat.reduceMul, Nat.reduceSub, Nat.reduceMod, Nat.reduceDiv, Nat.reduceEqDiff, Int.reduceToNat, reduceIte, reduceCtorEq, Int.reduceLE, Int.reduceLT, Int.reduceEq, Int.reduceNeg, Int.reduceAdd, Int.reduceSub, Int.reduceMul]
            refine ⟨⟨(q + 1, (touchS Sq B y x, touchB Sq B y x, out ++ [(q : Int)]), cap1), by show q + 1 ≤ L.length; omega, hst, by simpa using c1, c2⟩, by show L.length - (q + 1) < L.length - q; omega, ?_⟩
            exact imp_twoE (t' := ⟨out.length + 1, both out.length (intsC out) (news (upd (zrow (ti 2)) 0 (.int .i64 (q : Int))) 0), true, some (2, cap1)⟩) (n + 2) (n + 2) (n + 5) (Nat.le_add_right n 2) (ok2 (touchS Sq B y x)) (by simp only [go_sem, Nat.reduceBEq, Nat.reduceLT, Nat.reduceLeDiff, Nat.reduceAdd, Nat.reduceMul, Nat.reduceSub, Nat.reduceMod, Nat.reduceDiv, Nat.reduceEqDiff, Int.reduceToNat, reduceIte, reduceCtorEq, Int.reduceLE, Int.reduceLT, Int.reduceEq, Int.reduceNeg, Int.reduceAdd, Int.reduceSub, Int.reduceMul, HExt_cons]) (by omega) (by omega) (by omega) (by simp only [go_sem, Nat.reduceBEq, Nat.reduceLT, Nat.reduceLeDiff, Nat.reduceAdd, Nat.reduceMul, Nat.reduceSub, Nat.reduceMod, Nat.reduceDiv, Nat.reduceEqDiff, Int.reduceToNat, reduceIte, reduceCtorEq, Int.reduceLE, Int.reduceLT, Int.reduceEq, Int.reduceNeg, Int.reduceAdd, Int.reduceSub, Int.reduceMul]) (by simp only [go_sem, Nat.reduceBEq, Nat.reduceLT, Nat.reduceLeDiff, Nat.reduceAdd, Nat.reduceMul, Nat.reduceSub, Nat.reduceMod, Nat.reduceDiv, Nat.reduceEqDiff, Int.reduceToNat, reduceIte, reduceCtorEq, Int.reduceLE, Int.reduceLT, Int.reduceEq, Int.reduceNeg, Int.reduceAdd, Int.reduceSub, Int.reduceMul]) .rfl' ⟨by simp, by simp, by simp, fun k hk => intsC_push cap1 out _ hk⟩ (fun k hk => brC_flat _ hk) (fun k hk => trivial) (by simp only [go_sem, Nat.reduceBEq, Nat.reduceLT, Nat.reduceLeDiff, Nat.reduceAdd, Nat.reduceMul, Nat.reduceSub, Nat.reduceMod, Nat.reduceDiv, Nat.reduceEqDiff, Int.reduceToNat, reduceIte, reduceCtorEq, Int.reduceLE, Int.reduceLT, Int.reduceEq, Int.reduceNeg, Int.reduceAdd, Int.reduceSub, Int.reduceMul, hi, List.length_append, List.length_cons, List.length_nil, w64 (n := (q : Int) + 1) (by omega), Int.natCast_add, Int.natCast_one]; omega)
        · have hst : dipN S B least L (q + 1) = some (touchS Sq Bq y x, touchB Sq Bq y x, out) := by rw [hsucc]; unfold dipStep; simp only [hx, hy, hw, hf, if_true, if_false, Bool.false_eq_true]
          have hf' : least ≤ lvSum Sq Bq y x := by omega
          simp only [go_sem, Nat.reduceBEq, Nat.reduceLT, Nat.reduceLeDiff, Nat.reduceAdd, Nat.reduceMul, Nat.reduceSub, Nat.reduceMod, Nat.reduceDiv, Nat.reduceEqDiff, Int.reduceToNat, reduceIte, reduceCtorEq, Int.reduceLE, Int.reduceLT, Int.reduceEq, Int.reduceNeg, Int.reduceAdd, Int.reduceSub, Int.reduceMul, hf', hs, hi, r1, b1, b3, ex, ey]
          refine ⟨by omega, callA_false (touch2_E _ _ _ n (n + 2) Sq Bq _ _ (by simp only [go_sem, Nat.reduceBEq, Nat.reduceLT, Nat.reduceLeDiff, Nat.reduceAdd, Nat.reduceMul, Nat.reduceSub, Nat.reduceMod, Nat.reduceDiv, Nat.reduceEqDiff, Int.reduceToNat, reduceIte, reduceCtorEq, Int.reduceLE, Int.reduceLT, Int.reduceEq, Int.reduceNeg, Int.reduceAdd, Int.reduceSub, Int.reduceMul]) (by omega) (by simp only [go_sem, Nat.reduceBEq, Nat.reduceLT, Nat.reduceLeDiff, Nat.reduceAdd, Nat.reduceMul, Nat.reduceSub, Nat.reduceMod, Nat.reduceDiv, Nat.reduceEqDiff, Int.reduceToNat, reduceIte, reduceCtorEq, Int.reduceLE, Int.reduceLT, Int.reduceEq, Int.reduceNeg, Int.reduceAdd, Int.reduceSub, Int.reduceMul]) (by omega) hR' hG' hB' x0 x8 y0 y8 (by simp only [go_sem, Nat.reduceBEq, Nat.reduceLT, Nat.reduceLeDiff, Nat.reduceAdd, Nat.reduceMul, Nat.reduceSub, Nat.reduceMod, Nat.reduceDiv, Nat.reduceEqDiff, Int.reduceToNat, reduceIte, reduceCtorEq, Int.reduceLE, Int.reduceLT, Int.reduceEq, Int.reduceNeg, Int.reduceAdd, Int.reduceSub, Int.reduceMul]) _ ?_)⟩
          simp only [go_sem, Nat.reduceBEq, Nat.reduceLT, Nat.reduceLeDiff, Nat.reduceAdd, Nat.reduceMul, Nat.reduceSub, Nat.reduceMod, Nat.reduceDiv, Nat.reduceEqDiff, Int.reduceToNat, reduceIte, reduceCtorEq, Int.reduceLE, Int.reduceLT, Int.reduceEq, Int.reduceNeg, Int.reduceAdd, Int.reduceSub, Int.reduceMul]
          refine ⟨⟨(q + 1, (touchS Sq Bq y x, touchB Sq Bq y x, out), capo), by show q + 1 ≤ L.length; omega, hst, hcap, hmx⟩, by show L.length - (q + 1) < L.length - q; omega, ?_⟩
          exact imp_twoE (n + 2) (n + 2) (n + 3) (Nat.le_add_right n 2) (ok2 (touchS Sq Bq y x)) (by simp only [go_sem, Nat.reduceBEq, Nat.reduceLT, Nat.reduceLeDiff, Nat.reduceAdd, Nat.reduceMul, Nat.reduceSub, Nat.reduceMod, Nat.reduceDiv, Nat.reduceEqDiff, Int.reduceToNat, reduceIte, reduceCtorEq, Int.reduceLE, Int.reduceLT, Int.reduceEq, Int.reduceNeg, Int.reduceAdd, Int.reduceSub, Int.reduceMul, HExt_cons]) (by omega) (by omega) (by omega) (by simp only [go_sem, Nat.reduceBEq, Nat.reduceLT, Nat.reduceLeDiff, Nat.reduceAdd, Nat.reduceMul, Nat.reduceSub, Nat.reduceMod, Nat.reduceDiv, Nat.reduceEqDiff, Int.reduceToNat, reduceIte, reduceCtorEq, Int.reduceLE, Int.reduceLT, Int.reduceEq, Int.reduceNeg, Int.reduceAdd, Int.reduceSub, Int.reduceMul]) (by simp only [go_sem, Nat.reduceBEq, Nat.reduceLT, Nat.reduceLeDiff, Nat.reduceAdd, Nat.reduceMul, Nat.reduceSub, Nat.reduceMod, Nat.reduceDiv, Nat.reduceEqDiff, Int.reduceToNat, reduceIte, reduceCtorEq, Int.reduceLE, Int.reduceLT, Int.reduceEq, Int.reduceNeg, Int.reduceAdd, Int.reduceSub, Int.reduceMul]) .rfl' .rfl' (fun k hk => brC_flat _ hk) (fun k hk => trivial) (by simp only [go_sem, Nat.reduceBEq, Nat.reduceLT, Nat.reduceLeDiff, Nat.reduceAdd, Nat.reduceMul, Nat.reduceSub, Nat.reduceMod, Nat.reduceDiv, Nat.reduceEqDiff, Int.reduceToNat, reduceIte, reduceCtorEq, Int.reduceLE, Int.reduceLT, Int.reduceEq, Int.reduceNeg, Int.reduceAdd, Int.reduceSub, Int.reduceMul, hi, w64 (n := (q : Int) + 1) (by omega), Int.natCast_add, Int.natCast_one]; omega)
    · have hq' : q = L.length := by omega
      subst hq'
      intro hok'
      have hr := dipR_some hv ⟨hP, hd⟩ he
      have := hK (.sl (n + 3) 0 out.length capo) _ _ (Nat.le_add_right n 4) (by simp only [go_sem, Nat.reduceBEq, Nat.reduceLT, Nat.reduceLeDiff, Nat.reduceAdd, Nat.reduceMul, Nat.reduceSub, Nat.reduceMod, Nat.reduceDiv, Nat.reduceEqDiff, Int.reduceToNat, reduceIte, reduceCtorEq, Int.reduceLE, Int.reduceLT, Int.reduceEq, Int.reduceNeg, Int.reduceAdd, Int.reduceSub, Int.reduceMul, HExt_cons]) hok' (by rw [hr]; exact .inr ⟨n + 3, capo, _, rfl, by omega, by omega, hget_hit _ _ _, rfl, rfl, fun k hk => rfl⟩)
      rw [hr] at this
      exact this
end
end Go.Proofs.Ytebpkdolmlloaaa.V

/- The law of DipsFor: the walk. -/
namespace Go.Proofs.Ytebpkdolmlloaaa.V
theorem HExt.tr {m m' : Nat} {a b c : List (Nat × Seg)} (h1 : HExt m a b) (h2 : HExt m' b c) (hm : m ≤ m') : HExt m a c := fun i hi t ht => h2 i (by omega) t (h1 i hi t ht)
theorem dipR_len {S : Sh} {B : Br} {L : List (Int × Int)} {least : Int} (hR : ShR S) : (dipR S B L least).1.length ≤ 80 := by
  by_cases h : Valid S ∧ BrV B
  · by_cases h2 : PathP S L ∧ 1 ≤ least ∧ least ≤ 3000
    · cases e : dipN S B least L L.length with
      | none => rw [dipR_none h h2 e]; simp
      | some p =>
        rw [dipR_some h h2 e]
        have := (dipN_ok h2.1.2.2 h.1.1 (h.1.ok h.2 hR) L.length p (Nat.le_refl _) e).len
        have h80 := h2.1.2.1.2
        simp only
        omega
    · rw [dipR_range h h2]; simp
  · rw [dipR_bad h]; simp
section
variable (cx : Cx) (h : List (Nat × Seg)) (n : Nat)
theorem lawDips_Q (F : Nat → SV) (S : Sh) (hF : ShF F S) (B : Br) (hB : BrR B) (A : SV) (L : List (Int × Int)) (hA : SpsArg h n A L) (hLR : SpotsR L) (hl : L.length ≤ 9223372036854775807) (least : Int) :
    CallQ Try.prog cx 4 [.agg 266 F, .agg 5 (brC B), A, .int .i64 least] h n (.bool true) := by
  have hone := hF.ones
  have hAo := hA.ok
  have hRl := dipR_len (B := B) (L := L) (least := least) hF.R
  refine callQ_of_T (P := Try.prog) hti (nt := 117) (rs := [.tmp 8]) rfl rfl Try.call4 Try.func4 rfl _ (by simp only [go_sem, hAo]) (Nat.le_of_ble_eq_true rfl) _ (by trivial) fun hok => ?_
  simp only [go_sem, Nat.reduceBEq, Nat.reduceLT, Nat.reduceLeDiff, Nat.reduceAdd, Nat.reduceMul, Nat.reduceSub, Nat.reduceMod, Nat.reduceDiv, Nat.reduceEqDiff, Int.reduceToNat, reduceIte, reduceCtorEq, Int.reduceLE, Int.reduceLT, Int.reduceEq, Int.reduceNeg, Int.reduceAdd, Int.reduceSub, Int.reduceMul, hone, hAo]
  refine (szSpotS_Q _ _ _ A L (hA.ext (by omega) (by simp only [go_sem, Nat.reduceBEq, Nat.reduceLT, Nat.reduceLeDiff, Nat.reduceAdd, Nat.reduceMul, Nat.reduceSub, Nat.reduceMod, Nat.reduceDiv, Nat.reduceEqDiff, Int.reduceToNat, reduceIte, reduceCtorEq, Int.reduceLE, Int.reduceLT, Int.reduceEq, Int.reduceNeg, Int.reduceAdd, Int.reduceSub, Int.reduceMul, HExt_cons])) 1048576 (by omega) (by omega)).A ?_
  by_cases hbig : (1048576 : Int) - L.length < 0
  · simp only [go_sem, Nat.reduceBEq, Nat.reduceLT, Nat.reduceLeDiff, Nat.reduceAdd, Nat.reduceMul, Nat.reduceSub, Nat.reduceMod, Nat.reduceDiv, Nat.reduceEqDiff, Int.reduceToNat, reduceIte, reduceCtorEq, Int.reduceLE, Int.reduceLT, Int.reduceEq, Int.reduceNeg, Int.reduceAdd, Int.reduceSub, Int.reduceMul, hbig]
  have hm9 : L.length ≤ 1000000000 := by omega
  simp only [go_sem, Nat.reduceBEq, Nat.reduceLT, Nat.reduceLeDiff, Nat.reduceAdd, Nat.reduceMul, Nat.reduceSub, Nat.reduceMod, Nat.reduceDiv, Nat.reduceEqDiff, Int.reduceToNat, reduceIte, reduceCtorEq, Int.reduceLE, Int.reduceLT, Int.reduceEq, Int.reduceNeg, Int.reduceAdd, Int.reduceSub, Int.reduceMul, hbig]
  generalize hRR : (dipR S B L least).1 = R at hRl
  generalize hcc : (dipR S B L least).2 = c
  refine T_drawG hti 13 [] (.b 0 0 (.b 0 2 (.b 0 4 (.b 0 6 (.b 1 1 (.b 1 3 (.b 2 5 (.b 2 7 (.b 0 8 (.b 0 9 (.b 0 10 (.b 0 11 (.b 0 12 (.f) .o) .o) .o) .o) .o) .o) .o) .o) .o) .o) .o) .o) .o) _ _ (by kernel_rfl) (by kernel_rfl) ?_
  simp only [go_sem, Nat.reduceBEq, Nat.reduceLT, Nat.reduceLeDiff, Nat.reduceAdd, Nat.reduceMul, Nat.reduceSub, Nat.reduceMod, Nat.reduceDiv, Nat.reduceEqDiff, Int.reduceToNat, reduceIte, reduceCtorEq, Int.reduceLE, Int.reduceLT, Int.reduceEq, Int.reduceNeg, Int.reduceAdd, Int.reduceSub, Int.reduceMul, hone, hAo]
  refine CallQ.F _ (fun h' n' hn hx => toSheet_Q _ h' n' F S hF) ?_
  simp only [go_sem, Nat.reduceBEq, Nat.reduceLT, Nat.reduceLeDiff, Nat.reduceAdd, Nat.reduceMul, Nat.reduceSub, Nat.reduceMod, Nat.reduceDiv, Nat.reduceEqDiff, Int.reduceToNat, reduceIte, reduceCtorEq, Int.reduceLE, Int.reduceLT, Int.reduceEq, Int.reduceNeg, Int.reduceAdd, Int.reduceSub, Int.reduceMul, hone, hAo]
  refine CallQ.F _ (fun h' n' hn hx => toBrush_Q _ h' n' B) ?_
  simp only [go_sem, Nat.reduceBEq, Nat.reduceLT, Nat.reduceLeDiff, Nat.reduceAdd, Nat.reduceMul, Nat.reduceSub, Nat.reduceMod, Nat.reduceDiv, Nat.reduceEqDiff, Int.reduceToNat, reduceIte, reduceCtorEq, Int.reduceLE, Int.reduceLT, Int.reduceEq, Int.reduceNeg, Int.reduceAdd, Int.reduceSub, Int.reduceMul, hone, hAo]
  refine callA_false (toSpotS_E _ _ _ A L (hA.ext (by omega) (by simp only [go_sem, Nat.reduceBEq, Nat.reduceLT, Nat.reduceLeDiff, Nat.reduceAdd, Nat.reduceMul, Nat.reduceSub, Nat.reduceMod, Nat.reduceDiv, Nat.reduceEqDiff, Int.reduceToNat, reduceIte, reduceCtorEq, Int.reduceLE, Int.reduceLT, Int.reduceEq, Int.reduceNeg, Int.reduceAdd, Int.reduceSub, Int.reduceMul, HExt_cons])) hm9 _ ?_)
  simp only [go_sem, Nat.reduceBEq, Nat.reduceLT, Nat.reduceLeDiff, Nat.reduceAdd, Nat.reduceMul, Nat.reduceSub, Nat.reduceMod, Nat.reduceDiv, Nat.reduceEqDiff, Int.reduceToNat, reduceIte, reduceCtorEq, Int.reduceLE, Int.reduceLT, Int.reduceEq, Int.reduceNeg, Int.reduceAdd, Int.reduceSub, Int.reduceMul, hone, hAo]
  refine callA_false (dips2_E _ _ _ (n + 2) L.length L (spsS L) (by simp only [go_sem, Nat.reduceBEq, Nat.reduceLT, Nat.reduceLeDiff, Nat.reduceAdd, Nat.reduceMul, Nat.reduceSub, Nat.reduceMod, Nat.reduceDiv, Nat.reduceEqDiff, Int.reduceToNat, reduceIte, reduceCtorEq, Int.reduceLE, Int.reduceLT, Int.reduceEq, Int.reduceNeg, Int.reduceAdd, Int.reduceSub, Int.reduceMul]) (by omega) (spsAt_spsS L) hm9 S B hF.R hB least hLR _ ?_)
  intro V1 h1 n1 hn1 hx1 ok1 I1
  rw [hRR] at I1
  rw [hcc]
  have V1o := I1.ok
  have g10 : hget h1 n = some ⟨266, F, true, none⟩ := hx1 n (by omega) _ (by simp only [go_sem, Nat.reduceBEq, Nat.reduceLT, Nat.reduceLeDiff, Nat.reduceAdd, Nat.reduceMul, Nat.reduceSub, Nat.reduceMod, Nat.reduceDiv, Nat.reduceEqDiff, Int.reduceToNat, reduceIte, reduceCtorEq, Int.reduceLE, Int.reduceLT, Int.reduceEq, Int.reduceNeg, Int.reduceAdd, Int.reduceSub, Int.reduceMul])
  have g11 : hget h1 (n + 1) = some (brS B) := hx1 (n + 1) (by omega) _ (by simp only [go_sem, Nat.reduceBEq, Nat.reduceLT, Nat.reduceLeDiff, Nat.reduceAdd, Nat.reduceMul, Nat.reduceSub, Nat.reduceMod, Nat.reduceDiv, Nat.reduceEqDiff, Int.reduceToNat, reduceIte, reduceCtorEq, Int.reduceLE, Int.reduceLT, Int.reduceEq, Int.reduceNeg, Int.reduceAdd, Int.reduceSub, Int.reduceMul])
  have X1 : HExt n h h1 := HExt.tr (m' := n + 3) (by simp only [go_sem, Nat.reduceBEq, Nat.reduceLT, Nat.reduceLeDiff, Nat.reduceAdd, Nat.reduceMul, Nat.reduceSub, Nat.reduceMod, Nat.reduceDiv, Nat.reduceEqDiff, Int.reduceToNat, reduceIte, reduceCtorEq, Int.reduceLE, Int.reduceLT, Int.reduceEq, Int.reduceNeg, Int.reduceAdd, Int.reduceSub, Int.reduceMul, HExt_cons]) hx1 (by omega)
  simp only [go_sem, Nat.reduceBEq, Nat.reduceLT, Nat.reduceLeDiff, Nat.reduceAdd, Nat.reduceMul, Nat.reduceSub, Nat.reduceMod, Nat.reduceDiv, Nat.reduceEqDiff, Int.reduceToNat, reduceIte, reduceCtorEq, Int.reduceLE, Int.reduceLT, Int.reduceEq, Int.reduceNeg, Int.reduceAdd, Int.reduceSub, Int.reduceMul, V1o, hAo]
  refine ⟨⟨by omega, by first | exact hx1 | exact fun i hi t ht => hx1 i (by omega) t (by simp only [go_sem, Nat.reduceBEq, Nat.reduceLT, Nat.reduceLeDiff, Nat.reduceAdd, Nat.reduceMul, Nat.reduceSub, Nat.reduceMod, Nat.reduceDiv, Nat.reduceEqDiff, Int.reduceToNat, reduceIte, reduceCtorEq, Int.reduceLE, Int.reduceLT, Int.reduceEq, Int.reduceNeg, Int.reduceAdd, Int.reduceSub, Int.reduceMul, ht])⟩, ?_⟩
  refine callA_false (toSpotS_E _ _ _ A L (hA.ext (by omega) X1) hm9 _ ?_)
  have ne0 : (n1 == n) = false := by simp; omega
  have ne1 : (n1 == n + 1) = false := by simp; omega
  simp only [go_sem, Nat.reduceBEq, Nat.reduceLT, Nat.reduceLeDiff, Nat.reduceAdd, Nat.reduceMul, Nat.reduceSub, Nat.reduceMod, Nat.reduceDiv, Nat.reduceEqDiff, Int.reduceToNat, reduceIte, reduceCtorEq, Int.reduceLE, Int.reduceLT, Int.reduceEq, Int.reduceNeg, Int.reduceAdd, Int.reduceSub, Int.reduceMul, V1o, hAo]
  refine T_drawG hti 12 [] (.b 0 0 (.b 0 2 (.b 0 4 (.b 0 5 (.b 1 1 (.b 1 3 (.b 2 6 (.b 0 7 (.b 0 8 (.b 0 9 (.b 0 10 (.b 0 11 (.f) .o) .o) .o) .o) .o) .o) .o) .o) .o) .o) .o) .o) _ _ (by kernel_rfl) (by kernel_rfl) ?_
  simp only [go_sem, Nat.reduceBEq, Nat.reduceLT, Nat.reduceLeDiff, Nat.reduceAdd, Nat.reduceMul, Nat.reduceSub, Nat.reduceMod, Nat.reduceDiv, Nat.reduceEqDiff, Int.reduceToNat, reduceIte, reduceCtorEq, Int.reduceLE, Int.reduceLT, Int.reduceEq, Int.reduceNeg, Int.reduceAdd, Int.reduceSub, Int.reduceMul, hone, hAo, g10, g11, ne0, ne1]
  refine CallQ.F _ (fun h' n' hn hx => toSheet_Q _ h' n' F S hF) ?_
  simp only [go_sem, Nat.reduceBEq, Nat.reduceLT, Nat.reduceLeDiff, Nat.reduceAdd, Nat.reduceMul, Nat.reduceSub, Nat.reduceMod, Nat.reduceDiv, Nat.reduceEqDiff, Int.reduceToNat, reduceIte, reduceCtorEq, Int.reduceLE, Int.reduceLT, Int.reduceEq, Int.reduceNeg, Int.reduceAdd, Int.reduceSub, Int.reduceMul, hone, hAo, g10, g11, ne0, ne1]
  refine CallQ.F _ (fun h' n' hn hx => toBrush_Q _ h' n' B) ?_
  simp only [go_sem, Nat.reduceBEq, Nat.reduceLT, Nat.reduceLeDiff, Nat.reduceAdd, Nat.reduceMul, Nat.reduceSub, Nat.reduceMod, Nat.reduceDiv, Nat.reduceEqDiff, Int.reduceToNat, reduceIte, reduceCtorEq, Int.reduceLE, Int.reduceLT, Int.reduceEq, Int.reduceNeg, Int.reduceAdd, Int.reduceSub, Int.reduceMul, hone, hAo]
  refine callA_false (dips_E _ _ _ n1 L.length L (spsS L) (by simp only [go_sem, Nat.reduceBEq, Nat.reduceLT, Nat.reduceLeDiff, Nat.reduceAdd, Nat.reduceMul, Nat.reduceSub, Nat.reduceMod, Nat.reduceDiv, Nat.reduceEqDiff, Int.reduceToNat, reduceIte, reduceCtorEq, Int.reduceLE, Int.reduceLT, Int.reduceEq, Int.reduceNeg, Int.reduceAdd, Int.reduceSub, Int.reduceMul]) (by omega) (spsAt_spsS L) hm9 S B hF.R hB least _ ?_)
  intro V2 h2 n2 hn2 hx2 ok2 I2
  rw [hRR] at I2
  rw [hcc]
  have V2o := I2.ok
  have x2 : HExt n1 h1 h2 := HExt.tr (m' := n1 + 1) (by simp only [go_sem, Nat.reduceBEq, Nat.reduceLT, Nat.reduceLeDiff, Nat.reduceAdd, Nat.reduceMul, Nat.reduceSub, Nat.reduceMod, Nat.reduceDiv, Nat.reduceEqDiff, Int.reduceToNat, reduceIte, reduceCtorEq, Int.reduceLE, Int.reduceLT, Int.reduceEq, Int.reduceNeg, Int.reduceAdd, Int.reduceSub, Int.reduceMul, HExt_cons]) hx2 (by omega)
  have X2 := X1.tr x2 (by omega)
  have g21 : hget h2 n1 = some (spsS L) := hx2 n1 (by omega) _ (by simp only [go_sem, Nat.reduceBEq, Nat.reduceLT, Nat.reduceLeDiff, Nat.reduceAdd, Nat.reduceMul, Nat.reduceSub, Nat.reduceMod, Nat.reduceDiv, Nat.reduceEqDiff, Int.reduceToNat, reduceIte, reduceCtorEq, Int.reduceLE, Int.reduceLT, Int.reduceEq, Int.reduceNeg, Int.reduceAdd, Int.reduceSub, Int.reduceMul])
  simp only [go_sem, Nat.reduceBEq, Nat.reduceLT, Nat.reduceLeDiff, Nat.reduceAdd, Nat.reduceMul, Nat.reduceSub, Nat.reduceMod, Nat.reduceDiv, Nat.reduceEqDiff, Int.reduceToNat, reduceIte, reduceCtorEq, Int.reduceLE, Int.reduceLT, Int.reduceEq, Int.reduceNeg, Int.reduceAdd, Int.reduceSub, Int.reduceMul, V1o, V2o, hAo]
  refine ⟨⟨by omega, hx2⟩, ?_⟩
  refine (eqInt64S_Q _ _ _ V2 V1 R _ _ I2 (I1.ext (by omega) x2) (by omega)).A ?_
  simp only [go_sem, Nat.reduceBEq, Nat.reduceLT, Nat.reduceLeDiff, Nat.reduceAdd, Nat.reduceMul, Nat.reduceSub, Nat.reduceMod, Nat.reduceDiv, Nat.reduceEqDiff, Int.reduceToNat, reduceIte, reduceCtorEq, Int.reduceLE, Int.reduceLT, Int.reduceEq, Int.reduceNeg, Int.reduceAdd, Int.reduceSub, Int.reduceMul, V1o, V2o, hAo]
  refine callA_false (toSpotS_E _ _ _ A L (hA.ext (by omega) X2) hm9 _ ?_)
  have ne2 : (n2 == n1) = false := by simp; omega
  simp only [go_sem, Nat.reduceBEq, Nat.reduceLT, Nat.reduceLeDiff, Nat.reduceAdd, Nat.reduceMul, Nat.reduceSub, Nat.reduceMod, Nat.reduceDiv, Nat.reduceEqDiff, Int.reduceToNat, reduceIte, reduceCtorEq, Int.reduceLE, Int.reduceLT, Int.reduceEq, Int.reduceNeg, Int.reduceAdd, Int.reduceSub, Int.reduceMul, V1o, V2o, hAo]
  refine (eqSpotS_Q _ _ _ n1 L.length n2 L.length L (spsS L) (spsS L) (by simp only [go_sem, Nat.reduceBEq, Nat.reduceLT, Nat.reduceLeDiff, Nat.reduceAdd, Nat.reduceMul, Nat.reduceSub, Nat.reduceMod, Nat.reduceDiv, Nat.reduceEqDiff, Int.reduceToNat, reduceIte, reduceCtorEq, Int.reduceLE, Int.reduceLT, Int.reduceEq, Int.reduceNeg, Int.reduceAdd, Int.reduceSub, Int.reduceMul, g21, ne2]) (by omega) (spsAt_spsS L) (by simp only [go_sem, Nat.reduceBEq, Nat.reduceLT, Nat.reduceLeDiff, Nat.reduceAdd, Nat.reduceMul, Nat.reduceSub, Nat.reduceMod, Nat.reduceDiv, Nat.reduceEqDiff, Int.reduceToNat, reduceIte, reduceCtorEq, Int.reduceLE, Int.reduceLT, Int.reduceEq, Int.reduceNeg, Int.reduceAdd, Int.reduceSub, Int.reduceMul]) (by omega) (spsAt_spsS L) hm9).A ?_
  simp only [go_sem, Nat.reduceBEq, Nat.reduceLT, Nat.reduceLeDiff, Nat.reduceAdd, Nat.reduceMul, Nat.reduceSub, Nat.reduceMod, Nat.reduceDiv, Nat.reduceEqDiff, Int.reduceToNat, reduceIte, reduceCtorEq, Int.reduceLE, Int.reduceLT, Int.reduceEq, Int.reduceNeg, Int.reduceAdd, Int.reduceSub, Int.reduceMul, V1o, V2o, hAo]
  refine callA_false (markSpotS_E _ _ _ n1 L.length L (spsS L) (by simp only [go_sem, Nat.reduceBEq, Nat.reduceLT, Nat.reduceLeDiff, Nat.reduceAdd, Nat.reduceMul, Nat.reduceSub, Nat.reduceMod, Nat.reduceDiv, Nat.reduceEqDiff, Int.reduceToNat, reduceIte, reduceCtorEq, Int.reduceLE, Int.reduceLT, Int.reduceEq, Int.reduceNeg, Int.reduceAdd, Int.reduceSub, Int.reduceMul, g21, ne2]) (by omega) rfl (spsAt_spsS L) (fun k hk => spotsC_flat _ _) hm9 _ ?_)
  intro h3 ok3 same3
  have s3 : ∀ i, i ≠ n1 → i ≠ n2 → hget h3 i = hget h2 i := fun i hi hi2 => by rw [same3 i hi]; simp only [hget]; rw [if_neg (fun e => hi2 e.symm)]
  have x3 : HExt n1 h1 h3 := fun i hi t ht => by rw [s3 i (by omega) (by omega)]; exact x2 i hi t ht
  have I13 : IntsOut h3 (n + 3) (n2 + 1) V1 R := I1.ext (by omega) x3
  have I23 : IntsOut h3 (n1 + 1) (n2 + 1) V2 R := I2.mono (by omega) fun i h1 h2 t ht => by rw [s3 i (by omega) (by omega)]; exact ht
  have pos : ¬ (2 * (L.length : Int) + 1 < 0) := by omega
  simp only [go_sem, Nat.reduceBEq, Nat.reduceLT, Nat.reduceLeDiff, Nat.reduceAdd, Nat.reduceMul, Nat.reduceSub, Nat.reduceMod, Nat.reduceDiv, Nat.reduceEqDiff, Int.reduceToNat, reduceIte, reduceCtorEq, Int.reduceLE, Int.reduceLT, Int.reduceEq, Int.reduceNeg, Int.reduceAdd, Int.reduceSub, Int.reduceMul, V1o, V2o, hAo, pos]
  refine (eqInt64S_Q _ _ _ V2 V1 R _ _ I23 I13 (by omega)).A ?_
  simp only [go_sem, Nat.reduceBEq, Nat.reduceLT, Nat.reduceLeDiff, Nat.reduceAdd, Nat.reduceMul, Nat.reduceSub, Nat.reduceMod, Nat.reduceDiv, Nat.reduceEqDiff, Int.reduceToNat, reduceIte, reduceCtorEq, Int.reduceLE, Int.reduceLT, Int.reduceEq, Int.reduceNeg, Int.reduceAdd, Int.reduceSub, Int.reduceMul, V1o, V2o, hAo, pos]
  refine callA_false (markInt64S_E _ _ _ V2 R (n1 + 1) I23 (by omega) _ ?_)
  intro h4 ok4 keep4 I24
  have x4 : HExt n1 h1 h4 := keep4 _ _ (by omega) x3
  have X4 : HExt n h h4 := X1.tr x4 (by omega)
  have I14 : IntsOut h4 (n + 3) (n2 + 1) V1 R := I1.ext (by omega) x4
  have g40 : hget h4 n = some ⟨266, F, true, none⟩ := x4 n (by omega) _ g10
  have g41 : hget h4 (n + 1) = some (brS B) := x4 (n + 1) (by omega) _ g11
  have posr : ¬ ((R.length : Int) + 1 < 0) := by omega
  simp only [go_sem, Nat.reduceBEq, Nat.reduceLT, Nat.reduceLeDiff, Nat.reduceAdd, Nat.reduceMul, Nat.reduceSub, Nat.reduceMod, Nat.reduceDiv, Nat.reduceEqDiff, Int.reduceToNat, reduceIte, reduceCtorEq, Int.reduceLE, Int.reduceLT, Int.reduceEq, Int.reduceNeg, Int.reduceAdd, Int.reduceSub, Int.reduceMul, V1o, V2o, hAo]
  refine (held_Q _ _ _ V2 R.length _ I24 (by omega)).A ?_
  simp only [go_sem, Nat.reduceBEq, Nat.reduceLT, Nat.reduceLeDiff, Nat.reduceAdd, Nat.reduceMul, Nat.reduceSub, Nat.reduceMod, Nat.reduceDiv, Nat.reduceEqDiff, Int.reduceToNat, reduceIte, reduceCtorEq, Int.reduceLE, Int.reduceLT, Int.reduceEq, Int.reduceNeg, Int.reduceAdd, Int.reduceSub, Int.reduceMul, V1o, V2o, hAo, posr]
  refine T_drawG hti 13 [] (.b 0 0 (.b 0 2 (.b 0 4 (.b 0 6 (.b 1 1 (.b 1 3 (.b 2 5 (.b 2 7 (.b 0 8 (.b 0 9 (.b 0 10 (.b 0 11 (.b 0 12 (.f) .o) .o) .o) .o) .o) .o) .o) .o) .o) .o) .o) .o) .o) _ _ (by kernel_rfl) (by kernel_rfl) ?_
  simp only [go_sem, Nat.reduceBEq, Nat.reduceLT, Nat.reduceLeDiff, Nat.reduceAdd, Nat.reduceMul, Nat.reduceSub, Nat.reduceMod, Nat.reduceDiv, Nat.reduceEqDiff, Int.reduceToNat, reduceIte, reduceCtorEq, Int.reduceLE, Int.reduceLT, Int.reduceEq, Int.reduceNeg, Int.reduceAdd, Int.reduceSub, Int.reduceMul, hone, hAo, g40, g41]
  refine CallQ.F _ (fun h' n' hn hx => toSheet_Q _ h' n' F S hF) ?_
  simp only [go_sem, Nat.reduceBEq, Nat.reduceLT, Nat.reduceLeDiff, Nat.reduceAdd, Nat.reduceMul, Nat.reduceSub, Nat.reduceMod, Nat.reduceDiv, Nat.reduceEqDiff, Int.reduceToNat, reduceIte, reduceCtorEq, Int.reduceLE, Int.reduceLT, Int.reduceEq, Int.reduceNeg, Int.reduceAdd, Int.reduceSub, Int.reduceMul, hone, hAo, g40, g41]
  refine CallQ.F _ (fun h' n' hn hx => toBrush_Q _ h' n' B) ?_
  simp only [go_sem, Nat.reduceBEq, Nat.reduceLT, Nat.reduceLeDiff, Nat.reduceAdd, Nat.reduceMul, Nat.reduceSub, Nat.reduceMod, Nat.reduceDiv, Nat.reduceEqDiff, Int.reduceToNat, reduceIte, reduceCtorEq, Int.reduceLE, Int.reduceLT, Int.reduceEq, Int.reduceNeg, Int.reduceAdd, Int.reduceSub, Int.reduceMul, hone, hAo]
  refine callA_false (toSpotS_E _ _ _ A L (hA.ext (by omega) X4) hm9 _ ?_)
  simp only [go_sem, Nat.reduceBEq, Nat.reduceLT, Nat.reduceLeDiff, Nat.reduceAdd, Nat.reduceMul, Nat.reduceSub, Nat.reduceMod, Nat.reduceDiv, Nat.reduceEqDiff, Int.reduceToNat, reduceIte, reduceCtorEq, Int.reduceLE, Int.reduceLT, Int.reduceEq, Int.reduceNeg, Int.reduceAdd, Int.reduceSub, Int.reduceMul, hone, hAo]
  refine callA_false (dips_E _ _ _ (n2 + 1) L.length L (spsS L) (by simp only [go_sem, Nat.reduceBEq, Nat.reduceLT, Nat.reduceLeDiff, Nat.reduceAdd, Nat.reduceMul, Nat.reduceSub, Nat.reduceMod, Nat.reduceDiv, Nat.reduceEqDiff, Int.reduceToNat, reduceIte, reduceCtorEq, Int.reduceLE, Int.reduceLT, Int.reduceEq, Int.reduceNeg, Int.reduceAdd, Int.reduceSub, Int.reduceMul]) (by omega) (spsAt_spsS L) hm9 S B hF.R hB least _ ?_)
  intro V3 h5 n5 hn5 hx5 ok5 I35
  rw [hRR] at I35
  rw [hcc]
  have V3o := I35.ok
  have x5 : HExt (n2 + 1) h4 h5 := HExt.tr (m' := n2 + 2) (by simp only [go_sem, Nat.reduceBEq, Nat.reduceLT, Nat.reduceLeDiff, Nat.reduceAdd, Nat.reduceMul, Nat.reduceSub, Nat.reduceMod, Nat.reduceDiv, Nat.reduceEqDiff, Int.reduceToNat, reduceIte, reduceCtorEq, Int.reduceLE, Int.reduceLT, Int.reduceEq, Int.reduceNeg, Int.reduceAdd, Int.reduceSub, Int.reduceMul, HExt_cons]) hx5 (by omega)
  have X5 := X4.tr x5 (by omega)
  simp only [go_sem, Nat.reduceBEq, Nat.reduceLT, Nat.reduceLeDiff, Nat.reduceAdd, Nat.reduceMul, Nat.reduceSub, Nat.reduceMod, Nat.reduceDiv, Nat.reduceEqDiff, Int.reduceToNat, reduceIte, reduceCtorEq, Int.reduceLE, Int.reduceLT, Int.reduceEq, Int.reduceNeg, Int.reduceAdd, Int.reduceSub, Int.reduceMul, V1o, V2o, V3o, hAo]
  refine ⟨⟨by omega, hx5⟩, ?_⟩
  refine (eqInt64S_Q _ _ _ V3 V1 R _ _ I35 (I14.ext (by omega) x5) (by omega)).A ?_
  simp only [go_sem, Nat.reduceBEq, Nat.reduceLT, Nat.reduceLeDiff, Nat.reduceAdd, Nat.reduceMul, Nat.reduceSub, Nat.reduceMod, Nat.reduceDiv, Nat.reduceEqDiff, Int.reduceToNat, reduceIte, reduceCtorEq, Int.reduceLE, Int.reduceLT, Int.reduceEq, Int.reduceNeg, Int.reduceAdd, Int.reduceSub, Int.reduceMul, V1o, V2o, V3o, hAo]
  refine (held_Q _ _ _ V2 R.length _ (I24.ext (by omega) x5) (by omega)).A ?_
  simp only [go_sem, Nat.reduceBEq, Nat.reduceLT, Nat.reduceLeDiff, Nat.reduceAdd, Nat.reduceMul, Nat.reduceSub, Nat.reduceMod, Nat.reduceDiv, Nat.reduceEqDiff, Int.reduceToNat, reduceIte, reduceCtorEq, Int.reduceLE, Int.reduceLT, Int.reduceEq, Int.reduceNeg, Int.reduceAdd, Int.reduceSub, Int.reduceMul, V1o, V2o, V3o, hAo, posr]
  exact X5
end
end Go.Proofs.Ytebpkdolmlloaaa.V
