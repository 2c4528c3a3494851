/- Part 6 of the texts that this proof stands on: a symbolic walk over the program, what its functions and the reference's do, plain laws. -/
import Derived.Test.YtnbpgkidphdcdaaZice
import Derived.Test.YtnbpgkidphdcdaaZicc
import Derived.Test.YtnbpgkidphdcdaaZicb
set_option linter.all false

/- Lists of cells: the program's own walk, on. -/
namespace Go.Proofs.Ytnbpgkidphdcdaa.V
def eqP (a : Int × Int) : Int → Int → Bool := fun x y => decide (a.1 = x) && decide (a.2 = y)
theorem eqP_iff {a b : Int × Int} : eqP a b.1 b.2 = true ↔ a = b := by simp [eqP, Prod.ext_iff]
theorem any_eqP (a : Int × Int) (L : List (Int × Int)) : (L.any fun b => eqP a b.1 b.2) = decide (a ∈ L) := by
  rw [Bool.eq_iff_iff, List.any_eq_true, decide_eq_true_eq]
  exact ⟨fun ⟨b, hb, e⟩ => (eqP_iff.1 e) ▸ hb, fun h => ⟨a, h, eqP_iff.2 rfl⟩⟩
section
variable (cx : Cx) (h : List (Nat × Seg)) (n : Nat)
theorem indexSp_Q (i m cap : Nat) (L : List (Int × Int)) (s : Seg) (a : Int × Int) (r : Int)
    (hs : hget h i = some s) (hi : i < n) (hm : L.length = m) (hm9 : m ≤ 1000000000) (hn : m * 2 ≤ s.n) (hc : ∀ k, k < m * 2 → s.c k = spotsC L k)
    (hr0 : r = -1 → ∀ j, j < m → eqP a (L.getD j (0, 0)).1 (L.getD j (0, 0)).2 = false) (hr1 : r ≠ -1 → 0 ≤ r ∧ r < m ∧ eqP a (L.getD r.toNat (0, 0)).1 (L.getD r.toNat (0, 0)).2 = true ∧ ∀ j : Nat, (j : Int) < r → eqP a (L.getD j (0, 0)).1 (L.getD j (0, 0)).2 = false) :
    CallQ Try.prog cx 102 [.sl i 0 m cap, spot a.1 a.2] h n (.int .i64 r) := by
  have hni : n ≠ i := by omega
  refine callQ_of_T (P := Try.prog) hti (nt := 19) (rs := [.tmp 4]) rfl rfl Try.call102 Try.func102 rfl _ (by simp only [go_sem, and_self]) (Nat.le_of_ble_eq_true rfl) _ (by first | exact trivial | (refine lt_flat rfl ?_; simp [SV.flat]; done) | simp only [go_sem]) fun hok => ?_
  simp only [go_sem, Nat.reduceBEq, Nat.reduceLT, Nat.reduceLeDiff, Nat.reduceAdd, Nat.reduceMul, Nat.reduceSub, Nat.reduceMod, Nat.reduceDiv, Nat.reduceEqDiff, Int.reduceToNat, reduceIte, reduceCtorEq, Int.reduceLE, Int.reduceLT, Int.reduceEq, Int.reduceNeg, Int.reduceAdd, Int.reduceSub, Int.reduceMul]
  refine T_lp (ι := { j : Nat // j ≤ m ∧ ∀ k, k < j → eqP a (L.getD k (0, 0)).1 (L.getD k (0, 0)).2 = false })
    (fun j => ([(0, .sl i 0 m cap), (3, .ptr n 0), (7, .int .i64 m), (8, .int .i64 j.1)], (n, ⟨2, cl [.int .i8 a.1, .int .i8 a.2], true, none⟩) :: h, n + 1)) (fun j => m - j.1) ⟨0, by simp⟩ ?_ ?_
  · refine Imp.id (by simp) ?_ (impH.base0 (hok.consF fun k hk => pair_flat _ _ hk) (Nat.le_refl _) HExt.rfl)
    simp only [go_sem, Nat.reduceBEq, Nat.reduceLT, Nat.reduceLeDiff, Nat.reduceAdd, Nat.reduceMul, Nat.reduceSub, Nat.reduceMod, Nat.reduceDiv, Nat.reduceEqDiff, Int.reduceToNat, reduceIte, reduceCtorEq, Int.reduceLE, Int.reduceLT, Int.reduceEq, Int.reduceNeg, Int.reduceAdd, Int.reduceSub, Int.reduceMul]
    (try (repeat' apply And.intro) <;> first | omega | rfl | trivial | assumption | skip)
  · rintro ⟨j, hj, hall⟩
    simp only [go_sem, Nat.reduceBEq, Nat.reduceLT, Nat.reduceLeDiff, Nat.reduceAdd, Nat.reduceMul, Nat.reduceSub, Nat.reduceMod, Nat.reduceDiv, Nat.reduceEqDiff, Int.reduceToNat, reduceIte, reduceCtorEq, Int.reduceLE, Int.reduceLT, Int.reduceEq, Int.reduceNeg, Int.reduceAdd, Int.reduceSub, Int.reduceMul, decide_eq_true_eq, decide_eq_false_iff_not]
    refine ⟨fun h1 => ?_, fun h1 => ?_⟩
    · have r1 : (0 : Int) ≤ j ∧ (j : Int) < m := ⟨by omega, by omega⟩
      have b1 : j * 2 ≤ s.n - 2 := by omega
      have b2 : 2 ≤ s.n := by omega
      have b3 : j * 2 + 2 ≤ s.n := by omega
      refine T_draw hti _ _ (by kernel_rfl) (by kernel_rfl) ?_
      simp only [go_sem, Nat.reduceBEq, Nat.reduceLT, Nat.reduceLeDiff, Nat.reduceAdd, Nat.reduceMul, Nat.reduceSub, Nat.reduceMod, Nat.reduceDiv, Nat.reduceEqDiff, Int.reduceToNat, reduceIte, reduceCtorEq, Int.reduceLE, Int.reduceLT, Int.reduceEq, Int.reduceNeg, Int.reduceAdd, Int.reduceSub, Int.reduceMul, hs, hi, hni, r1, b1, b2, b3, hc (j * 2) (by omega), hc (j * 2 + 1) (by omega), spotsC_x, spotsC_y]
      refine ⟨fun h2 => ?_, fun h2 => ⟨⟨j + 1, by omega, fun k hk => ?_⟩, by show m - (j + 1) < m - j; omega, ?_⟩⟩
      · rcases (by omega : r = -1 ∨ r ≠ -1) with hr | hr
        · have := hr0 hr j (by omega)
          rw [eqP, h2] at this; cases this
        · obtain ⟨r0, r1, r2, r3⟩ := hr1 hr
          rcases (by omega : (j : Int) < r ∨ r < j ∨ r = j) with h | h | h
          · have := r3 j h
            rw [eqP, h2] at this; cases this
          · have := hall r.toNat (by omega)
            rw [r2] at this; cases this
          · rw [h]
      · rcases (by omega : k < j ∨ k = j) with h | rfl
        · exact hall k h
        · exact h2
      · refine Imp.id (by simp) ?_ (impH.base0 (hok.consF fun k hk => pair_flat _ _ hk) (Nat.le_refl _) HExt.rfl)
        simp only [go_sem, Nat.reduceBEq, Nat.reduceLT, Nat.reduceLeDiff, Nat.reduceAdd, Nat.reduceMul, Nat.reduceSub, Nat.reduceMod, Nat.reduceDiv, Nat.reduceEqDiff, Int.reduceToNat, reduceIte, reduceCtorEq, Int.reduceLE, Int.reduceLT, Int.reduceEq, Int.reduceNeg, Int.reduceAdd, Int.reduceSub, Int.reduceMul, w64N (a := (j : Int) + 1) (k := j + 1) (by omega) (by omega)]
        (try (repeat' apply And.intro) <;> first | omega | rfl | trivial | assumption | skip)
    · rcases (by omega : r = -1 ∨ r ≠ -1) with hr | hr
      · rw [hr]
      · obtain ⟨r0, r1, r2, r3⟩ := hr1 hr
        have := hall r.toNat (by omega)
        rw [r2] at this; cases this
theorem containsSp_Q (V : SV) (L : List (Int × Int)) (lo : Nat) (a : Int × Int) (hV : Sp h lo n V L) (hm9 : L.length ≤ 1000000000) :
    CallQ Try.prog cx 83 [V, spot a.1 a.2] h n (.bool (decide (a ∈ L))) := by
  obtain ⟨j, cap, t, rfl, h2, h3, h4, h5, h6, h7, h8⟩ := hV
  have hnj : n ≠ j := by omega
  refine callQ_of_T (P := Try.prog) hti (nt := 9) (rs := [.tmp 4]) rfl rfl Try.call83 Try.func83 rfl _ (by simp only [go_sem, and_self]) (Nat.le_of_ble_eq_true rfl) _ (by first | exact trivial | (refine lt_flat rfl ?_; simp [SV.flat]; done) | simp only [go_sem]) fun hok => ?_
  simp only [go_sem, Nat.reduceBEq, Nat.reduceLT, Nat.reduceLeDiff, Nat.reduceAdd, Nat.reduceMul, Nat.reduceSub, Nat.reduceMod, Nat.reduceDiv, Nat.reduceEqDiff, Int.reduceToNat, reduceIte, reduceCtorEq, Int.reduceLE, Int.reduceLT, Int.reduceEq, Int.reduceNeg, Int.reduceAdd, Int.reduceSub, Int.reduceMul]
  refine (indexSp_Q _ _ _ j L.length cap L t a (fst4 (eqP a) L) (by simp only [go_sem, Nat.reduceBEq, Nat.reduceLT, Nat.reduceLeDiff, Nat.reduceAdd, Nat.reduceMul, Nat.reduceSub, Nat.reduceMod, Nat.reduceDiv, Nat.reduceEqDiff, Int.reduceToNat, reduceIte, reduceCtorEq, Int.reduceLE, Int.reduceLT, Int.reduceEq, Int.reduceNeg, Int.reduceAdd, Int.reduceSub, Int.reduceMul, h4, h3]) (by omega) rfl (by omega) (by omega) h8 (fun h => fst4_none h) (fun h => fst4_some h)).A ?_
  simp only [go_sem, Nat.reduceBEq, Nat.reduceLT, Nat.reduceLeDiff, Nat.reduceAdd, Nat.reduceMul, Nat.reduceSub, Nat.reduceMod, Nat.reduceDiv, Nat.reduceEqDiff, Int.reduceToNat, reduceIte, reduceCtorEq, Int.reduceLE, Int.reduceLT, Int.reduceEq, Int.reduceNeg, Int.reduceAdd, Int.reduceSub, Int.reduceMul, ge_iff_le, any_fst4, any_eqP, HExt_cons]
theorem inner11_Q (iv : Nat) (sv : Seg) (V : SV) (L : List (Int × Int)) (lo : Nat) (a : Int × Int) (hV : Sp h lo n V L) (hm9 : L.length ≤ 1000000000) (hv : hget h iv = some sv) (hvi : iv < n) (hvn : 1 ≤ sv.n) (hvc : sv.c 0 = V) :
    CallQ Try.prog cx 96 [spot a.1 a.2, .ptr iv 0] h n (.bool (!decide (a ∈ L))) := by
  have hnv : (n == iv) = false := by simp; omega
  have hVo := hV.ok
  refine callQ_of_T (P := Try.prog) hti (nt := 8) (rs := [.tmp 3]) rfl rfl Try.call96 Try.func96 rfl _ (by simp only [go_sem, and_self]) (Nat.le_of_ble_eq_true rfl) _ (by first | exact trivial | (refine lt_flat rfl ?_; simp [SV.flat]; done) | simp only [go_sem]) fun hok => ?_
  have hV' := hV.ext (n' := n + 1) (h' := (n, ⟨2, cl [.int .i8 a.1, .int .i8 a.2], true, none⟩) :: h) (by omega) (by simp only [go_sem, Nat.reduceBEq, Nat.reduceLT, Nat.reduceLeDiff, Nat.reduceAdd, Nat.reduceMul, Nat.reduceSub, Nat.reduceMod, Nat.reduceDiv, Nat.reduceEqDiff, Int.reduceToNat, reduceIte, reduceCtorEq, Int.reduceLE, Int.reduceLT, Int.reduceEq, Int.reduceNeg, Int.reduceAdd, Int.reduceSub, Int.reduceMul, HExt_cons])
  obtain ⟨j, cap, t, e, hV2⟩ := hV
  simp only [go_sem, Nat.reduceBEq, Nat.reduceLT, Nat.reduceLeDiff, Nat.reduceAdd, Nat.reduceMul, Nat.reduceSub, Nat.reduceMod, Nat.reduceDiv, Nat.reduceEqDiff, Int.reduceToNat, reduceIte, reduceCtorEq, Int.reduceLE, Int.reduceLT, Int.reduceEq, Int.reduceNeg, Int.reduceAdd, Int.reduceSub, Int.reduceMul, hnv, hv, hvc, e]
  refine ⟨by omega, ?_⟩
  rw [← e]
  refine (containsSp_Q _ _ _ V L lo a hV' hm9).A ?_
  simp only [go_sem, Nat.reduceBEq, Nat.reduceLT, Nat.reduceLeDiff, Nat.reduceAdd, Nat.reduceMul, Nat.reduceSub, Nat.reduceMod, Nat.reduceDiv, Nat.reduceEqDiff, Int.reduceToNat, reduceIte, reduceCtorEq, Int.reduceLE, Int.reduceLT, Int.reduceEq, Int.reduceNeg, Int.reduceAdd, Int.reduceSub, Int.reduceMul, HExt_cons]
theorem inner1_Q (i o iv jv : Nat) (s sv tv : Seg) (S : Sh) (V : SV) (L : List (Int × Int)) (lo : Nat) (x y : Int) (hs : hget h i = some s) (hi : i < n) (hS : ShAt s o S) (hsm : Small S) (hV : Sp h lo n V L) (hm9 : L.length ≤ 1000000000)
    (hv : hget h iv = some sv) (hvi : iv < n) (hvn : 1 ≤ sv.n) (hvc : sv.c 0 = .ptr i o) (hw : hget h jv = some tv) (hwi : jv < n) (hwn : 1 ≤ tv.n) (hwc : tv.c 0 = V) :
    CallQ Try.prog cx 95 [spot x y, .ptr iv 0, .ptr jv 0] h n (.bool (!inP S L (x, y))) := by
  have hni : n ≠ i := by omega
  have hnv : (n == iv) = false := by simp; omega
  have hnw : n ≠ jv := by omega
  refine callQ_of_T (P := Try.prog) hti (nt := 10) (rs := [.tmp 4]) rfl rfl Try.call95 Try.func95 rfl _ (by simp only [go_sem, and_self]) (Nat.le_of_ble_eq_true rfl) _ (by first | exact trivial | (refine lt_flat rfl ?_; simp [SV.flat]; done) | simp only [go_sem]) fun hok => ?_
  simp only [go_sem, Nat.reduceBEq, Nat.reduceLT, Nat.reduceLeDiff, Nat.reduceAdd, Nat.reduceMul, Nat.reduceSub, Nat.reduceMod, Nat.reduceDiv, Nat.reduceEqDiff, Int.reduceToNat, reduceIte, reduceCtorEq, Int.reduceLE, Int.reduceLT, Int.reduceEq, Int.reduceNeg, Int.reduceAdd, Int.reduceSub, Int.reduceMul, hnv, hv, hvc]
  refine ⟨by omega, ?_⟩
  refine callA_false (neighbours_E _ _ _ i o s S x y (by simp only [go_sem, Nat.reduceBEq, Nat.reduceLT, Nat.reduceLeDiff, Nat.reduceAdd, Nat.reduceMul, Nat.reduceSub, Nat.reduceMod, Nat.reduceDiv, Nat.reduceEqDiff, Int.reduceToNat, reduceIte, reduceCtorEq, Int.reduceLE, Int.reduceLT, Int.reduceEq, Int.reduceNeg, Int.reduceAdd, Int.reduceSub, Int.reduceMul, hs, hi]) (by omega) hS hsm _ fun cap => ?_)
  simp only [go_sem, Nat.reduceBEq, Nat.reduceLT, Nat.reduceLeDiff, Nat.reduceAdd, Nat.reduceMul, Nat.reduceSub, Nat.reduceMod, Nat.reduceDiv, Nat.reduceEqDiff, Int.reduceToNat, reduceIte, reduceCtorEq, Int.reduceLE, Int.reduceLT, Int.reduceEq, Int.reduceNeg, Int.reduceAdd, Int.reduceSub, Int.reduceMul]
  have h1 : HExt n h ((n + 1, ⟨(nb S x y).length * 2, spotsC (nb S x y), true, none⟩) :: (n, ⟨2, cl [.int .i8 x, .int .i8 y], true, none⟩) :: h) := by simp only [go_sem, Nat.reduceBEq, Nat.reduceLT, Nat.reduceLeDiff, Nat.reduceAdd, Nat.reduceMul, Nat.reduceSub, Nat.reduceMod, Nat.reduceDiv, Nat.reduceEqDiff, Int.reduceToNat, reduceIte, reduceCtorEq, Int.reduceLE, Int.reduceLT, Int.reduceEq, Int.reduceNeg, Int.reduceAdd, Int.reduceSub, Int.reduceMul, HExt_cons]
  refine (containsP_Q _ _ _ (n + 1) (nb S x y).length cap (nb S x y) ⟨(nb S x y).length * 2, spotsC (nb S x y), true, none⟩ _ _ _ _ _ (fun x y => !decide ((x, y) ∈ L)) (hget_hit _ _ _) (by omega) rfl (by have := nb_len4 S x y; omega) (Nat.le_refl _) (fun _ _ => rfl) ?_ fun q hq nt n0 => ?_).A ?_
  · exact fn_lt (xs := []) (ys := [.ptr jv 0]) (fun v hv => by cases hv) (fun v hv => by simp at hv; subst hv; show jv < _; omega)
  · exact inner11_Q _ _ _ jv tv V L lo _ (hV.ext (by omega) h1) hm9 (h1 jv hwi _ hw) (by omega) hwn hwc
  · simp only [go_sem, Nat.reduceBEq, Nat.reduceLT, Nat.reduceLeDiff, Nat.reduceAdd, Nat.reduceMul, Nat.reduceSub, Nat.reduceMod, Nat.reduceDiv, Nat.reduceEqDiff, Int.reduceToNat, reduceIte, reduceCtorEq, Int.reduceLE, Int.reduceLT, Int.reduceEq, Int.reduceNeg, Int.reduceAdd, Int.reduceSub, Int.reduceMul, HExt_cons]
    congr 1
    unfold inP
    rw [List.all_eq_not_any_not, Bool.not_not]
theorem cloneO_E (V : SV) (L : List (Int × Int)) (lo : Nat) (hV : Sp h lo n V L) (hm9 : L.length ≤ 10000000) (K : HK)
    (hK : ∀ cap', L.length ≤ cap' → cap' ≤ maxLen → K (.sl n 0 L.length cap') ((n, ⟨L.length * 2, spotsC L, true, some (39, cap' * 2)⟩) :: h) (n + 1)) :
    CallE Try.prog cx 93 [V] h n K := by
  obtain ⟨i, cap, s, rfl, h2, hi, hs, h5, h6, h7, hc⟩ := hV
  refine CallE.imp1 (K := fun r h1 n1 => ∃ cap', L.length ≤ cap' ∧ cap' ≤ maxLen ∧ r = .sl (n + 1) 0 L.length cap' ∧ n1 = n + 2 ∧ HExt n h h1 ∧ ∃ t, hget h1 (n + 1) = some t ∧ t.n = L.length * 2 ∧ t.rw = true ∧ t.own = some (39, cap' * 2) ∧ ∀ k, k < L.length * 2 → t.c k = spotsC L k) ?_ ?_
  · refine callE_of_T (P := Try.prog) hti (nt := 8) (rs := [.tmp 2]) rfl rfl Try.call93 Try.func93 rfl _ (by simp only [go_sem, and_self]) (Nat.le_of_ble_eq_true rfl) _ fun hok => ?_
    simp only [go_sem, Nat.reduceBEq, Nat.reduceLT, Nat.reduceLeDiff, Nat.reduceAdd, Nat.reduceMul, Nat.reduceSub, Nat.reduceMod, Nat.reduceDiv, Nat.reduceEqDiff, Int.reduceToNat, reduceIte, reduceCtorEq, Int.reduceLE, Int.reduceLT, Int.reduceEq, Int.reduceNeg, Int.reduceAdd, Int.reduceSub, Int.reduceMul, hs, hi, ↓hok.del (Nat.le_refl n)]
    refine ⟨⟨⟨trivial, Nat.succ_pos 1, ?_, ?_⟩, by omega⟩, fun cap' c1 c2 => ?_⟩
    · show 0 + L.length * 2 ≤ s.n
      omega
    · refine allP_iff.2 fun j hj => ?_
      have hj : j < L.length * 2 := hj
      show (s.c (0 + j)).one
      rw [Nat.zero_add, hc j hj]
      exact (spotsC_flat L j).one
    · refine ⟨cap', c1, c2, rfl, _, rfl, rfl, rfl, rfl, fun k hk => ?_⟩
      refine Eq.trans ?_ (hc k hk)
      simp only [both, news, Nat.not_lt_zero, if_false, Nat.sub_zero, Nat.zero_add]
  · rintro hok r h1 n1 ⟨cap', c1, c2, rfl, rfl, hx, t, ht, t1, t2, t4, t3⟩
    exact ⟨n + 1, .sl n 0 L.length cap', (n, ⟨L.length * 2, spotsC L, true, some (39, cap' * 2)⟩) :: h, n + 1, by omega, by omega, by simp only [ren_sl, sig_hit], Nat.lt_succ_self n,
      impH.cons1 ht (Nat.lt_succ_self n) (SegLe.flat (by rw [t1]; exact Nat.le_refl _) (fun _ => t2) (.inr t4.symm) fun k hk => ⟨t3 k hk, spotsC_flat _ _⟩) (impH.base1 hok (by simp) (Nat.le_refl n) hx), hK cap' c1 c2⟩
theorem inner_E (i o : Nat) (s : Seg) (S : Sh) (V : SV) (L : List (Int × Int)) (lo : Nat) (hs : hget h i = some s) (hi : i < n) (hS : ShAt s o S) (hsm : Small S) (hV : Sp h lo n V L) (hVl : V.lt n) (hm9 : L.length ≤ 10000000) (K : HK)
    (hK : ∀ V' h' n', n ≤ n' → HExt n h h' → HOk n' h' → Sp h' n n' V' (innerL S L) → K V' h' n') :
    CallE Try.prog cx 61 [.ptr i o, V] h n K := by
  have hVo := hV.ok
  have hV0 := hV
  obtain ⟨j, cap, t, rfl, h2, h3, h4, h5, h6, h7, h8⟩ := hV
  refine CallE.hokE ?_
  refine callE_of_T (P := Try.prog) hti (nt := 9) (rs := [.tmp 4]) rfl rfl Try.call61 Try.func61 rfl _ (by simp only [go_sem, and_self]) (Nat.le_of_ble_eq_true rfl) _ fun hok => ?_
  simp only [go_sem, Nat.reduceBEq, Nat.reduceLT, Nat.reduceLeDiff, Nat.reduceAdd, Nat.reduceMul, Nat.reduceSub, Nat.reduceMod, Nat.reduceDiv, Nat.reduceEqDiff, Int.reduceToNat, reduceIte, reduceCtorEq, Int.reduceLE, Int.reduceLT, Int.reduceEq, Int.reduceNeg, Int.reduceAdd, Int.reduceSub, Int.reduceMul]
  refine callA_false (cloneO_E _ _ _ _ L lo (hV0.ext (by omega) (by simp only [go_sem, Nat.reduceBEq, Nat.reduceLT, Nat.reduceLeDiff, Nat.reduceAdd, Nat.reduceMul, Nat.reduceSub, Nat.reduceMod, Nat.reduceDiv, Nat.reduceEqDiff, Int.reduceToNat, reduceIte, reduceCtorEq, Int.reduceLE, Int.reduceLT, Int.reduceEq, Int.reduceNeg, Int.reduceAdd, Int.reduceSub, Int.reduceMul, HExt_cons])) hm9 _ fun cap' c1 c2 => ?_)
  simp only [go_sem, Nat.reduceBEq, Nat.reduceLT, Nat.reduceLeDiff, Nat.reduceAdd, Nat.reduceMul, Nat.reduceSub, Nat.reduceMod, Nat.reduceDiv, Nat.reduceEqDiff, Int.reduceToNat, reduceIte, reduceCtorEq, Int.reduceLE, Int.reduceLT, Int.reduceEq, Int.reduceNeg, Int.reduceAdd, Int.reduceSub, Int.reduceMul]
  refine callA_false (deleteFunc_E _ _ _ (n + 2) L.length cap' L ⟨L.length * 2, spotsC L, true, some (39, cap' * 2)⟩ _ _ _ _ _ (fun x y => !inP S L (x, y)) (fst4 (fun x y => !inP S L (x, y)) L) (hget_hit _ _ _) (by omega) rfl (by omega) c1 rfl rfl (fun _ _ => rfl) ?_
      (fun h => fst4_none h) (fun h => fst4_some h) (fun q hq nt n0 h' n' hn hb => ?_) _ fun own => ?_)
  · exact fn_lt (xs := []) (ys := [.ptr n 0, .ptr (n + 1) 0]) (fun v hv => by cases hv) (fun v hv => by simp at hv; rcases hv with rfl | rfl; exact (show n < _ by omega); exact (show n + 1 < _ by omega))
  · refine inner1_Q _ _ _ i o n (n + 1) s ⟨1, cl [.ptr i o], true, none⟩ ⟨1, cl [.sl j 0 L.length cap], true, none⟩ S (.sl j 0 L.length cap) L 0 _ _ (hb i (by omega) (by omega) _ (by simp only [go_sem, Nat.reduceBEq, Nat.reduceLT, Nat.reduceLeDiff, Nat.reduceAdd, Nat.reduceMul, Nat.reduceSub, Nat.reduceMod, Nat.reduceDiv, Nat.reduceEqDiff, Int.reduceToNat, reduceIte, reduceCtorEq, Int.reduceLE, Int.reduceLT, Int.reduceEq, Int.reduceNeg, Int.reduceAdd, Int.reduceSub, Int.reduceMul, hs, hi])) (by omega) hS hsm ⟨j, cap, t, rfl, Nat.zero_le _, by omega, hb j (by omega) (by omega) _ (by simp only [go_sem, Nat.reduceBEq, Nat.reduceLT, Nat.reduceLeDiff, Nat.reduceAdd, Nat.reduceMul, Nat.reduceSub, Nat.reduceMod, Nat.reduceDiv, Nat.reduceEqDiff, Int.reduceToNat, reduceIte, reduceCtorEq, Int.reduceLE, Int.reduceLT, Int.reduceEq, Int.reduceNeg, Int.reduceAdd, Int.reduceSub, Int.reduceMul, h4, h3]), h5, h6, h7, h8⟩ (by omega) (hb n (by omega) (by omega) _ (by simp only [go_sem, Nat.reduceBEq, Nat.reduceLT, Nat.reduceLeDiff, Nat.reduceAdd, Nat.reduceMul, Nat.reduceSub, Nat.reduceMod, Nat.reduceDiv, Nat.reduceEqDiff, Int.reduceToNat, reduceIte, reduceCtorEq, Int.reduceLE, Int.reduceLT, Int.reduceEq, Int.reduceNeg, Int.reduceAdd, Int.reduceSub, Int.reduceMul])) (by omega) (Nat.le_refl _) rfl (hb (n + 1) (by omega) (by omega) _ (by simp only [go_sem, Nat.reduceBEq, Nat.reduceLT, Nat.reduceLeDiff, Nat.reduceAdd, Nat.reduceMul, Nat.reduceSub, Nat.reduceMod, Nat.reduceDiv, Nat.reduceEqDiff, Int.reduceToNat, reduceIte, reduceCtorEq, Int.reduceLE, Int.reduceLT, Int.reduceEq, Int.reduceNeg, Int.reduceAdd, Int.reduceSub, Int.reduceMul])) (by omega) (Nat.le_refl _) rfl
  · simp only [go_sem, Nat.reduceBEq, Nat.reduceLT, Nat.reduceLeDiff, Nat.reduceAdd, Nat.reduceMul, Nat.reduceSub, Nat.reduceMod, Nat.reduceDiv, Nat.reduceEqDiff, Int.reduceToNat, reduceIte, reduceCtorEq, Int.reduceLE, Int.reduceLT, Int.reduceEq, Int.reduceNeg, Int.reduceAdd, Int.reduceSub, Int.reduceMul]
    have e : (L.filter fun a => !(!inP S L (a.1, a.2))) = innerL S L := by simp [innerL]
    simp only [e]
    refine fun hok' => hK _ _ _ (by omega) (by simp only [go_sem, Nat.reduceBEq, Nat.reduceLT, Nat.reduceLeDiff, Nat.reduceAdd, Nat.reduceMul, Nat.reduceSub, Nat.reduceMod, Nat.reduceDiv, Nat.reduceEqDiff, Int.reduceToNat, reduceIte, reduceCtorEq, Int.reduceLE, Int.reduceLT, Int.reduceEq, Int.reduceNeg, Int.reduceAdd, Int.reduceSub, Int.reduceMul, HExt_cons]) hok' ⟨n + 2, cap', _, rfl, by omega, by omega, hget_hit _ _ _, rfl, rfl, ?_, fun _ _ => rfl⟩
    exact Nat.le_trans (List.length_filter_le _ _) c1
end
end Go.Proofs.Ytnbpgkidphdcdaa.V

/- Spreads: the program's own walk. -/
namespace Go.Proofs.Ytnbpgkidphdcdaa.V
/-- A list to which one may append. -/
def SpO (h : List (Nat × Seg)) (lo n : Nat) (V : SV) (L : List (Int × Int)) : Prop :=
  ∃ j cap s, V = .sl j 0 L.length cap ∧ lo ≤ j ∧ j < n ∧ hget h j = some s ∧ s.own = some (39, cap * 2) ∧ s.rw = true ∧ s.n = L.length * 2 ∧ L.length ≤ cap ∧ cap ≤ maxLen ∧ ∀ k, k < L.length * 2 → s.c k = spotsC L k
theorem SpO.sp {h : List (Nat × Seg)} {lo n : Nat} {V : SV} {L : List (Int × Int)} (hA : SpO h lo n V L) : Sp h lo n V L := by
  obtain ⟨i, cap, s, h1, h2, h3, h4, h5, h6, h7, h8, h9, h10⟩ := hA
  exact ⟨i, cap, s, h1, h2, h3, h4, h6, h7, h8, h10⟩
theorem both_sp (A B : List (Int × Int)) {c d : Nat → SV} {o : Nat} (hc : ∀ k, k < A.length * 2 → c k = spotsC A k) (hd : ∀ k, k < B.length * 2 → d (o + k) = spotsC B k) {k : Nat} (hk : k < (A ++ B).length * 2) : both (A.length * 2) c (news d o) k = spotsC (A ++ B) k := by
  rw [List.length_append] at hk
  unfold both news
  split
  · rename_i h; rw [hc k h, spotsC_take (b := B) h]
  · rename_i h
    rw [hd _ (by omega)]
    unfold spotsC
    have e : (A ++ B).getD (k / 2) (0, 0) = B.getD ((k - A.length * 2) / 2) (0, 0) := by
      rw [List.getD_eq_getElem?_getD, List.getD_eq_getElem?_getD, List.getElem?_append_right (by omega)]
      congr 2; omega
    rw [e, show (k - A.length * 2) % 2 = k % 2 by omega]
section
variable (cx : Cx) (h : List (Nat × Seg)) (n : Nat)
end
end Go.Proofs.Ytnbpgkidphdcdaa.V

/- Sets of cells: the reference's lists and spreads. -/
namespace Go.Proofs.Ytnbpgkidphdcdaa.V
/-- One spot appended. -/
theorem app1 {h hq : List (Nat × Seg)} {n nq jv cap : Nat} {A : List (Int × Int)} {a : Int × Int} {sc c1 : Nat → SV} {w : Option (Nat × Nat)} (I1 : n ≤ nq) (I2 : HOk nq hq) (I3 : HExt n h hq) (v1 : n ≤ jv) (c10 : c1 0 = .int .i8 a.1) (c11 : c1 1 = .int .i8 a.2)
    (v9 : ∀ k, k < A.length * 2 → sc k = spotsC A k) (m1 : A.length + 1 ≤ cap) (m2 : cap ≤ maxLen) :
    HOk (nq + 2) ((nq + 1, ⟨(A.length + 1) * 2, both (A.length * 2) sc (news c1 0), true, some (39, cap * 2)⟩) :: (nq, ⟨2, c1, true, w⟩) :: hdel hq jv) ∧
    HExt n h ((nq + 1, ⟨(A.length + 1) * 2, both (A.length * 2) sc (news c1 0), true, some (39, cap * 2)⟩) :: (nq, ⟨2, c1, true, w⟩) :: hdel hq jv) ∧
    SpO ((nq + 1, ⟨(A.length + 1) * 2, both (A.length * 2) sc (news c1 0), true, some (39, cap * 2)⟩) :: (nq, ⟨2, c1, true, w⟩) :: hdel hq jv) n (nq + 2) (.sl (nq + 1) 0 (A.length + 1) cap) (A ++ [a]) := by
  have hB : ∀ k, k < ([a] : List (Int × Int)).length * 2 → c1 (0 + k) = spotsC [a] k := fun k hk => by
    simp at hk
    rcases (by omega : k = 0 ∨ k = 1) with rfl | rfl
    · exact c10
    · exact c11
  have hbo : ∀ k, k < (A.length + 1) * 2 → both (A.length * 2) sc (news c1 0) k = spotsC (A ++ [a]) k := fun k hk =>
    both_sp A [a] v9 hB (by rw [List.length_append]; exact hk)
  refine ⟨(I2.hdel.consF fun k hk => ?_).consF fun k hk => ?_, fun z hz t ht => ?_, nq + 1, cap, _, by rw [List.length_append]; rfl, by omega, by omega, hget_hit _ _ _, rfl, rfl, by rw [List.length_append]; rfl, by rw [List.length_append]; exact m1, m2, fun k hk => hbo k (by rw [List.length_append] at hk; exact hk)⟩
  · have hk : k < 2 := hk
    have := hB k (by simpa using hk)
    rw [Nat.zero_add] at this
    show (c1 k).flat
    rw [this]; exact spotsC_flat _ _
  · show (both (A.length * 2) sc (news c1 0) k).flat
    rw [hbo k hk]; exact spotsC_flat _ _
  · simp only [hget]
    rw [if_neg (by omega), if_neg (by omega), hget_hdel, if_neg (by omega)]
    exact I3 z hz t ht
structure LsI (L : List (Int × Int)) (h : List (Nat × Seg)) (n k : Nat) (hq : List (Nat × Seg)) (nq : Nat) (V : SV) : Prop where
  hn : n ≤ nq
  ok : HOk nq hq
  ex : HExt n h hq
  out : SpO hq n nq V (upM L k)
theorem cellK_at {y x : Nat} (hx : x < 8) : cellK (y * 8 + x) = ((x : Int), (y : Int)) := by
  unfold cellK; rw [show (y * 8 + x) % 8 = x by omega, show (y * 8 + x) / 8 = y by omega]
section
variable (cx : Cx) (h : List (Nat × Seg)) (n : Nat)
set_option maxHeartbeats 1600000 in
theorem list_E (g : Nat) (L : List (Int × Int)) (hg : hget h g = some (mkS L)) (hgn : g < n) (K : HK)
    (hK : ∀ V h' n', n ≤ n' → HExt n h h' → HOk n' h' → Sp h' n n' V (upM L 64) → K V h' n') :
    CallE Try.prog cx 41 [.ptr g 0] h n K := by
  refine CallE.hokE ?_
  refine callE_of_T (P := Try.prog) hti (nt := 29) (rs := [.tmp 2]) rfl rfl Try.call41 Try.func41 rfl _ (by simp only [go_sem, and_self]) (Nat.le_of_ble_eq_true rfl) _ fun hok => ?_
  simp only [go_sem, Nat.reduceBEq, Nat.reduceLT, Nat.reduceLeDiff, Nat.reduceAdd, Nat.reduceMul, Nat.reduceSub, Nat.reduceMod, Nat.reduceDiv, Nat.reduceEqDiff, Int.reduceToNat, reduceIte, reduceCtorEq, Int.reduceLE, Int.reduceLT, Int.reduceEq, Int.reduceNeg, Int.reduceAdd, Int.reduceSub, Int.reduceMul]
  have ok1 : HOk (n + 1) ((n, ⟨0, zrow (ti 39), true, some (39, 0)⟩) :: h) := hok.consF fun k hk => absurd hk (Nat.not_lt_zero k)
  have I0 : LsI L h n 0 ((n, ⟨0, zrow (ti 39), true, some (39, 0)⟩) :: h) (n + 1) (.sl n 0 0 0) :=
    ⟨by omega, ok1, by simp only [go_sem, Nat.reduceBEq, Nat.reduceLT, Nat.reduceLeDiff, Nat.reduceAdd, Nat.reduceMul, Nat.reduceSub, Nat.reduceMod, Nat.reduceDiv, Nat.reduceEqDiff, Int.reduceToNat, reduceIte, reduceCtorEq, Int.reduceLE, Int.reduceLT, Int.reduceEq, Int.reduceNeg, Int.reduceAdd, Int.reduceSub, Int.reduceMul, HExt_cons], n, 0, _, rfl, Nat.le_refl _, by omega, hget_hit _ _ _, rfl, rfl, rfl, Nat.le_refl _, Nat.zero_le _, fun k hk => absurd hk (Nat.not_lt_zero k)⟩
  refine T_lp (ι := { q : Nat × List (Nat × Seg) × Nat × SV // q.1 ≤ 8 ∧ LsI L h n (q.1 * 8) q.2.1 q.2.2.1 q.2.2.2 })
    (fun q => ([(0, .ptr g 0), (3, q.1.2.2.2), (4, .int .i8 ((q.1.1 : Nat) : Int))], q.1.2.1, q.1.2.2.1)) (fun q => 8 - q.1.1) ⟨(0, _, _, _), by omega, I0⟩ ?_ ?_
  · refine Imp.id (by show n ≤ n + 1; omega) ?_ (impH.base0 ok1 (Nat.le_refl _) HExt.rfl)
    simp only [go_sem, Nat.reduceBEq, Nat.reduceLT, Nat.reduceLeDiff, Nat.reduceAdd, Nat.reduceMul, Nat.reduceSub, Nat.reduceMod, Nat.reduceDiv, Nat.reduceEqDiff, Int.reduceToNat, reduceIte, reduceCtorEq, Int.reduceLE, Int.reduceLT, Int.reduceEq, Int.reduceNeg, Int.reduceAdd, Int.reduceSub, Int.reduceMul]
    (try (repeat' apply And.intro) <;> first | omega | rfl | trivial | assumption | skip)
  rintro ⟨⟨y, hy, ny, Vy⟩, hy8, J1, J2, J3, J4⟩
  simp only at hy8 J1 J2 J3 J4
  have Vyo := J4.sp.ok
  simp only [go_sem, Nat.reduceBEq, Nat.reduceLT, Nat.reduceLeDiff, Nat.reduceAdd, Nat.reduceMul, Nat.reduceSub, Nat.reduceMod, Nat.reduceDiv, Nat.reduceEqDiff, Int.reduceToNat, reduceIte, reduceCtorEq, Int.reduceLE, Int.reduceLT, Int.reduceEq, Int.reduceNeg, Int.reduceAdd, Int.reduceSub, Int.reduceMul, Vyo, decide_eq_true_eq, decide_eq_false_iff_not]
  refine ⟨fun h1 => ?_, fun h1 => ?_⟩
  rotate_left
  · have hy88 : y = 8 := by omega
    subst hy88
    exact fun hok' => hK Vy hy ny J1 J3 hok' J4.sp
  refine T_lp (ι := { q : Nat × List (Nat × Seg) × Nat × SV // q.1 ≤ 8 ∧ LsI L h n (y * 8 + q.1) q.2.1 q.2.2.1 q.2.2.2 })
    (fun q => ([(0, .ptr g 0), (3, q.1.2.2.2), (4, .int .i8 ((y : Nat) : Int)), (5, .int .i8 ((q.1.1 : Nat) : Int))], q.1.2.1, q.1.2.2.1)) (fun q => 8 - q.1.1) ⟨(0, hy, ny, Vy), by omega, J1, J2, J3, J4⟩ ?_ ?_
  · refine Imp.id (by show n ≤ ny; omega) ?_ (impH.base0 J2 (Nat.le_refl _) HExt.rfl)
    simp only [go_sem, Nat.reduceBEq, Nat.reduceLT, Nat.reduceLeDiff, Nat.reduceAdd, Nat.reduceMul, Nat.reduceSub, Nat.reduceMod, Nat.reduceDiv, Nat.reduceEqDiff, Int.reduceToNat, reduceIte, reduceCtorEq, Int.reduceLE, Int.reduceLT, Int.reduceEq, Int.reduceNeg, Int.reduceAdd, Int.reduceSub, Int.reduceMul, Vyo, J4.sp.lt]
    (try omega)
  rintro ⟨⟨x, hq, nq, V⟩, hx8, I1, I2, I3, I4⟩
  simp only at hx8 I1 I2 I3 I4
  have Vo := I4.sp.ok
  have hul := upM_len L (y * 8 + x)
  have hgq : hget hq g = some (mkS L) := I3 g hgn _ hg
  have hgnq : g < nq := by omega
  simp only [go_sem, Nat.reduceBEq, Nat.reduceLT, Nat.reduceLeDiff, Nat.reduceAdd, Nat.reduceMul, Nat.reduceSub, Nat.reduceMod, Nat.reduceDiv, Nat.reduceEqDiff, Int.reduceToNat, reduceIte, reduceCtorEq, Int.reduceLE, Int.reduceLT, Int.reduceEq, Int.reduceNeg, Int.reduceAdd, Int.reduceSub, Int.reduceMul, Vo, decide_eq_true_eq, decide_eq_false_iff_not]
  refine ⟨fun h2 => ?_, fun h2 => ?_⟩
  rotate_left
  · have hx88 : x = 8 := by omega
    subst hx88
    simp only [go_sem, Nat.reduceBEq, Nat.reduceLT, Nat.reduceLeDiff, Nat.reduceAdd, Nat.reduceMul, Nat.reduceSub, Nat.reduceMod, Nat.reduceDiv, Nat.reduceEqDiff, Int.reduceToNat, reduceIte, reduceCtorEq, Int.reduceLE, Int.reduceLT, Int.reduceEq, Int.reduceNeg, Int.reduceAdd, Int.reduceSub, Int.reduceMul, Vo]
    refine ⟨⟨(y + 1, hq, nq, V), by show y + 1 ≤ 8; omega, I1, I2, I3, by rw [show (y + 1) * 8 = y * 8 + 8 by omega]; exact I4⟩, by show 8 - (y + 1) < 8 - y; omega, ?_⟩
    refine Imp.id (by show n ≤ nq; omega) ?_ (impH.base0 I2 (Nat.le_refl _) HExt.rfl)
    simp only [go_sem, Nat.reduceBEq, Nat.reduceLT, Nat.reduceLeDiff, Nat.reduceAdd, Nat.reduceMul, Nat.reduceSub, Nat.reduceMod, Nat.reduceDiv, Nat.reduceEqDiff, Int.reduceToNat, reduceIte, reduceCtorEq, Int.reduceLE, Int.reduceLT, Int.reduceEq, Int.reduceNeg, Int.reduceAdd, Int.reduceSub, Int.reduceMul, Vo, I4.sp.lt, w8 (n := (y : Int) + 1) (by omega), Int.natCast_add, Int.natCast_one]
    (try (repeat' apply And.intro) <;> first | omega | rfl | trivial | assumption | skip)
  have hyx : y * 8 + x ≤ 63 := by omega
  have hm := mkC_at L (y := (y : Int)) (x := (x : Int)) (by omega) (by omega) (by omega)
  rw [Int.toNat_natCast, Int.toNat_natCast] at hm
  have hsucc := upM_succ L (y * 8 + x)
  rw [cellK_at (by omega)] at hsucc
  have I4c := I4
  obtain ⟨jv, capV, sV, e, v1, v2, v3, v4, v5, v6, v7, v8, v9⟩ := I4
  subst e
  simp only [go_sem, Nat.reduceBEq, Nat.reduceLT, Nat.reduceLeDiff, Nat.reduceAdd, Nat.reduceMul, Nat.reduceSub, Nat.reduceMod, Nat.reduceDiv, Nat.reduceEqDiff, Int.reduceToNat, reduceIte, reduceCtorEq, Int.reduceLE, Int.reduceLT, Int.reduceEq, Int.reduceNeg, Int.reduceAdd, Int.reduceSub, Int.reduceMul, hgq, hgnq, hm, hyx, show ((0 : Int) ≤ (y : Int) ∧ (y : Int) < 8) from ⟨by omega, by omega⟩, show ((0 : Int) ≤ (x : Int) ∧ (x : Int) < 8) from ⟨by omega, by omega⟩]
  by_cases hin : ((x : Int), (y : Int)) ∈ L
  rotate_left
  · rw [if_neg hin, List.append_nil] at hsucc
    simp only [go_sem, Nat.reduceBEq, Nat.reduceLT, Nat.reduceLeDiff, Nat.reduceAdd, Nat.reduceMul, Nat.reduceSub, Nat.reduceMod, Nat.reduceDiv, Nat.reduceEqDiff, Int.reduceToNat, reduceIte, reduceCtorEq, Int.reduceLE, Int.reduceLT, Int.reduceEq, Int.reduceNeg, Int.reduceAdd, Int.reduceSub, Int.reduceMul, hin]
    refine ⟨⟨(x + 1, hq, nq, .sl jv 0 (upM L (y * 8 + x)).length capV), by show x + 1 ≤ 8; omega, I1, I2, I3, by rw [show y * 8 + (x + 1) = y * 8 + x + 1 by omega, hsucc]; exact I4c⟩, by show 8 - (x + 1) < 8 - x; omega, ?_⟩
    refine Imp.id (by show n ≤ nq; omega) ?_ (impH.base0 I2 (Nat.le_refl _) HExt.rfl)
    simp only [go_sem, Nat.reduceBEq, Nat.reduceLT, Nat.reduceLeDiff, Nat.reduceAdd, Nat.reduceMul, Nat.reduceSub, Nat.reduceMod, Nat.reduceDiv, Nat.reduceEqDiff, Int.reduceToNat, reduceIte, reduceCtorEq, Int.reduceLE, Int.reduceLT, Int.reduceEq, Int.reduceNeg, Int.reduceAdd, Int.reduceSub, Int.reduceMul, v2, w8 (n := (x : Int) + 1) (by omega), Int.natCast_add, Int.natCast_one]
    (try (repeat' apply And.intro) <;> first | omega | rfl | trivial | assumption | skip)
  · rw [if_pos hin] at hsucc
    obtain ⟨sn, sc, sr, so⟩ := sV
    simp only at v4 v5 v6 v9
    subst v4 v5 v6
    have hjv1 : nq ≠ jv := by omega
    simp only [go_sem, Nat.reduceBEq, Nat.reduceLT, Nat.reduceLeDiff, Nat.reduceAdd, Nat.reduceMul, Nat.reduceSub, Nat.reduceMod, Nat.reduceDiv, Nat.reduceEqDiff, Int.reduceToNat, reduceIte, reduceCtorEq, Int.reduceLE, Int.reduceLT, Int.reduceEq, Int.reduceNeg, Int.reduceAdd, Int.reduceSub, Int.reduceMul, hin, v3, v2, hjv1, ↓I2.del (Nat.le_refl nq)]
    generalize hAA : upM L (y * 8 + x) = A at *
    refine ⟨⟨v7, v8, by omega⟩, fun cap' m1 m2 => ?_⟩
    obtain ⟨okM, exM, spM⟩ := app1 (a := ((x : Int), (y : Int))) (w := some (39, 2)) (c1 := fun j => if j < 2 then cl [SV.int IntKind.i8 x, SV.int IntKind.i8 y] (j - 0) else cl [SV.int IntKind.i8 0, SV.int IntKind.i8 0] (j % 2)) I1 I2 I3 v1 rfl rfl v9 m1 m2
    refine ⟨⟨(x + 1, _, nq + 2, .sl (nq + 1) 0 (A.length + 1) cap'), by show x + 1 ≤ 8; omega, by show n ≤ nq + 2; omega, okM, exM, by rw [show y * 8 + (x + 1) = y * 8 + x + 1 by omega, hsucc]; exact spM⟩, by show 8 - (x + 1) < 8 - x; omega, ?_⟩
    refine Imp.id (by show n ≤ nq + 2; omega) ?_ (impH.base0 okM (Nat.le_refl _) HExt.rfl)
    simp only [go_sem, Nat.reduceBEq, Nat.reduceLT, Nat.reduceLeDiff, Nat.reduceAdd, Nat.reduceMul, Nat.reduceSub, Nat.reduceMod, Nat.reduceDiv, Nat.reduceEqDiff, Int.reduceToNat, reduceIte, reduceCtorEq, Int.reduceLE, Int.reduceLT, Int.reduceEq, Int.reduceNeg, Int.reduceAdd, Int.reduceSub, Int.reduceMul, w8 (n := (x : Int) + 1) (by omega), Int.natCast_add, Int.natCast_one]
    (try (repeat' apply And.intro) <;> first | omega | rfl | trivial | assumption | skip)
end
end Go.Proofs.Ytnbpgkidphdcdaa.V

/- Sets of cells: the program's answers. -/
namespace Go.Proofs.Ytnbpgkidphdcdaa.V
def allIn (S : Sh) (L : List (Int × Int)) : Bool := L.all fun a => hasB S a.1 a.2
theorem allIn_8 {S : Sh} (hS : Small S) {L : List (Int × Int)} (h : allIn S L = true) : In8s L := fun p hp => by
  have := hasB_in hS (List.all_eq_true.1 h p hp)
  exact ⟨⟨this.1, this.2.1⟩, this.2.2⟩
noncomputable def innerR (S : Sh) (L : List (Int × Int)) : List (Int × Int) × Int :=
  if codeI S (allIn S L) = 0 then (innerL S (bareL S L), 0) else ([], codeI S (allIn S L))
theorem codeI_0 {S : Sh} {b : Bool} (h : codeI S b = 0) : Valid S ∧ b = true := by
  by_cases hV : Valid S
  · rw [codeI_ok hV] at h
    cases b
    · cases h
    · exact ⟨hV, rfl⟩
  · rw [codeI_bad hV] at h; cases h
section
variable (cx : Cx) (h : List (Nat × Seg)) (n : Nat)
theorem innerCells_E (S : Sh) (hR : ShR S) (A : SV) (L : List (Int × Int)) (lo : Nat) (hA : Sp h lo n A L) (hm9 : L.length ≤ 1048576) (K : HK)
    (hK : ∀ V h' n', n ≤ n' → HExt n h h' → HOk n' h' → SpsOut h' n n' V (innerR S L).1 → K (.tup 2 (cl [V, .int .i64 (innerR S L).2])) h' n') :
    CallE Try.prog cx 25 [.agg 266 (shC S), A] h n K := by
  have hA0 := hA
  obtain ⟨jA, capA, tA, rfl, _⟩ := hA
  have hA1 : Sp ((n, shS S) :: h) lo (n + 1) (.sl jA 0 L.length capA) L := hA0.ext (by omega) (by simp only [go_sem, Nat.reduceBEq, Nat.reduceLT, Nat.reduceLeDiff, Nat.reduceAdd, Nat.reduceMul, Nat.reduceSub, Nat.reduceMod, Nat.reduceDiv, Nat.reduceEqDiff, Int.reduceToNat, reduceIte, reduceCtorEq, Int.reduceLE, Int.reduceLT, Int.reduceEq, Int.reduceNeg, Int.reduceAdd, Int.reduceSub, Int.reduceMul, HExt_cons])
  refine CallE.hokE ?_
  refine callE_of_T (P := Try.prog) hti (nt := 16) (rs := [.tmp 4, .tmp 5]) rfl rfl Try.call25 Try.func25 rfl _ (by simp only [go_sem, and_self]) (Nat.le_of_ble_eq_true rfl) _ fun hok => ?_
  have okS : HOk (n + 1) ((n, shS S) :: h) := hok.consF fun k hk => shC_flat _ _
  simp only [go_sem, Nat.reduceBEq, Nat.reduceLT, Nat.reduceLeDiff, Nat.reduceAdd, Nat.reduceMul, Nat.reduceSub, Nat.reduceMod, Nat.reduceDiv, Nat.reduceEqDiff, Int.reduceToNat, reduceIte, reduceCtorEq, Int.reduceLE, Int.reduceLT, Int.reduceEq, Int.reduceNeg, Int.reduceAdd, Int.reduceSub, Int.reduceMul]
  refine (hasAll_Q _ _ _ n 0 (shS S) S _ L lo (by simp only [go_sem, Nat.reduceBEq, Nat.reduceLT, Nat.reduceLeDiff, Nat.reduceAdd, Nat.reduceMul, Nat.reduceSub, Nat.reduceMod, Nat.reduceDiv, Nat.reduceEqDiff, Int.reduceToNat, reduceIte, reduceCtorEq, Int.reduceLE, Int.reduceLT, Int.reduceEq, Int.reduceNeg, Int.reduceAdd, Int.reduceSub, Int.reduceMul]) (by omega) (shAt_shC hR) hA1 (by omega)).A ?_
  have e0 : (L.all fun a => hasB S a.1 a.2) = allIn S L := rfl
  simp only [go_sem, Nat.reduceBEq, Nat.reduceLT, Nat.reduceLeDiff, Nat.reduceAdd, Nat.reduceMul, Nat.reduceSub, Nat.reduceMod, Nat.reduceDiv, Nat.reduceEqDiff, Int.reduceToNat, reduceIte, reduceCtorEq, Int.reduceLE, Int.reduceLT, Int.reduceEq, Int.reduceNeg, Int.reduceAdd, Int.reduceSub, Int.reduceMul, e0]
  refine (code_Q _ _ _ n 0 (shS S) S (allIn S L) (by simp only [go_sem, Nat.reduceBEq, Nat.reduceLT, Nat.reduceLeDiff, Nat.reduceAdd, Nat.reduceMul, Nat.reduceSub, Nat.reduceMod, Nat.reduceDiv, Nat.reduceEqDiff, Int.reduceToNat, reduceIte, reduceCtorEq, Int.reduceLE, Int.reduceLT, Int.reduceEq, Int.reduceNeg, Int.reduceAdd, Int.reduceSub, Int.reduceMul]) (by omega) (shAt_shC hR)).A ?_
  by_cases hc : codeI S (allIn S L) = 0
  rotate_left
  · simp only [go_sem, Nat.reduceBEq, Nat.reduceLT, Nat.reduceLeDiff, Nat.reduceAdd, Nat.reduceMul, Nat.reduceSub, Nat.reduceMod, Nat.reduceDiv, Nat.reduceEqDiff, Int.reduceToNat, reduceIte, reduceCtorEq, Int.reduceLE, Int.reduceLT, Int.reduceEq, Int.reduceNeg, Int.reduceAdd, Int.reduceSub, Int.reduceMul, hc]
    have := hK .nils ((n, shS S) :: h) (n + 1) (by omega) (by simp only [go_sem, Nat.reduceBEq, Nat.reduceLT, Nat.reduceLeDiff, Nat.reduceAdd, Nat.reduceMul, Nat.reduceSub, Nat.reduceMod, Nat.reduceDiv, Nat.reduceEqDiff, Int.reduceToNat, reduceIte, reduceCtorEq, Int.reduceLE, Int.reduceLT, Int.reduceEq, Int.reduceNeg, Int.reduceAdd, Int.reduceSub, Int.reduceMul, HExt_cons]) okS (by unfold innerR; rw [if_neg hc]; exact .inl ⟨rfl, rfl⟩)
    unfold innerR at this; rw [if_neg hc] at this; exact fun _ => this
  obtain ⟨hV, hall⟩ := codeI_0 hc
  have hgood : innerR S L = (innerL S (bareL S L), 0) := by unfold innerR; rw [if_pos hc]
  rw [hgood] at hK
  have hsm := hV.1
  have hL8 := allIn_8 hsm hall
  have hlq := strict_len (bareL_strict S L) (bareL_in hL8)
  simp only [go_sem, Nat.reduceBEq, Nat.reduceLT, Nat.reduceLeDiff, Nat.reduceAdd, Nat.reduceMul, Nat.reduceSub, Nat.reduceMod, Nat.reduceDiv, Nat.reduceEqDiff, Int.reduceToNat, reduceIte, reduceCtorEq, Int.reduceLE, Int.reduceLT, Int.reduceEq, Int.reduceNeg, Int.reduceAdd, Int.reduceSub, Int.reduceMul, hc]
  refine callA_false (bare_E _ _ _ n 0 (shS S) S _ L lo (by simp only [go_sem, Nat.reduceBEq, Nat.reduceLT, Nat.reduceLeDiff, Nat.reduceAdd, Nat.reduceMul, Nat.reduceSub, Nat.reduceMod, Nat.reduceDiv, Nat.reduceEqDiff, Int.reduceToNat, reduceIte, reduceCtorEq, Int.reduceLE, Int.reduceLT, Int.reduceEq, Int.reduceNeg, Int.reduceAdd, Int.reduceSub, Int.reduceMul]) (by omega) (shAt_shC hR) hA1 (by omega) hL8 _ fun V1 h1 n1 hn1 hx1 ok1 hV1 => ?_)
  have V1o := hV1.ok
  simp only [go_sem, Nat.reduceBEq, Nat.reduceLT, Nat.reduceLeDiff, Nat.reduceAdd, Nat.reduceMul, Nat.reduceSub, Nat.reduceMod, Nat.reduceDiv, Nat.reduceEqDiff, Int.reduceToNat, reduceIte, reduceCtorEq, Int.reduceLE, Int.reduceLT, Int.reduceEq, Int.reduceNeg, Int.reduceAdd, Int.reduceSub, Int.reduceMul, V1o]
  refine callA_false (inner_E _ _ _ n 0 (shS S) S V1 _ _ (hx1 n (by omega) _ (by simp only [go_sem, Nat.reduceBEq, Nat.reduceLT, Nat.reduceLeDiff, Nat.reduceAdd, Nat.reduceMul, Nat.reduceSub, Nat.reduceMod, Nat.reduceDiv, Nat.reduceEqDiff, Int.reduceToNat, reduceIte, reduceCtorEq, Int.reduceLE, Int.reduceLT, Int.reduceEq, Int.reduceNeg, Int.reduceAdd, Int.reduceSub, Int.reduceMul])) (by omega) (shAt_shC hR) hsm hV1 hV1.lt (by omega) _ fun V2 h2 n2 hn2 hx2 ok2 hV2 => ?_)
  have V2o := hV2.ok
  simp only [go_sem, Nat.reduceBEq, Nat.reduceLT, Nat.reduceLeDiff, Nat.reduceAdd, Nat.reduceMul, Nat.reduceSub, Nat.reduceMod, Nat.reduceDiv, Nat.reduceEqDiff, Int.reduceToNat, reduceIte, reduceCtorEq, Int.reduceLE, Int.reduceLT, Int.reduceEq, Int.reduceNeg, Int.reduceAdd, Int.reduceSub, Int.reduceMul, V2o]
  have x1 : HExt n h h1 := HExt.tr (m' := n + 1) (by simp only [go_sem, Nat.reduceBEq, Nat.reduceLT, Nat.reduceLeDiff, Nat.reduceAdd, Nat.reduceMul, Nat.reduceSub, Nat.reduceMod, Nat.reduceDiv, Nat.reduceEqDiff, Int.reduceToNat, reduceIte, reduceCtorEq, Int.reduceLE, Int.reduceLT, Int.reduceEq, Int.reduceNeg, Int.reduceAdd, Int.reduceSub, Int.reduceMul, HExt_cons]) hx1 (by omega)
  exact fun hok' => hK V2 h2 n2 (by omega) (x1.tr hx2 (by omega)) hok' (hV2.lo (by omega)).out
end
end Go.Proofs.Ytnbpgkidphdcdaa.V

/- Spreads, inner cells: the reference's walk. -/
namespace Go.Proofs.Ytnbpgkidphdcdaa.V
structure SI (h : List (Nat × Seg)) (n : Nat) (hq : List (Nat × Seg)) (nq : Nat) (V : SV) (Lst M : List (Int × Int)) : Prop where
  hn : n + 2 ≤ nq
  ok : HOk nq hq
  ex : HExt n h hq
  g0 : hget hq n = some (mkS [])
  g1 : hget hq (n + 1) = some (mkS M)
  ls : Sp hq (n + 2) nq V Lst
theorem SI.ext {h hq h' : List (Nat × Seg)} {n nq n' : Nat} {V : SV} {Lst M : List (Int × Int)} (I : SI h n hq nq V Lst M) (hx : HExt nq hq h') (hn : nq ≤ n') (ok : HOk n' h') : SI h n h' n' V Lst M :=
  ⟨Nat.le_trans I.hn hn, ok, I.ex.tr hx (by have := I.hn; omega), hx n (by have := I.hn; omega) _ I.g0, hx (n + 1) (by have := I.hn; omega) _ I.g1, I.ls.ext hn hx⟩
theorem Sp.hset {h : List (Nat × Seg)} {lo n g : Nat} {V : SV} {L : List (Int × Int)} {t : Seg} (hA : Sp h lo n V L) (hg : g < lo) : Sp (hset h g t) lo n V L := by
  obtain ⟨i, cap, s, h1, h2, h3, h4, h5⟩ := hA
  exact ⟨i, cap, s, h1, h2, h3, by rw [hget_hset, if_neg (by omega)]; exact h4, h5⟩
theorem SI.set {h hq : List (Nat × Seg)} {n nq : Nat} {V : SV} {Lst M : List (Int × Int)} (I : SI h n hq nq V Lst M) (M' : List (Int × Int)) : SI h n (hset hq (n + 1) (mkS M')) nq V Lst M' :=
  ⟨I.hn, I.ok.hset fun k hk => (mkC_flat M' k).below _, fun z hz t ht => by rw [hget_hset, if_neg (by omega)]; exact I.ex z hz t ht, by rw [hget_hset, if_neg (by omega)]; exact I.g0, hget_hset_self I.g1 _, I.ls.hset (by omega)⟩
def innK (S : Sh) (L : List (Int × Int)) (q : Nat) (b : Bool) : List (Int × Int) := L.filter fun p => if p ∈ L.take q then inP S L p else if p = L.getD q (0, 0) then b else true
theorem innK_0 (S : Sh) (L : List (Int × Int)) : innK S L 0 true = L := by
  unfold innK; simp
theorem innK_all (S : Sh) (L : List (Int × Int)) : innK S L L.length true = innerL S L := by
  unfold innK innerL
  refine List.filter_congr fun p hp => ?_
  rw [List.take_length, if_pos hp]
theorem innK_next (S : Sh) (L : List (Int × Int)) {q : Nat} (hq : q < L.length) : innK S L q (inP S L (L.getD q (0, 0))) = innK S L (q + 1) true := by
  unfold innK
  refine List.filter_congr fun p hp => ?_
  by_cases h1 : p ∈ L.take q
  · rw [if_pos h1, if_pos ((take_mem_succ hq p).2 (.inl h1))]
  · by_cases h2 : p = L.getD q (0, 0)
    · rw [if_neg h1, if_pos h2, if_pos ((take_mem_succ hq p).2 (.inr h2)), h2]
    · rw [if_neg h1, if_neg h2, if_neg (fun h => ((take_mem_succ hq p).1 h).elim h1 h2)]
      split <;> rfl
theorem innK_off (S : Sh) {L : List (Int × Int)} (hL : Strict L) {q : Nat} (hq : q < L.length) (b : Bool) : mkC ((innK S L q b).filter fun p => decide (p ≠ L.getD q (0, 0))) = mkC (innK S L q false) := mkC_congr fun p => by
  have hnt : L.getD q (0, 0) ∉ L.take q := fun hm => by
    obtain ⟨j, hj, e⟩ := List.mem_iff_getElem.1 hm
    rw [List.length_take] at hj
    rw [List.getElem_take, List.getD_eq_getElem?_getD, List.getElem?_eq_getElem hq, Option.getD_some] at e
    have := List.pairwise_iff_getElem.1 hL j q (by omega) hq (by omega)
    rw [e, ltSp_iff] at this; omega
  unfold innK
  obtain ⟨a, ha⟩ : ∃ a, L.getD q (0, 0) = a := ⟨_, rfl⟩
  simp only [ha] at hnt ⊢
  rw [List.mem_filter, List.mem_filter, List.mem_filter]
  by_cases h1 : p ∈ L.take q
  · have hne : p ≠ a := fun e => hnt (e ▸ h1)
    simp [h1, hne]
  · by_cases h2 : p = a
    · simp [h1, h2, hnt]
    · simp [h1, h2]
theorem all_take_succ (f : Int × Int → Bool) {L : List (Int × Int)} {j : Nat} (hj : j < L.length) : (L.take (j + 1)).all f = ((L.take j).all f && f (L.getD j (0, 0))) := by
  rw [List.take_succ, List.getElem?_eq_getElem hj, List.all_append, List.getD_eq_getElem?_getD, List.getElem?_eq_getElem hj]
  simp
section
variable (cx : Cx) (h : List (Nat × Seg)) (n : Nat)
set_option maxHeartbeats 3200000 in
theorem inner2_Q (g o m : Nat) (sS : Seg) (S : Sh) (L : List (Int × Int)) (hg : hget h g = some sS) (hgn : g < n) (hS : ShAt sS o S) (hsm : Small S) (hm : hget h m = some (mkS L)) (hmn : m < n) (hL : Strict L) (h8 : In8s L) :
    CallQ Try.prog cx 60 [.ptr g o, .ptr m 0] h n (.agg 64 (mkC (innerL S L))) := by
  have hg1 : n ≠ m := by omega
  have h64 := strict_len hL h8
  refine callQ_of_T (P := Try.prog) hti (nt := 62) (rs := [.cell 4 68]) rfl rfl Try.call60 Try.func60 rfl _ (by simp only [go_sem, and_self]) (Nat.le_of_ble_eq_true rfl) _ (by first | exact trivial | (refine lt_flat rfl ?_; simp [SV.flat]; done) | simp only [go_sem]) fun hok => ?_
  simp only [go_sem, Nat.reduceBEq, Nat.reduceLT, Nat.reduceLeDiff, Nat.reduceAdd, Nat.reduceMul, Nat.reduceSub, Nat.reduceMod, Nat.reduceDiv, Nat.reduceEqDiff, Int.reduceToNat, reduceIte, reduceCtorEq, Int.reduceLE, Int.reduceLT, Int.reduceEq, Int.reduceNeg, Int.reduceAdd, Int.reduceSub, Int.reduceMul, hm, hmn, hg1]
  have ok2 : HOk (n + 2) ((n + 1, mkS L) :: (n, mkS []) :: h) := (hok.consF fun k hk => mkC_flat _ _).consF fun k hk => mkC_flat _ _
  refine callA_false (list_E _ _ _ m L (by simp only [go_sem, Nat.reduceBEq, Nat.reduceLT, Nat.reduceLeDiff, Nat.reduceAdd, Nat.reduceMul, Nat.reduceSub, Nat.reduceMod, Nat.reduceDiv, Nat.reduceEqDiff, Int.reduceToNat, reduceIte, reduceCtorEq, Int.reduceLE, Int.reduceLT, Int.reduceEq, Int.reduceNeg, Int.reduceAdd, Int.reduceSub, Int.reduceMul, hm, hmn]) (by omega) _ fun V h1 n1 hn1 hx1 ok1 hV => ?_)
  rw [upM_eq hL h8] at hV
  have Vo := hV.ok
  have I0 : SI h n h1 n1 V L L := ⟨hn1, ok1, HExt.tr (m' := n + 2) (by simp only [go_sem, Nat.reduceBEq, Nat.reduceLT, Nat.reduceLeDiff, Nat.reduceAdd, Nat.reduceMul, Nat.reduceSub, Nat.reduceMod, Nat.reduceDiv, Nat.reduceEqDiff, Int.reduceToNat, reduceIte, reduceCtorEq, Int.reduceLE, Int.reduceLT, Int.reduceEq, Int.reduceNeg, Int.reduceAdd, Int.reduceSub, Int.reduceMul, HExt_cons]) hx1 (by omega), hx1 n (by omega) _ (by simp only [go_sem, Nat.reduceBEq, Nat.reduceLT, Nat.reduceLeDiff, Nat.reduceAdd, Nat.reduceMul, Nat.reduceSub, Nat.reduceMod, Nat.reduceDiv, Nat.reduceEqDiff, Int.reduceToNat, reduceIte, reduceCtorEq, Int.reduceLE, Int.reduceLT, Int.reduceEq, Int.reduceNeg, Int.reduceAdd, Int.reduceSub, Int.reduceMul]), hx1 (n + 1) (by omega) _ (by simp only [go_sem, Nat.reduceBEq, Nat.reduceLT, Nat.reduceLeDiff, Nat.reduceAdd, Nat.reduceMul, Nat.reduceSub, Nat.reduceMod, Nat.reduceDiv, Nat.reduceEqDiff, Int.reduceToNat, reduceIte, reduceCtorEq, Int.reduceLE, Int.reduceLT, Int.reduceEq, Int.reduceNeg, Int.reduceAdd, Int.reduceSub, Int.reduceMul]), hV⟩
  simp only [go_sem, Nat.reduceBEq, Nat.reduceLT, Nat.reduceLeDiff, Nat.reduceAdd, Nat.reduceMul, Nat.reduceSub, Nat.reduceMod, Nat.reduceDiv, Nat.reduceEqDiff, Int.reduceToNat, reduceIte, reduceCtorEq, Int.reduceLE, Int.reduceLT, Int.reduceEq, Int.reduceNeg, Int.reduceAdd, Int.reduceSub, Int.reduceMul, Vo]
  refine T_lp (ι := { q : Nat × List (Nat × Seg) × Nat // q.1 ≤ L.length ∧ n1 ≤ q.2.2 ∧ HExt n h q.2.1 ∧ SI h n q.2.1 q.2.2 V L (innK S L q.1 true) })
    (fun q => ([(0, .ptr g o), (1, .ptr m 0), (4, .ptr n 0), (5, .ptr (n + 1) 0), (6, V), (7, .int .i64 ((q.1.1 : Nat) : Int))], q.1.2.1, q.1.2.2)) (fun q => L.length - q.1.1) ⟨(0, h1, n1), Nat.zero_le _, Nat.le_refl _, I0.ex, by rw [innK_0]; exact I0⟩ ?_ ?_
  · refine Imp.id (by show n ≤ n1; omega) ?_ (impH.base0 ok1 (Nat.le_refl _) HExt.rfl)
    simp only [go_sem, Nat.reduceBEq, Nat.reduceLT, Nat.reduceLeDiff, Nat.reduceAdd, Nat.reduceMul, Nat.reduceSub, Nat.reduceMod, Nat.reduceDiv, Nat.reduceEqDiff, Int.reduceToNat, reduceIte, reduceCtorEq, Int.reduceLE, Int.reduceLT, Int.reduceEq, Int.reduceNeg, Int.reduceAdd, Int.reduceSub, Int.reduceMul, Vo, hV.lt]
    (try (repeat' apply And.intro) <;> first | omega | rfl | trivial | assumption | skip)
  rintro ⟨⟨q, hq, nq⟩, hql, hqn, hqx, I⟩
  simp only at hql hqn hqx I
  obtain ⟨i, cap, s, e, h2, hi, hs, h5, h6, h7, hc⟩ := I.ls
  subst e
  simp only [go_sem, Nat.reduceBEq, Nat.reduceLT, Nat.reduceLeDiff, Nat.reduceAdd, Nat.reduceMul, Nat.reduceSub, Nat.reduceMod, Nat.reduceDiv, Nat.reduceEqDiff, Int.reduceToNat, reduceIte, reduceCtorEq, Int.reduceLE, Int.reduceLT, Int.reduceEq, Int.reduceNeg, Int.reduceAdd, Int.reduceSub, Int.reduceMul, decide_eq_true_eq, decide_eq_false_iff_not]
  refine ⟨fun h1' => ?_, fun h1' => ?_⟩
  rotate_left
  · have hqL : q = L.length := by omega
    subst hqL
    have a1 := I.g1
    have a0 := I.g0
    have hn0 := I.hn
    rw [innK_all] at a1
    have c1 : n + 1 < nq := by omega
    have c0 : n < nq := by omega
    simp only [go_sem, Nat.reduceBEq, Nat.reduceLT, Nat.reduceLeDiff, Nat.reduceAdd, Nat.reduceMul, Nat.reduceSub, Nat.reduceMod, Nat.reduceDiv, Nat.reduceEqDiff, Int.reduceToNat, reduceIte, reduceCtorEq, Int.reduceLE, Int.reduceLT, Int.reduceEq, Int.reduceNeg, Int.reduceAdd, Int.reduceSub, Int.reduceMul, a1, a0, c1, c0]
    exact fun z hz t ht => by rw [hget_hset, if_neg (by omega)]; exact hqx z hz t ht
  have r1 : (0 : Int) ≤ q ∧ (q : Int) < L.length := ⟨by omega, by omega⟩
  have b1 : q * 2 ≤ s.n - 2 := by omega
  have b2 : 2 ≤ s.n := by omega
  have b3 : q * 2 + 2 ≤ s.n := by omega
  have a8 := h8 _ (spots_at (L := L) (j := q) (by omega))
  simp only [go_sem, Nat.reduceBEq, Nat.reduceLT, Nat.reduceLeDiff, Nat.reduceAdd, Nat.reduceMul, Nat.reduceSub, Nat.reduceMod, Nat.reduceDiv, Nat.reduceEqDiff, Int.reduceToNat, reduceIte, reduceCtorEq, Int.reduceLE, Int.reduceLT, Int.reduceEq, Int.reduceNeg, Int.reduceAdd, Int.reduceSub, Int.reduceMul, hs, hi, r1, b1, b2, b3, hc (q * 2) (by omega), hc (q * 2 + 1) (by omega), spotsC_x, spotsC_y]
  refine callA_false (beside2_E _ _ _ g o sS S _ _ (hqx g hgn _ hg) (by omega) hS hsm (by have := a8.1; omega) (by have := a8.2; omega) _ fun capN => ?_)
  have hnl := nb_len4 S (L.getD q (0, 0)).1 (L.getD q (0, 0)).2
  have hPB : inP S L (L.getD q (0, 0)) = (nb S (L.getD q (0, 0)).1 (L.getD q (0, 0)).2).all fun p => decide (p ∈ L) := rfl
  have hnx := innK_next S L (q := q) (by omega)
  have hin : In8s (nb S (L.getD q (0, 0)).1 (L.getD q (0, 0)).2) := fun p hp => nb_in hsm hp
  generalize hNB : nb S (L.getD q (0, 0)).1 (L.getD q (0, 0)).2 = B at *
  have okB : HOk (nq + 1) ((nq, ⟨B.length * 2, spotsC B, true, none⟩) :: hq) := I.ok.consF fun k hk => spotsC_flat _ _
  have hmq : hget hq m = some (mkS L) := hqx m hmn _ hm
  have IB := I.ext (h' := (nq, ⟨B.length * 2, spotsC B, true, none⟩) :: hq) (n' := nq + 1) (by simp only [go_sem, Nat.reduceBEq, Nat.reduceLT, Nat.reduceLeDiff, Nat.reduceAdd, Nat.reduceMul, Nat.reduceSub, Nat.reduceMod, Nat.reduceDiv, Nat.reduceEqDiff, Int.reduceToNat, reduceIte, reduceCtorEq, Int.reduceLE, Int.reduceLT, Int.reduceEq, Int.reduceNeg, Int.reduceAdd, Int.reduceSub, Int.reduceMul, HExt_cons]) (by omega) okB
  have hn0 := I.hn
  simp only [go_sem, Nat.reduceBEq, Nat.reduceLT, Nat.reduceLeDiff, Nat.reduceAdd, Nat.reduceMul, Nat.reduceSub, Nat.reduceMod, Nat.reduceDiv, Nat.reduceEqDiff, Int.reduceToNat, reduceIte, reduceCtorEq, Int.reduceLE, Int.reduceLT, Int.reduceEq, Int.reduceNeg, Int.reduceAdd, Int.reduceSub, Int.reduceMul]
  refine T_lp (ι := { r : Nat × List (Nat × Seg) × Nat // (r.1 ≤ B.length ∧ nq + 1 ≤ r.2.2) ∧ HExt n h r.2.1 ∧ hget r.2.1 nq = some ⟨B.length * 2, spotsC B, true, none⟩ ∧ SI h n r.2.1 r.2.2 (.sl i 0 L.length cap) L (innK S L q ((B.take r.1).all fun p => decide (p ∈ L))) })
    (fun r => ([(0, .ptr g o), (1, .ptr m 0), (4, .ptr n 0), (5, .ptr (n + 1) 0), (6, .sl i 0 L.length cap), (7, .int .i64 ((q : Nat) : Int)), (8, .sl nq 0 B.length capN), (9, .int .i64 ((r.1.1 : Nat) : Int))], r.1.2.1, r.1.2.2)) (fun r => B.length - r.1.1) ⟨(0, _, nq + 1), ⟨Nat.zero_le _, Nat.le_refl _⟩, IB.ex, hget_hit _ _ _, by rw [List.take_zero]; exact IB⟩ ?_ ?_
  · refine Imp.id (by show n ≤ nq + 1; omega) ?_ (impH.base0 okB (Nat.le_refl _) HExt.rfl)
    simp only [go_sem, Nat.reduceBEq, Nat.reduceLT, Nat.reduceLeDiff, Nat.reduceAdd, Nat.reduceMul, Nat.reduceSub, Nat.reduceMod, Nat.reduceDiv, Nat.reduceEqDiff, Int.reduceToNat, reduceIte, reduceCtorEq, Int.reduceLE, Int.reduceLT, Int.reduceEq, Int.reduceNeg, Int.reduceAdd, Int.reduceSub, Int.reduceMul]
    (try (repeat' apply And.intro) <;> first | omega | rfl | trivial | assumption | skip)
  rintro ⟨⟨k, hr, nr⟩, ⟨hkl, hrn⟩, hrx, hrB, J⟩
  simp only at hkl hrn hrx hrB J
  simp only [go_sem, Nat.reduceBEq, Nat.reduceLT, Nat.reduceLeDiff, Nat.reduceAdd, Nat.reduceMul, Nat.reduceSub, Nat.reduceMod, Nat.reduceDiv, Nat.reduceEqDiff, Int.reduceToNat, reduceIte, reduceCtorEq, Int.reduceLE, Int.reduceLT, Int.reduceEq, Int.reduceNeg, Int.reduceAdd, Int.reduceSub, Int.reduceMul, decide_eq_true_eq, decide_eq_false_iff_not]
  refine ⟨fun k1 => ?_, fun k1 => ?_⟩
  rotate_left
  · have hkB : k = B.length := by omega
    subst hkB
    rw [List.take_length] at J
    refine ⟨⟨(q + 1, hr, nr), by show q + 1 ≤ L.length; omega, by show n1 ≤ nr; omega, hrx, by rw [← hnx, hPB]; exact J⟩, by show L.length - (q + 1) < L.length - q; omega, ?_⟩
    refine Imp.id (by show n ≤ nr; omega) ?_ (impH.base0 J.ok (Nat.le_refl _) HExt.rfl)
    simp only [go_sem, Nat.reduceBEq, Nat.reduceLT, Nat.reduceLeDiff, Nat.reduceAdd, Nat.reduceMul, Nat.reduceSub, Nat.reduceMod, Nat.reduceDiv, Nat.reduceEqDiff, Int.reduceToNat, reduceIte, reduceCtorEq, Int.reduceLE, Int.reduceLT, Int.reduceEq, Int.reduceNeg, Int.reduceAdd, Int.reduceSub, Int.reduceMul, w64N (a := (q : Int) + 1) (k := q + 1) (by omega) (by omega)]
    (try (repeat' apply And.intro) <;> first | omega | rfl | trivial | assumption | skip)
  have p8 := hin _ (spots_at (L := B) (j := k) (by omega))
  have q1 : (0 : Int) ≤ k ∧ (k : Int) < B.length := ⟨by omega, by omega⟩
  have d1 : k * 2 ≤ B.length * 2 - 2 := by omega
  have d2 : 2 ≤ B.length * 2 := by omega
  have d3 : k * 2 + 2 ≤ B.length * 2 := by omega
  have j1 := J.g1
  have c1 : n + 1 < nr := by omega
  have c2 : nq < nr := by omega
  have hmr : hget hr m = some (mkS L) := hrx m hmn _ hm
  have hmn2 : m < nr := by omega
  have hc3 := mkC_at L p8.2.1 p8.1.1 p8.1.2
  have hal := all_take_succ (fun p : Int × Int => decide (p ∈ L)) (L := B) (j := k) (by omega)
  have c4 : i < nr := J.ls.lt
  refine T_draw hti _ _ (by kernel_rfl) (by kernel_rfl) ?_
  simp only [go_sem, Nat.reduceBEq, Nat.reduceLT, Nat.reduceLeDiff, Nat.reduceAdd, Nat.reduceMul, Nat.reduceSub, Nat.reduceMod, Nat.reduceDiv, Nat.reduceEqDiff, Int.reduceToNat, reduceIte, reduceCtorEq, Int.reduceLE, Int.reduceLT, Int.reduceEq, Int.reduceNeg, Int.reduceAdd, Int.reduceSub, Int.reduceMul, hrB, hmr, hmn2, j1, c1, c2, q1, d1, d2, d3, spotsC_x, spotsC_y, p8.1.1, p8.1.2, p8.2.1, p8.2.2, hc3]
  by_cases hbL : B.getD k (0, 0) ∈ L
  · have hal2 : (B.take (k + 1)).all (fun p => decide (p ∈ L)) = (B.take k).all fun p => decide (p ∈ L) := by rw [hal, decide_eq_true hbL, Bool.and_true]
    simp only [go_sem, Nat.reduceBEq, Nat.reduceLT, Nat.reduceLeDiff, Nat.reduceAdd, Nat.reduceMul, Nat.reduceSub, Nat.reduceMod, Nat.reduceDiv, Nat.reduceEqDiff, Int.reduceToNat, reduceIte, reduceCtorEq, Int.reduceLE, Int.reduceLT, Int.reduceEq, Int.reduceNeg, Int.reduceAdd, Int.reduceSub, Int.reduceMul, show ((B.getD k (0, 0)).1, (B.getD k (0, 0)).2) = B.getD k (0, 0) from rfl, hbL]
    refine ⟨by omega, by have := p8.1; have := p8.2; omega, ⟨(k + 1, hr, nr), ⟨by show k + 1 ≤ B.length; omega, by show nq + 1 ≤ nr; omega⟩, hrx, hrB, by rw [hal2]; exact J⟩, by show B.length - (k + 1) < B.length - k; omega, ?_⟩
    refine Imp.id (by show n ≤ nr; omega) ?_ (impH.base0 J.ok (Nat.le_refl _) HExt.rfl)
    simp only [go_sem, Nat.reduceBEq, Nat.reduceLT, Nat.reduceLeDiff, Nat.reduceAdd, Nat.reduceMul, Nat.reduceSub, Nat.reduceMod, Nat.reduceDiv, Nat.reduceEqDiff, Int.reduceToNat, reduceIte, reduceCtorEq, Int.reduceLE, Int.reduceLT, Int.reduceEq, Int.reduceNeg, Int.reduceAdd, Int.reduceSub, Int.reduceMul, w64N (a := (k : Int) + 1) (k := k + 1) (by omega) (by omega), c4, c2, hmn2]
    (try (repeat' apply And.intro) <;> first | omega | rfl | trivial | assumption | skip)
  · have hal2 : (B.take (k + 1)).all (fun p => decide (p ∈ L)) = false := by rw [hal, decide_eq_false hbL, Bool.and_false]
    have hst3 := mkC_unset (innK S L q ((B.take k).all fun p => decide (p ∈ L))) a8.2.1 a8.1.1 a8.1.2
    simp only [go_sem, Nat.reduceBEq, Nat.reduceLT, Nat.reduceLeDiff, Nat.reduceAdd, Nat.reduceMul, Nat.reduceSub, Nat.reduceMod, Nat.reduceDiv, Nat.reduceEqDiff, Int.reduceToNat, reduceIte, reduceCtorEq, Int.reduceLE, Int.reduceLT, Int.reduceEq, Int.reduceNeg, Int.reduceAdd, Int.reduceSub, Int.reduceMul, show ((B.getD k (0, 0)).1, (B.getD k (0, 0)).2) = B.getD k (0, 0) from rfl, hbL]
    refine ⟨by omega, by have := p8.1; have := p8.2; omega, ?_⟩
    refine T_drawT hti 12 _ _ (by kernel_rfl) (by kernel_rfl) ?_
    obtain ⟨i', cap', s', e', k2, k3, k4, k5, k6, k7, k8⟩ := J.ls
    cases e'
    simp only [go_sem, Nat.reduceBEq, Nat.reduceLT, Nat.reduceLeDiff, Nat.reduceAdd, Nat.reduceMul, Nat.reduceSub, Nat.reduceMod, Nat.reduceDiv, Nat.reduceEqDiff, Int.reduceToNat, reduceIte, reduceCtorEq, Int.reduceLE, Int.reduceLT, Int.reduceEq, Int.reduceNeg, Int.reduceAdd, Int.reduceSub, Int.reduceMul, k4, k3, j1, c1, c2, r1, show q * 2 ≤ s'.n - 2 by omega, show 2 ≤ s'.n by omega, show q * 2 + 2 ≤ s'.n by omega, k8 (q * 2) (by omega), k8 (q * 2 + 1) (by omega), spotsC_x, spotsC_y, a8.1.1, a8.1.2, a8.2.1, a8.2.2, hst3]
    refine ⟨by omega, by have := a8.1; have := a8.2; omega, ?_⟩
    have hoff := innK_off S hL (q := q) (by omega) ((B.take k).all fun p => decide (p ∈ L))
    rw [show mkC (List.filter (fun p => decide ¬p = ((L.getD q (0, 0)).fst, (L.getD q (0, 0)).snd)) (innK S L q ((List.take k B).all fun p => decide (p ∈ L)))) = mkC (innK S L q false) from hoff]
    have J2 := J.set (innK S L q ((B.take (k + 1)).all fun p => decide (p ∈ L)))
    rw [hal2] at J2
    refine ⟨⟨(k + 1, _, nr), ⟨by show k + 1 ≤ B.length; omega, by show nq + 1 ≤ nr; omega⟩, J2.ex, by show hget (hset hr (n + 1) _) nq = _; rw [hget_hset, if_neg (by omega)]; exact hrB, by rw [hal2]; exact J2⟩, by show B.length - (k + 1) < B.length - k; omega, ?_⟩
    refine Imp.id (by show n ≤ nr; omega) ?_ (impH.base0 J2.ok (Nat.le_refl _) HExt.rfl)
    simp only [go_sem, Nat.reduceBEq, Nat.reduceLT, Nat.reduceLeDiff, Nat.reduceAdd, Nat.reduceMul, Nat.reduceSub, Nat.reduceMod, Nat.reduceDiv, Nat.reduceEqDiff, Int.reduceToNat, reduceIte, reduceCtorEq, Int.reduceLE, Int.reduceLT, Int.reduceEq, Int.reduceNeg, Int.reduceAdd, Int.reduceSub, Int.reduceMul, w64N (a := (k : Int) + 1) (k := k + 1) (by omega) (by omega), k3, c2, hmn2]
    (try (repeat' apply And.intro) <;> first | omega | rfl | trivial | assumption | skip)
end
end Go.Proofs.Ytnbpgkidphdcdaa.V

/- Forerunners: the program's answers. -/
namespace Go.Proofs.Ytnbpgkidphdcdaa.V
section
variable (cx : Cx) (h : List (Nat × Seg)) (n : Nat)
end
end Go.Proofs.Ytnbpgkidphdcdaa.V

/- Sets of cells: the reference's answers. -/
namespace Go.Proofs.Ytnbpgkidphdcdaa.V
theorem mkC_bare (S : Sh) (L : List (Int × Int)) : mkC (L.filter fun p => !waxB S p.1 p.2) = mkC (bareL S L) := mkC_congr fun p => by
  unfold bareL; rw [List.mem_filter, List.mem_filter, setL_mem]
@[go_sem] theorem fitC_mk (A B : List (Int × Int)) (j k : Nat) : fitC .bool (mkC A j) (mkC B k) = True := rfl
section
variable (cx : Cx) (h : List (Nat × Seg)) (n : Nat)
end
end Go.Proofs.Ytnbpgkidphdcdaa.V

/- Sets of cells: what the reference answers. -/
namespace Go.Proofs.Ytnbpgkidphdcdaa.V
section
variable (cx : Cx) (h : List (Nat × Seg)) (n : Nat)
theorem inner2_E (S : Sh) (hR : ShR S) (A : SV) (L : List (Int × Int)) (lo : Nat) (hA : Sp h lo n A L) (hm9 : L.length ≤ 1048576) (hLR : SpotsR L) (K : HK)
    (hK : ∀ V h' n', n ≤ n' → HExt n h h' → HOk n' h' → SpsOut h' n n' V (innerR S L).1 → K (.tup 2 (cl [V, .int .i64 (innerR S L).2])) h' n') :
    CallE Try.prog cx 24 [.agg 266 (shC S), A] h n K := by
  have hA0 := hA
  obtain ⟨jA, capA, tA, rfl, _⟩ := hA
  have hA1 : Sp ((n, shS S) :: h) lo (n + 1) (.sl jA 0 L.length capA) L := hA0.ext (by omega) (by simp only [go_sem, Nat.reduceBEq, Nat.reduceLT, Nat.reduceLeDiff, Nat.reduceAdd, Nat.reduceMul, Nat.reduceSub, Nat.reduceMod, Nat.reduceDiv, Nat.reduceEqDiff, Int.reduceToNat, reduceIte, reduceCtorEq, Int.reduceLE, Int.reduceLT, Int.reduceEq, Int.reduceNeg, Int.reduceAdd, Int.reduceSub, Int.reduceMul, HExt_cons])
  unfold innerR at hK
  refine CallE.hokE ?_
  refine callE_of_T (P := Try.prog) hti (nt := 19) (rs := [.tmp 4, .tmp 5]) rfl rfl Try.call24 Try.func24 rfl _ (by simp only [go_sem, and_self]) (Nat.le_of_ble_eq_true rfl) _ fun hok => ?_
  have okS : HOk (n + 1) ((n, shS S) :: h) := hok.consF fun k hk => shC_flat _ _
  have okZ : HOk (n + 2) ((n + 1, ⟨0, zrow (ti 39), true, some (39, 0)⟩) :: (n, shS S) :: h) := okS.consF fun k hk => absurd hk (Nat.not_lt_zero k)
  have e0 : (L.all fun a => hasB S a.1 a.2) = allIn S L := rfl
  simp only [go_sem, Nat.reduceBEq, Nat.reduceLT, Nat.reduceLeDiff, Nat.reduceAdd, Nat.reduceMul, Nat.reduceSub, Nat.reduceMod, Nat.reduceDiv, Nat.reduceEqDiff, Int.reduceToNat, reduceIte, reduceCtorEq, Int.reduceLE, Int.reduceLT, Int.reduceEq, Int.reduceNeg, Int.reduceAdd, Int.reduceSub, Int.reduceMul]
  refine (asked6_Q _ _ _ n 0 (shS S) S _ L lo (by simp only [go_sem, Nat.reduceBEq, Nat.reduceLT, Nat.reduceLeDiff, Nat.reduceAdd, Nat.reduceMul, Nat.reduceSub, Nat.reduceMod, Nat.reduceDiv, Nat.reduceEqDiff, Int.reduceToNat, reduceIte, reduceCtorEq, Int.reduceLE, Int.reduceLT, Int.reduceEq, Int.reduceNeg, Int.reduceAdd, Int.reduceSub, Int.reduceMul]) (by omega) (shAt_shC hR) hA1 hm9 hLR).A ?_
  rw [e0]
  by_cases hc1 : codeI S (allIn S L) = 0
  rotate_left
  · rw [if_neg hc1] at hK
    simp only [go_sem, Nat.reduceBEq, Nat.reduceLT, Nat.reduceLeDiff, Nat.reduceAdd, Nat.reduceMul, Nat.reduceSub, Nat.reduceMod, Nat.reduceDiv, Nat.reduceEqDiff, Int.reduceToNat, reduceIte, reduceCtorEq, Int.reduceLE, Int.reduceLT, Int.reduceEq, Int.reduceNeg, Int.reduceAdd, Int.reduceSub, Int.reduceMul, hc1]
    exact fun _ => hK (.sl (n + 1) 0 0 0) _ (n + 2) (by omega) (by simp only [go_sem, Nat.reduceBEq, Nat.reduceLT, Nat.reduceLeDiff, Nat.reduceAdd, Nat.reduceMul, Nat.reduceSub, Nat.reduceMod, Nat.reduceDiv, Nat.reduceEqDiff, Int.reduceToNat, reduceIte, reduceCtorEq, Int.reduceLE, Int.reduceLT, Int.reduceEq, Int.reduceNeg, Int.reduceAdd, Int.reduceSub, Int.reduceMul, HExt_cons]) okZ (.inr ⟨n + 1, 0, _, rfl, by omega, by omega, hget_hit _ _ _, rfl, rfl, fun k hk => absurd hk (Nat.not_lt_zero k)⟩)
  rw [if_pos hc1] at hK
  obtain ⟨hV, hall⟩ := codeI_0 hc1
  have hsm := hV.1
  have hL8 := allIn_8 hsm hall
  have hb8 := bareL_in (S := S) hL8
  have hbs := bareL_strict S L
  simp only [go_sem, Nat.reduceBEq, Nat.reduceLT, Nat.reduceLeDiff, Nat.reduceAdd, Nat.reduceMul, Nat.reduceSub, Nat.reduceMod, Nat.reduceDiv, Nat.reduceEqDiff, Int.reduceToNat, reduceIte, reduceCtorEq, Int.reduceLE, Int.reduceLT, Int.reduceEq, Int.reduceNeg, Int.reduceAdd, Int.reduceSub, Int.reduceMul, hc1]
  refine (setM_Q _ _ _ n 0 (shS S) S _ L lo (by simp only [go_sem, Nat.reduceBEq, Nat.reduceLT, Nat.reduceLeDiff, Nat.reduceAdd, Nat.reduceMul, Nat.reduceSub, Nat.reduceMod, Nat.reduceDiv, Nat.reduceEqDiff, Int.reduceToNat, reduceIte, reduceCtorEq, Int.reduceLE, Int.reduceLT, Int.reduceEq, Int.reduceNeg, Int.reduceAdd, Int.reduceSub, Int.reduceMul]) (by omega) (shAt_shC hR) hA1 hm9 hL8).A ?_
  rw [mkC_bare]
  generalize hOO : bareL S L = O at *
  simp only [go_sem, Nat.reduceBEq, Nat.reduceLT, Nat.reduceLeDiff, Nat.reduceAdd, Nat.reduceMul, Nat.reduceSub, Nat.reduceMod, Nat.reduceDiv, Nat.reduceEqDiff, Int.reduceToNat, reduceIte, reduceCtorEq, Int.reduceLE, Int.reduceLT, Int.reduceEq, Int.reduceNeg, Int.reduceAdd, Int.reduceSub, Int.reduceMul]
  refine (inner2_Q _ _ _ n 0 (n + 1) (shS S) S O (by simp only [go_sem, Nat.reduceBEq, Nat.reduceLT, Nat.reduceLeDiff, Nat.reduceAdd, Nat.reduceMul, Nat.reduceSub, Nat.reduceMod, Nat.reduceDiv, Nat.reduceEqDiff, Int.reduceToNat, reduceIte, reduceCtorEq, Int.reduceLE, Int.reduceLT, Int.reduceEq, Int.reduceNeg, Int.reduceAdd, Int.reduceSub, Int.reduceMul]) (by omega) (shAt_shC hR) hsm (hget_hit _ _ _) (by omega) hbs hb8).A ?_
  simp only [go_sem, Nat.reduceBEq, Nat.reduceLT, Nat.reduceLeDiff, Nat.reduceAdd, Nat.reduceMul, Nat.reduceSub, Nat.reduceMod, Nat.reduceDiv, Nat.reduceEqDiff, Int.reduceToNat, reduceIte, reduceCtorEq, Int.reduceLE, Int.reduceLT, Int.reduceEq, Int.reduceNeg, Int.reduceAdd, Int.reduceSub, Int.reduceMul]
  refine callA_false (list_E _ _ _ (n + 2) (innerL S O) (hget_hit _ _ _) (by omega) _ fun V h1 n1 hn1 hx1 ok1 hV1 => ?_)
  rw [upM_eq (innerL_strict S hbs) (innerL_in hb8)] at hV1
  have Vo := hV1.ok
  simp only [go_sem, Nat.reduceBEq, Nat.reduceLT, Nat.reduceLeDiff, Nat.reduceAdd, Nat.reduceMul, Nat.reduceSub, Nat.reduceMod, Nat.reduceDiv, Nat.reduceEqDiff, Int.reduceToNat, reduceIte, reduceCtorEq, Int.reduceLE, Int.reduceLT, Int.reduceEq, Int.reduceNeg, Int.reduceAdd, Int.reduceSub, Int.reduceMul, Vo]
  exact fun hok' => hK V h1 n1 (by omega) (HExt.tr (m' := n + 3) (by simp only [go_sem, Nat.reduceBEq, Nat.reduceLT, Nat.reduceLeDiff, Nat.reduceAdd, Nat.reduceMul, Nat.reduceSub, Nat.reduceMod, Nat.reduceDiv, Nat.reduceEqDiff, Int.reduceToNat, reduceIte, reduceCtorEq, Int.reduceLE, Int.reduceLT, Int.reduceEq, Int.reduceNeg, Int.reduceAdd, Int.reduceSub, Int.reduceMul, HExt_cons]) hx1 (by omega)) hok' (hV1.lo (by omega)).out
end
end Go.Proofs.Ytnbpgkidphdcdaa.V

/- The laws of SpreadCells, SpreadSteps, InnerCells, HasForerunner, LongestPast: the walk. -/
namespace Go.Proofs.Ytnbpgkidphdcdaa.V
theorem innerR_len {S : Sh} (L : List (Int × Int)) : (innerR S L).1.length ≤ 64 := by
  unfold innerR
  split
  · rename_i hc
    obtain ⟨hV, hb⟩ := codeI_0 hc
    have h8 := allIn_8 hV.1 hb
    exact strict_len (innerL_strict S (bareL_strict S L)) (innerL_in (bareL_in h8))
  · exact Nat.zero_le _
theorem Sp_spsS {h : List (Nat × Seg)} {n lo : Nat} (hlo : lo ≤ n) (L : List (Int × Int)) : Sp ((n, spsS L) :: h) lo (n + 1) (.sl n 0 L.length L.length) L :=
  ⟨n, L.length, spsS L, rfl, hlo, Nat.lt_succ_self n, hget_hit _ _ _, rfl, rfl, Nat.le_refl _, fun _ _ => rfl⟩
section
variable (cx : Cx) (h : List (Nat × Seg)) (n : Nat)
theorem lawInner_Q (F : Nat → SV) (S : Sh) (hF : ShF F S) (A : SV) (L : List (Int × Int)) (hA : SpsArg h n A L) (hLR : SpotsR L) (hl : L.length ≤ 9223372036854775807) :
    CallQ Try.prog cx 6 [.agg 266 F, A] h n (.bool true) := by
  have hone := hF.ones
  have hAo := hA.ok
  have hRl := innerR_len (S := S) L
  refine callQ_of_T (P := Try.prog) hti (nt := 104) (rs := [.tmp 4]) rfl rfl Try.call6 Try.func6 rfl _ (by simp only [go_sem, hAo]) (Nat.le_of_ble_eq_true rfl) _ (by trivial) fun hok => ?_
  simp only [go_sem, Nat.reduceBEq, Nat.reduceLT, Nat.reduceLeDiff, Nat.reduceAdd, Nat.reduceMul, Nat.reduceSub, Nat.reduceMod, Nat.reduceDiv, Nat.reduceEqDiff, Int.reduceToNat, reduceIte, reduceCtorEq, Int.reduceLE, Int.reduceLT, Int.reduceEq, Int.reduceNeg, Int.reduceAdd, Int.reduceSub, Int.reduceMul, hone, hAo]
  refine (szSpotS_Q _ _ _ A L (hA.ext (by omega) (by simp only [go_sem, Nat.reduceBEq, Nat.reduceLT, Nat.reduceLeDiff, Nat.reduceAdd, Nat.reduceMul, Nat.reduceSub, Nat.reduceMod, Nat.reduceDiv, Nat.reduceEqDiff, Int.reduceToNat, reduceIte, reduceCtorEq, Int.reduceLE, Int.reduceLT, Int.reduceEq, Int.reduceNeg, Int.reduceAdd, Int.reduceSub, Int.reduceMul, HExt_cons])) 1048576 (by omega) (by omega)).A ?_
  by_cases hbig : (1048576 : Int) - L.length < 0
  · simp only [go_sem, Nat.reduceBEq, Nat.reduceLT, Nat.reduceLeDiff, Nat.reduceAdd, Nat.reduceMul, Nat.reduceSub, Nat.reduceMod, Nat.reduceDiv, Nat.reduceEqDiff, Int.reduceToNat, reduceIte, reduceCtorEq, Int.reduceLE, Int.reduceLT, Int.reduceEq, Int.reduceNeg, Int.reduceAdd, Int.reduceSub, Int.reduceMul, hbig]
  have hm9 : L.length ≤ 1000000000 := by omega
  simp only [go_sem, Nat.reduceBEq, Nat.reduceLT, Nat.reduceLeDiff, Nat.reduceAdd, Nat.reduceMul, Nat.reduceSub, Nat.reduceMod, Nat.reduceDiv, Nat.reduceEqDiff, Int.reduceToNat, reduceIte, reduceCtorEq, Int.reduceLE, Int.reduceLT, Int.reduceEq, Int.reduceNeg, Int.reduceAdd, Int.reduceSub, Int.reduceMul, hbig, hone, hAo]
  generalize hRR : (innerR S L).1 = R at hRl
  generalize hcc : (innerR S L).2 = c
  refine (toSheet_Q _ _ _ F S hF).A ?_
  simp only [go_sem, Nat.reduceBEq, Nat.reduceLT, Nat.reduceLeDiff, Nat.reduceAdd, Nat.reduceMul, Nat.reduceSub, Nat.reduceMod, Nat.reduceDiv, Nat.reduceEqDiff, Int.reduceToNat, reduceIte, reduceCtorEq, Int.reduceLE, Int.reduceLT, Int.reduceEq, Int.reduceNeg, Int.reduceAdd, Int.reduceSub, Int.reduceMul, hone, hAo]
  refine callA_false (toSpotS_E _ _ _ A L (hA.ext (by omega) (by simp only [go_sem, Nat.reduceBEq, Nat.reduceLT, Nat.reduceLeDiff, Nat.reduceAdd, Nat.reduceMul, Nat.reduceSub, Nat.reduceMod, Nat.reduceDiv, Nat.reduceEqDiff, Int.reduceToNat, reduceIte, reduceCtorEq, Int.reduceLE, Int.reduceLT, Int.reduceEq, Int.reduceNeg, Int.reduceAdd, Int.reduceSub, Int.reduceMul, HExt_cons])) hm9 _ ?_)
  simp only [go_sem, Nat.reduceBEq, Nat.reduceLT, Nat.reduceLeDiff, Nat.reduceAdd, Nat.reduceMul, Nat.reduceSub, Nat.reduceMod, Nat.reduceDiv, Nat.reduceEqDiff, Int.reduceToNat, reduceIte, reduceCtorEq, Int.reduceLE, Int.reduceLT, Int.reduceEq, Int.reduceNeg, Int.reduceAdd, Int.reduceSub, Int.reduceMul, hone, hAo]
  refine callA_false (inner2_E _ _ _ S hF.R _ L 0 (Sp_spsS (by omega) L) (by omega) hLR _ ?_)
  intro V1 h1 n1 hn1 hx1 ok1 I1
  rw [hRR] at I1
  rw [hcc]
  have V1o := I1.ok
  have g10 : hget h1 n = some ⟨266, F, true, none⟩ := hx1 n (by omega) _ (by simp only [go_sem, Nat.reduceBEq, Nat.reduceLT, Nat.reduceLeDiff, Nat.reduceAdd, Nat.reduceMul, Nat.reduceSub, Nat.reduceMod, Nat.reduceDiv, Nat.reduceEqDiff, Int.reduceToNat, reduceIte, reduceCtorEq, Int.reduceLE, Int.reduceLT, Int.reduceEq, Int.reduceNeg, Int.reduceAdd, Int.reduceSub, Int.reduceMul])
  have X1 : HExt n h h1 := HExt.tr (m' := n + 2) (by simp only [go_sem, Nat.reduceBEq, Nat.reduceLT, Nat.reduceLeDiff, Nat.reduceAdd, Nat.reduceMul, Nat.reduceSub, Nat.reduceMod, Nat.reduceDiv, Nat.reduceEqDiff, Int.reduceToNat, reduceIte, reduceCtorEq, Int.reduceLE, Int.reduceLT, Int.reduceEq, Int.reduceNeg, Int.reduceAdd, Int.reduceSub, Int.reduceMul, HExt_cons]) hx1 (by omega)
  have c10 : n < n1 := by omega
  simp only [go_sem, Nat.reduceBEq, Nat.reduceLT, Nat.reduceLeDiff, Nat.reduceAdd, Nat.reduceMul, Nat.reduceSub, Nat.reduceMod, Nat.reduceDiv, Nat.reduceEqDiff, Int.reduceToNat, reduceIte, reduceCtorEq, Int.reduceLE, Int.reduceLT, Int.reduceEq, Int.reduceNeg, Int.reduceAdd, Int.reduceSub, Int.reduceMul, V1o, hAo]
  refine callA_false (toSpotS_E _ _ _ A L (hA.ext (by omega) X1) hm9 _ ?_)
  have ne0 : n1 ≠ n := by omega
  simp only [go_sem, Nat.reduceBEq, Nat.reduceLT, Nat.reduceLeDiff, Nat.reduceAdd, Nat.reduceMul, Nat.reduceSub, Nat.reduceMod, Nat.reduceDiv, Nat.reduceEqDiff, Int.reduceToNat, reduceIte, reduceCtorEq, Int.reduceLE, Int.reduceLT, Int.reduceEq, Int.reduceNeg, Int.reduceAdd, Int.reduceSub, Int.reduceMul, V1o, hAo, hone, g10, c10, ne0]
  refine (toSheet_Q _ _ _ F S hF).A ?_
  simp only [go_sem, Nat.reduceBEq, Nat.reduceLT, Nat.reduceLeDiff, Nat.reduceAdd, Nat.reduceMul, Nat.reduceSub, Nat.reduceMod, Nat.reduceDiv, Nat.reduceEqDiff, Int.reduceToNat, reduceIte, reduceCtorEq, Int.reduceLE, Int.reduceLT, Int.reduceEq, Int.reduceNeg, Int.reduceAdd, Int.reduceSub, Int.reduceMul, hone, hAo]
  refine callA_false (innerCells_E _ _ _ S hF.R _ L 0 (Sp_spsS (by omega) L) (by omega) _ ?_)
  intro V2 h2 n2 hn2 hx2 ok2 I2
  rw [hRR] at I2
  rw [hcc]
  have V2o := I2.ok
  have x2 : HExt n1 h1 h2 := HExt.tr (m' := n1 + 1) (by simp only [go_sem, Nat.reduceBEq, Nat.reduceLT, Nat.reduceLeDiff, Nat.reduceAdd, Nat.reduceMul, Nat.reduceSub, Nat.reduceMod, Nat.reduceDiv, Nat.reduceEqDiff, Int.reduceToNat, reduceIte, reduceCtorEq, Int.reduceLE, Int.reduceLT, Int.reduceEq, Int.reduceNeg, Int.reduceAdd, Int.reduceSub, Int.reduceMul, HExt_cons]) hx2 (by omega)
  have X2 := X1.tr x2 (by omega)
  have g21 : hget h2 n1 = some (spsS L) := hx2 n1 (by omega) _ (by simp only [go_sem, Nat.reduceBEq, Nat.reduceLT, Nat.reduceLeDiff, Nat.reduceAdd, Nat.reduceMul, Nat.reduceSub, Nat.reduceMod, Nat.reduceDiv, Nat.reduceEqDiff, Int.reduceToNat, reduceIte, reduceCtorEq, Int.reduceLE, Int.reduceLT, Int.reduceEq, Int.reduceNeg, Int.reduceAdd, Int.reduceSub, Int.reduceMul])
  have c21 : n1 < n2 := by omega
  simp only [go_sem, Nat.reduceBEq, Nat.reduceLT, Nat.reduceLeDiff, Nat.reduceAdd, Nat.reduceMul, Nat.reduceSub, Nat.reduceMod, Nat.reduceDiv, Nat.reduceEqDiff, Int.reduceToNat, reduceIte, reduceCtorEq, Int.reduceLE, Int.reduceLT, Int.reduceEq, Int.reduceNeg, Int.reduceAdd, Int.reduceSub, Int.reduceMul, V1o, V2o, hAo]
  refine (eqSpots_Q _ _ _ V2 V1 R _ _ I2 (I1.ext (by omega) x2) (by omega)).A ?_
  simp only [go_sem, Nat.reduceBEq, Nat.reduceLT, Nat.reduceLeDiff, Nat.reduceAdd, Nat.reduceMul, Nat.reduceSub, Nat.reduceMod, Nat.reduceDiv, Nat.reduceEqDiff, Int.reduceToNat, reduceIte, reduceCtorEq, Int.reduceLE, Int.reduceLT, Int.reduceEq, Int.reduceNeg, Int.reduceAdd, Int.reduceSub, Int.reduceMul, V1o, V2o, hAo]
  refine callA_false (toSpotS_E _ _ _ A L (hA.ext (by omega) X2) hm9 _ ?_)
  have ne2 : n2 ≠ n1 := by omega
  simp only [go_sem, Nat.reduceBEq, Nat.reduceLT, Nat.reduceLeDiff, Nat.reduceAdd, Nat.reduceMul, Nat.reduceSub, Nat.reduceMod, Nat.reduceDiv, Nat.reduceEqDiff, Int.reduceToNat, reduceIte, reduceCtorEq, Int.reduceLE, Int.reduceLT, Int.reduceEq, Int.reduceNeg, Int.reduceAdd, Int.reduceSub, Int.reduceMul, V1o, V2o, hAo]
  refine (eqSpotS_Q _ _ _ n1 L.length n2 L.length L (spsS L) (spsS L) (by first | (simp only [go_sem, Nat.reduceBEq, Nat.reduceLT, Nat.reduceLeDiff, Nat.reduceAdd, Nat.reduceMul, Nat.reduceSub, Nat.reduceMod, Nat.reduceDiv, Nat.reduceEqDiff, Int.reduceToNat, reduceIte, reduceCtorEq, Int.reduceLE, Int.reduceLT, Int.reduceEq, Int.reduceNeg, Int.reduceAdd, Int.reduceSub, Int.reduceMul, g21, ne2, c21]; done) | (simp only [go_sem, Nat.reduceBEq, Nat.reduceLT, Nat.reduceLeDiff, Nat.reduceAdd, Nat.reduceMul, Nat.reduceSub, Nat.reduceMod, Nat.reduceDiv, Nat.reduceEqDiff, Int.reduceToNat, reduceIte, reduceCtorEq, Int.reduceLE, Int.reduceLT, Int.reduceEq, Int.reduceNeg, Int.reduceAdd, Int.reduceSub, Int.reduceMul, g21, ne2, c21]; rfl)) (by omega) (spsAt_spsS L) (by simp only [go_sem, Nat.reduceBEq, Nat.reduceLT, Nat.reduceLeDiff, Nat.reduceAdd, Nat.reduceMul, Nat.reduceSub, Nat.reduceMod, Nat.reduceDiv, Nat.reduceEqDiff, Int.reduceToNat, reduceIte, reduceCtorEq, Int.reduceLE, Int.reduceLT, Int.reduceEq, Int.reduceNeg, Int.reduceAdd, Int.reduceSub, Int.reduceMul]) (by omega) (spsAt_spsS L) hm9).A ?_
  simp only [go_sem, Nat.reduceBEq, Nat.reduceLT, Nat.reduceLeDiff, Nat.reduceAdd, Nat.reduceMul, Nat.reduceSub, Nat.reduceMod, Nat.reduceDiv, Nat.reduceEqDiff, Int.reduceToNat, reduceIte, reduceCtorEq, Int.reduceLE, Int.reduceLT, Int.reduceEq, Int.reduceNeg, Int.reduceAdd, Int.reduceSub, Int.reduceMul, V1o, V2o, hAo]
  refine callA_false (markSpotS_E _ _ _ n1 L.length L (spsS L) (by first | (simp only [go_sem, Nat.reduceBEq, Nat.reduceLT, Nat.reduceLeDiff, Nat.reduceAdd, Nat.reduceMul, Nat.reduceSub, Nat.reduceMod, Nat.reduceDiv, Nat.reduceEqDiff, Int.reduceToNat, reduceIte, reduceCtorEq, Int.reduceLE, Int.reduceLT, Int.reduceEq, Int.reduceNeg, Int.reduceAdd, Int.reduceSub, Int.reduceMul, g21, ne2, c21]; done) | (simp only [go_sem, Nat.reduceBEq, Nat.reduceLT, Nat.reduceLeDiff, Nat.reduceAdd, Nat.reduceMul, Nat.reduceSub, Nat.reduceMod, Nat.reduceDiv, Nat.reduceEqDiff, Int.reduceToNat, reduceIte, reduceCtorEq, Int.reduceLE, Int.reduceLT, Int.reduceEq, Int.reduceNeg, Int.reduceAdd, Int.reduceSub, Int.reduceMul, g21, ne2, c21]; rfl)) (by omega) rfl (spsAt_spsS L) (fun k hk => spotsC_flat _ _) hm9 _ ?_)
  intro h3 ok3 same3
  have s3 : ∀ i, i ≠ n1 → i ≠ n2 → hget h3 i = hget h2 i := fun i hi hi2 => by rw [same3 i hi]; simp only [hget]; rw [if_neg (fun e => hi2 e.symm)]
  have x3 : HExt n1 h1 h3 := fun i hi t ht => by rw [s3 i (by omega) (by omega)]; exact x2 i hi t ht
  have I13 : SpsOut h3 (n + 2) (n2 + 1) V1 R := I1.ext (by omega) x3
  have I23 : SpsOut h3 (n1 + 1) (n2 + 1) V2 R := I2.mono (by omega) fun i h1 h2 t ht => by rw [s3 i (by omega) (by omega)]; exact ht
  have pos : ¬ (2 * (L.length : Int) + 1 < 0) := by omega
  simp only [go_sem, Nat.reduceBEq, Nat.reduceLT, Nat.reduceLeDiff, Nat.reduceAdd, Nat.reduceMul, Nat.reduceSub, Nat.reduceMod, Nat.reduceDiv, Nat.reduceEqDiff, Int.reduceToNat, reduceIte, reduceCtorEq, Int.reduceLE, Int.reduceLT, Int.reduceEq, Int.reduceNeg, Int.reduceAdd, Int.reduceSub, Int.reduceMul, V1o, V2o, hAo, pos]
  refine (eqSpots_Q _ _ _ V2 V1 R _ _ I23 I13 (by omega)).A ?_
  simp only [go_sem, Nat.reduceBEq, Nat.reduceLT, Nat.reduceLeDiff, Nat.reduceAdd, Nat.reduceMul, Nat.reduceSub, Nat.reduceMod, Nat.reduceDiv, Nat.reduceEqDiff, Int.reduceToNat, reduceIte, reduceCtorEq, Int.reduceLE, Int.reduceLT, Int.reduceEq, Int.reduceNeg, Int.reduceAdd, Int.reduceSub, Int.reduceMul, V1o, V2o, hAo, pos]
  refine callA_false (markSpots_E _ _ _ V2 R (n1 + 1) I23 (by omega) _ ?_)
  intro h4 ok4 keep4 I24
  have x4 : HExt n1 h1 h4 := keep4 _ _ (by omega) x3
  have X4 : HExt n h h4 := X1.tr x4 (by omega)
  have I14 : SpsOut h4 (n + 2) (n2 + 1) V1 R := I1.ext (by omega) x4
  have g40 : hget h4 n = some ⟨266, F, true, none⟩ := x4 n (by omega) _ g10
  have c40 : n < n2 + 1 := by omega
  have posr : ¬ (2 * (R.length : Int) + 1 < 0) := by omega
  simp only [go_sem, Nat.reduceBEq, Nat.reduceLT, Nat.reduceLeDiff, Nat.reduceAdd, Nat.reduceMul, Nat.reduceSub, Nat.reduceMod, Nat.reduceDiv, Nat.reduceEqDiff, Int.reduceToNat, reduceIte, reduceCtorEq, Int.reduceLE, Int.reduceLT, Int.reduceEq, Int.reduceNeg, Int.reduceAdd, Int.reduceSub, Int.reduceMul, V1o, V2o, hAo]
  refine (heldSpots_Q _ _ _ V2 R.length _ I24 (by omega)).A ?_
  simp only [go_sem, Nat.reduceBEq, Nat.reduceLT, Nat.reduceLeDiff, Nat.reduceAdd, Nat.reduceMul, Nat.reduceSub, Nat.reduceMod, Nat.reduceDiv, Nat.reduceEqDiff, Int.reduceToNat, reduceIte, reduceCtorEq, Int.reduceLE, Int.reduceLT, Int.reduceEq, Int.reduceNeg, Int.reduceAdd, Int.reduceSub, Int.reduceMul, V1o, V2o, hAo, posr, hone, g40, c40]
  refine (toSheet_Q _ _ _ F S hF).A ?_
  simp only [go_sem, Nat.reduceBEq, Nat.reduceLT, Nat.reduceLeDiff, Nat.reduceAdd, Nat.reduceMul, Nat.reduceSub, Nat.reduceMod, Nat.reduceDiv, Nat.reduceEqDiff, Int.reduceToNat, reduceIte, reduceCtorEq, Int.reduceLE, Int.reduceLT, Int.reduceEq, Int.reduceNeg, Int.reduceAdd, Int.reduceSub, Int.reduceMul, hone, hAo]
  refine callA_false (toSpotS_E _ _ _ A L (hA.ext (by omega) X4) hm9 _ ?_)
  simp only [go_sem, Nat.reduceBEq, Nat.reduceLT, Nat.reduceLeDiff, Nat.reduceAdd, Nat.reduceMul, Nat.reduceSub, Nat.reduceMod, Nat.reduceDiv, Nat.reduceEqDiff, Int.reduceToNat, reduceIte, reduceCtorEq, Int.reduceLE, Int.reduceLT, Int.reduceEq, Int.reduceNeg, Int.reduceAdd, Int.reduceSub, Int.reduceMul, hone, hAo]
  refine callA_false (innerCells_E _ _ _ S hF.R _ L 0 (Sp_spsS (by omega) L) (by omega) _ ?_)
  intro V3 h5 n5 hn5 hx5 ok5 I35
  rw [hRR] at I35
  rw [hcc]
  have V3o := I35.ok
  have x5 : HExt (n2 + 1) h4 h5 := HExt.tr (m' := n2 + 2) (by simp only [go_sem, Nat.reduceBEq, Nat.reduceLT, Nat.reduceLeDiff, Nat.reduceAdd, Nat.reduceMul, Nat.reduceSub, Nat.reduceMod, Nat.reduceDiv, Nat.reduceEqDiff, Int.reduceToNat, reduceIte, reduceCtorEq, Int.reduceLE, Int.reduceLT, Int.reduceEq, Int.reduceNeg, Int.reduceAdd, Int.reduceSub, Int.reduceMul, HExt_cons]) hx5 (by omega)
  have X5 := X4.tr x5 (by omega)
  simp only [go_sem, Nat.reduceBEq, Nat.reduceLT, Nat.reduceLeDiff, Nat.reduceAdd, Nat.reduceMul, Nat.reduceSub, Nat.reduceMod, Nat.reduceDiv, Nat.reduceEqDiff, Int.reduceToNat, reduceIte, reduceCtorEq, Int.reduceLE, Int.reduceLT, Int.reduceEq, Int.reduceNeg, Int.reduceAdd, Int.reduceSub, Int.reduceMul, V1o, V2o, V3o, hAo]
  refine (eqSpots_Q _ _ _ V3 V1 R _ _ I35 (I14.ext (by omega) x5) (by omega)).A ?_
  simp only [go_sem, Nat.reduceBEq, Nat.reduceLT, Nat.reduceLeDiff, Nat.reduceAdd, Nat.reduceMul, Nat.reduceSub, Nat.reduceMod, Nat.reduceDiv, Nat.reduceEqDiff, Int.reduceToNat, reduceIte, reduceCtorEq, Int.reduceLE, Int.reduceLT, Int.reduceEq, Int.reduceNeg, Int.reduceAdd, Int.reduceSub, Int.reduceMul, V1o, V2o, V3o, hAo]
  refine (heldSpots_Q _ _ _ V2 R.length _ (I24.ext (by omega) x5) (by omega)).A ?_
  simp only [go_sem, Nat.reduceBEq, Nat.reduceLT, Nat.reduceLeDiff, Nat.reduceAdd, Nat.reduceMul, Nat.reduceSub, Nat.reduceMod, Nat.reduceDiv, Nat.reduceEqDiff, Int.reduceToNat, reduceIte, reduceCtorEq, Int.reduceLE, Int.reduceLT, Int.reduceEq, Int.reduceNeg, Int.reduceAdd, Int.reduceSub, Int.reduceMul, V1o, V2o, V3o, hAo, posr]
  (try exact X5)
end
end Go.Proofs.Ytnbpgkidphdcdaa.V
