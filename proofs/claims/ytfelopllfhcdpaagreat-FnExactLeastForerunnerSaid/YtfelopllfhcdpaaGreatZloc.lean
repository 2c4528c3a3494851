/- Part 3 of the texts that this proof stands on: a symbolic walk over the program, what its functions and the reference's do, plain laws. -/
import Derived.Test.YtfelopllfhcdpaaGreatZloa
import Derived.Test.YtfelopllfhcdpaaGreatV17
import Derived.Sort.Walk13a
import Derived.Test.YtfelopllfhcdpaaGreatZlob
set_option linter.all false

/- Comparing spots; the library's small functions. -/
namespace Go.Proofs.YtfelopllfhcdpaaGreat.V
def cmp8 (a b : Int) : Int := if a < b then -1 else if b < a then 1 else 0
def cmpSp (a b : Int × Int) : Int := if cmp8 a.2 b.2 ≠ 0 then cmp8 a.2 b.2 else cmp8 a.1 b.1
theorem cmpSp_lt (a b : Int × Int) : decide (cmpSp a b < 0) = ltSp a b := by
  unfold cmpSp cmp8 ltSp
  by_cases h1 : a.2 < b.2
  · simp [h1]
  · by_cases h2 : b.2 < a.2
    · have : ¬ a.2 = b.2 := by omega
      simp [h1, h2, this]
    · have : a.2 = b.2 := by omega
      by_cases h3 : a.1 < b.1
      · simp [h1, h2, h3, this]
      · by_cases h4 : b.1 < a.1 <;> simp [h1, h2, h3, h4, this]
section
variable (cx : Cx) (h : List (Nat × Seg)) (n : Nat)
theorem isNaN8_Q (a : Int) : CallQ Tryz.prog cx 119 [.int .i8 a] h n (.bool false) := by
  refine callQ_of_T (P := Tryz.prog) hti (nt := 6) (rs := [.tmp 2]) rfl rfl Tryz.call119 Tryz.func119 rfl _ (by simp only [go_sem, and_self]) (Nat.le_of_ble_eq_true rfl) _ (by first | exact trivial | (refine lt_flat rfl ?_; simp [SV.flat]; done) | simp only [go_sem]) fun hok => ?_
  simp only [go_sem, Nat.reduceLT]
theorem compare8_Q (a b : Int) : CallQ Tryz.prog cx 98 [.int .i8 a, .int .i8 b] h n (.int .i64 (cmp8 a b)) := by
  refine callQ_of_T (P := Tryz.prog) hti (nt := 20) (rs := [.tmp 4]) rfl rfl Tryz.call98 Tryz.func98 rfl _ (by simp only [go_sem, and_self]) (Nat.le_of_ble_eq_true rfl) _ (by first | exact trivial | (refine lt_flat rfl ?_; simp [SV.flat]; done) | simp only [go_sem]) fun hok => ?_
  simp only [go_sem, Nat.reduceLT, Int.reduceNeg]
  refine (isNaN8_Q _ _ _ a).A ?_
  simp only [go_sem, Nat.reduceLT, Int.reduceNeg]
  refine (isNaN8_Q _ _ _ b).A ?_
  simp only [go_sem, Nat.reduceLT, Int.reduceNeg]
  unfold cmp8
  by_cases h1 : a < b
  · simp only [go_sem, reduceIte, reduceCtorEq, Int.reduceNeg, h1]
  · by_cases h2 : b < a
    · simp only [go_sem, reduceIte, reduceCtorEq, Int.reduceNeg, h1, h2]
    · simp only [go_sem, reduceIte, Int.reduceNeg, h1, h2]
theorem orI_Q (i cap : Nat) (s : Seg) (a b : Int) (hs : hget h i = some s) (hi : i < n) (hn : s.n = 2) (h0 : s.c 0 = .int .i64 a) (h1 : s.c 1 = .int .i64 b) : CallQ Tryz.prog cx 72 [.sl i 0 2 cap] h n (.int .i64 (if a ≠ 0 then a else b)) := by
  refine callQ_of_T (P := Tryz.prog) hti (nt := 18) (rs := [.tmp 2]) rfl rfl Tryz.call72 Tryz.func72 rfl _ (by simp only [go_sem, and_self]) (Nat.le_of_ble_eq_true rfl) _ (by first | exact trivial | (refine lt_flat rfl ?_; simp [SV.flat]; done) | simp only [go_sem]) fun hok => ?_
  simp only [go_sem, Nat.reduceLT]
  refine T_unroll 2 ?_
  simp only [go_sem, Nat.reduceLT, Nat.reduceLeDiff, Int.reduceToNat, Int.reduceLE, Int.reduceLT, Int.reduceNeg, Int.reduceAdd, hs, hi, hn, h0]
  by_cases ha : a = 0
  · simp only [go_sem, ha]
    refine U_step ?_
    simp only [go_sem, Nat.reduceLT, Int.reduceToNat, Int.reduceLE, Int.reduceLT, Int.reduceNeg, Int.reduceAdd, hs, hi, hn, h1]
    by_cases hb : b = 0
    · simp only [go_sem, hb]
      refine U_step ?_
      simp only [go_sem, Nat.reduceLT, Int.reduceLT, not_true, if_false]
    · simp only [go_sem, reduceCtorEq, hb, not_true, if_false]
  · simp only [go_sem, reduceCtorEq, ha, not_false_eq_true, if_true]
theorem inOrder_Q (a b : Int × Int) : CallQ Tryz.prog cx 75 [spot a.1 a.2, spot b.1 b.2] h n (.int .i64 (cmpSp a b)) := by
  refine callQ_of_T (P := Tryz.prog) hti (nt := 17) (rs := [.tmp 4]) rfl rfl Tryz.call75 Tryz.func75 rfl _ (by simp only [go_sem, and_self]) (Nat.le_of_ble_eq_true rfl) _ (by first | exact trivial | (refine lt_flat rfl ?_; simp [SV.flat]; done) | simp only [go_sem]) fun hok => ?_
  simp only [go_sem, Nat.reduceLT]
  refine T_drawG hti 13 [] (.b 0 0 (.b 0 1 (.b 0 2 (.b 0 3 (.b 0 5 (.b 0 6 (.b 0 7 (.b 0 8 (.b 1 4 (.b 1 9 (.b 2 10 (.b 1 11 (.b 0 12 (.f) .o) .o) .o) .o) .o) .o) .o) .o) .o) .o) .o) .o) .o) _ _ (by kernel_rfl) (by kernel_rfl) ?_
  simp only [go_sem, Nat.reduceLT, Nat.reduceLeDiff, reduceCtorEq]
  refine CallQ.F _ (fun h' n' hn hx => compare8_Q _ h' n' a.2 b.2) ?_
  simp only [go_sem, Nat.reduceLT]
  refine CallQ.F _ (fun h' n' hn hx => compare8_Q _ h' n' a.1 b.1) ?_
  simp only [go_sem, Nat.reduceLT, Nat.reduceLeDiff]
  refine CallQ.F _ (fun h' n' hn hx => orI_Q _ h' n' (n + 2) 2 _ _ _ (hx (n + 2) (by omega) _ (by simp only [go_sem]; rfl)) (by omega) rfl rfl rfl) ?_
  simp only [go_sem, Nat.reduceLT]
  rfl
theorem u8_in (x : Int) : 0 ≤ IntKind.u8.wrap x ∧ IntKind.u8.wrap x < 256 := by
  simp [IntKind.wrap, IntKind.bits, IntKind.signed]; omega
end
end Go.Proofs.YtfelopllfhcdpaaGreat.V

/- The library's insertion sort over spots. -/
namespace Go.Proofs.YtfelopllfhcdpaaGreat.V
open Go.Sort (swp insInner insOuter insertionSort)

theorem bang_getD (d : Array (Int × Int)) (j : Nat) : d[j]! = d.toList.getD j (0, 0) := by
  rw [List.getD_eq_getElem?_getD, Array.getElem?_toList, getElem!_def]
  cases d[j]? <;> rfl
theorem swp_toList (d : Array (Int × Int)) (i j : Nat) : (swp d i j).toList = (d.toList.set i (d.toList.getD j (0, 0))).set j (d.toList.getD i (0, 0)) := by
  unfold swp
  rw [Array.toList_setIfInBounds, Array.toList_setIfInBounds, bang_getD, bang_getD]
theorem swp_size (d : Array (Int × Int)) (i j : Nat) : (swp d i j).size = d.size := by unfold swp; simp
/-- A spot stored. -/
theorem spots_store (L : List (Int × Int)) (k : Nat) (x : Int × Int) (hk : k < L.length) : (fun j => if k * 2 ≤ j ∧ j < k * 2 + 2 then cl [.int .i8 x.1, .int .i8 x.2] (j - k * 2) else spotsC L j) = spotsC (L.set k x) := by
  funext j
  by_cases h : k * 2 ≤ j ∧ j < k * 2 + 2
  · rw [if_pos h]
    have hg : (L.set k x).getD k (0, 0) = x := by simp [List.getD_eq_getElem?_getD, hk]
    rcases (by omega : j = k * 2 ∨ j = k * 2 + 1) with rfl | rfl
    · rw [spotsC_x, hg, Nat.sub_self]; rfl
    · rw [spotsC_y, hg, show k * 2 + 1 - k * 2 = 1 by omega]; rfl
  · rw [if_neg h]
    have hg : (L.set k x).getD (j / 2) (0, 0) = L.getD (j / 2) (0, 0) := by
      simp only [List.getD_eq_getElem?_getD, List.getElem?_set]; rw [if_neg (by omega)]
    unfold spotsC
    rw [hg]
/-- A function that compares spots. -/
def Cmps (cx : Cx) (h : List (Nat × Seg)) (n i f p q : Nat) (G F : Nat → SV) (cI : Int × Int → Int × Int → Int) : Prop :=
  ∀ (a b : Int × Int) nt n0 h' n', n ≤ n' → HBut i n h h' → CallQ Tryz.prog ⟨cx.w0, cx.W, nt, n0⟩ f (lst p G ++ [spot a.1 a.2, spot b.1 b.2] ++ lst q F) h' n' (.int .i64 (cI a b))
section
variable (cx : Cx) (h : List (Nat × Seg)) (n : Nat)
set_option maxRecDepth 100000 in
theorem insSort_E (i cap : Nat) (d : Array (Int × Int)) (own : Option (Nat × Nat)) (a b : Nat) (f p q : Nat) (G F : Nat → SV) (cI : Int × Int → Int × Int → Int) (lt : Int × Int → Int × Int → Bool) (hlt : ∀ x y, decide (cI x y < 0) = lt x y)
    (hs : hget h i = some ⟨d.size * 2, spotsC d.toList, true, own⟩) (hi : i < n) (hb : b ≤ d.size) (hab : a ≤ b) (hm9 : d.size ≤ 1000000000) (hF : (SV.fn f p G q F).lt n) (hcmp : Cmps cx h n i f p q G F cI) (K : HK)
    (hK : K (.tup 0 (cl [])) (hset h i ⟨d.size * 2, spotsC (insertionSort lt d a b).toList, true, own⟩) n) :
    CallE Tryz.prog cx 120 [.sl i 0 d.size cap, .int .i64 a, .int .i64 b, .fn f p G q F] h n K := by
  refine CallE.to _ _ (by simp only [go_sem]) (fun hok => hok_set hok fun k hk => spotsC_flat _ _) hK ?_
  have hgi : ∀ t, hget (hset h i t) i = some t := hget_hset_self hs
  have hFl : (SV.fn f p G q F).lt n = True := eq_true hF
  refine callE_of_T (P := Tryz.prog) hti (nt := 53) (rs := []) rfl rfl Tryz.call120 Tryz.func120 rfl _ (by simp only [go_sem, and_self]) (Nat.le_of_ble_eq_true rfl) _ fun hok => ?_
  have ha9 : a ≤ 1000000000 := by omega
  simp only [go_sem, Nat.reduceLT, w64 (n := (a : Int) + 1) (by omega)]
  refine T_lp (ι := { p : Nat × Array (Int × Int) // p.1 ≤ b + 1 ∧ a + 1 ≤ p.1 ∧ p.2.size = d.size ∧ insOuter lt a b p.1 p.2 = insertionSort lt d a b })
    (fun w => ([(0, .sl i 0 d.size cap), (1, .int .i64 a), (2, .int .i64 b), (3, .fn f p G q F), (8, .int .i64 w.1.1)], hset h i ⟨d.size * 2, spotsC w.1.2.toList, true, own⟩, n)) (fun w => b + 1 - w.1.1) ⟨(a + 1, d), by omega, Nat.le_refl _, rfl, rfl⟩ ?_ ?_
  · refine Imp.id (by simp) ?_ ?_
    · simp only [go_sem, Nat.reduceLT, hFl, Int.natCast_add, Int.natCast_one]
      exact hi
    · rw [hset_self hs]; exact impH.base0 hok (by simp) HExt.rfl
  · rintro ⟨⟨k, D⟩, hk, hak, hD, hO⟩
    simp only at hk hak hD hO
    simp only [go_sem, Nat.reduceLT, decide_eq_true_eq, decide_eq_false_iff_not]
    refine ⟨fun h1 => ?_, fun h1 => ?_⟩
    · have hkb : k < b := by omega
      refine T_lp (ι := { p : Nat × Array (Int × Int) // p.1 ≤ k ∧ a ≤ p.1 ∧ p.2.size = d.size ∧ insInner lt a p.1 p.2 = insInner lt a k D })
        (fun w => ([(0, .sl i 0 d.size cap), (1, .int .i64 a), (2, .int .i64 b), (3, .fn f p G q F), (8, .int .i64 k), (9, .int .i64 w.1.1)], hset h i ⟨d.size * 2, spotsC w.1.2.toList, true, own⟩, n)) (fun w => w.1.1) ⟨(k, D), Nat.le_refl _, by omega, hD, rfl⟩ ?_ ?_
      · refine Imp.id (by simp) ?_ ?_
        · simp only [go_sem, Nat.reduceLT, hFl]
          exact hi
        · exact impH.base0 (hok_set hok fun k hk => spotsC_flat _ _) (by simp) HExt.rfl
      · rintro ⟨⟨j, E⟩, hj, haj, hE, hI⟩
        simp only at hj haj hE hI
        have hEl : E.toList.length = d.size := by rw [Array.length_toList]; exact hE
        simp only [go_sem]
        by_cases hja : a < j
        rotate_left
        · have e1 : ((a : Int) < j) = False := eq_false (by omega)
          refine T_draw hti _ _ (by kernel_rfl) (by kernel_rfl) ?_
          simp only [go_sem, Nat.reduceLT, e1]
          have e2 : insInner lt a j E = E := by
            cases j with
            | zero => rfl
            | succ j => unfold insInner; rw [if_neg (by simp; omega)]
          rw [e2] at hI
          refine ⟨⟨(k + 1, E), by show k + 1 ≤ b + 1; omega, by show a + 1 ≤ k + 1; omega, hE, ?_⟩, by show b + 1 - (k + 1) < b + 1 - k; omega, ?_⟩
          · rw [← hO]
            show insOuter lt a b (k + 1) E = _
            rw [insOuter.eq_1 lt a b k D, if_pos hkb, hI]
          · refine Imp.id (by simp) ?_ ?_
            · simp only [go_sem, Nat.reduceLT, hFl, w64 (n := (k : Int) + 1) (by omega), Int.natCast_add, Int.natCast_one]
              exact hi
            · exact impH.base0 (hok_set hok fun k hk => spotsC_flat _ _) (by simp) HExt.rfl
        obtain ⟨j, rfl⟩ : ∃ j', j = j' + 1 := ⟨j - 1, by omega⟩
        have e1 : ((a : Int) < ((j + 1 : Nat) : Int)) = True := eq_true (by omega)
        have r1 : (0 : Int) ≤ (j : Int) + 1 ∧ (j : Int) + 1 < d.size := ⟨by omega, by omega⟩
        have r2 : (0 : Int) ≤ (j : Int) ∧ (j : Int) < d.size := ⟨by omega, by omega⟩
        have e2 : ((j : Int) + 1).toNat = j + 1 := by omega
        have b1 : (j + 1) * 2 ≤ d.size * 2 - 2 := by omega
        have b2 : (j + 1) * 2 + 2 ≤ d.size * 2 := by omega
        have b3 : j * 2 ≤ d.size * 2 - 2 := by omega
        have b4 : j * 2 + 2 ≤ d.size * 2 := by omega
        have b5 : 2 ≤ d.size * 2 := by omega
        have b6 : (2 = d.size * 2) = False := eq_false (by omega)
        have e1' : ((a : Int) < (j : Int) + 1) = True := eq_true (by omega)
        refine T_draw hti _ _ (by kernel_rfl) (by kernel_rfl) ?_
        simp only [go_sem, Nat.reduceLT, hgi, hi, e1, e1', r1, r2, e2, b1, b2, b3, b4, b5, spotsC_x, spotsC_y, Int.natCast_add, Int.natCast_one, Int.add_sub_cancel, w64 (n := (j : Int)) (by omega)]
        refine (hcmp (E.toList.getD (j + 1) (0, 0)) (E.toList.getD j (0, 0)) _ _ _ _ (Nat.le_refl n) (HBut.set i n h _)).A ?_
        have hl := hlt (E.toList.getD (j + 1) (0, 0)) (E.toList.getD j (0, 0))
        by_cases hc : cI (E.toList.getD (j + 1) (0, 0)) (E.toList.getD j (0, 0)) < 0
        rotate_left
        · have e3 : insInner lt a (j + 1) E = E := by
            unfold insInner
            rw [bang_getD, bang_getD, ← hl, decide_eq_false hc, Bool.and_false]
            rfl
          rw [e3] at hI
          simp only [go_sem, Nat.reduceLT, hc]
          refine ⟨⟨(k + 1, E), by show k + 1 ≤ b + 1; omega, by show a + 1 ≤ k + 1; omega, hE, ?_⟩, by show b + 1 - (k + 1) < b + 1 - k; omega, ?_⟩
          · rw [← hO]
            show insOuter lt a b (k + 1) E = _
            rw [insOuter.eq_1 lt a b k D, if_pos hkb, hI]
          · refine Imp.id (by simp) ?_ ?_
            · simp only [go_sem, Nat.reduceLT, hFl, w64 (n := (k : Int) + 1) (by omega), Int.natCast_add, Int.natCast_one]
              exact hi
            · exact impH.base0 (hok_set hok fun k hk => spotsC_flat _ _) (by simp) HExt.rfl
        · have e3 : insInner lt a (j + 1) E = insInner lt a j (swp E (j + 1) j) := by
            show (if decide (j + 1 > a) && lt E[j + 1]! E[j]! then insInner lt a j (swp E (j + 1) j) else E) = _
            rw [bang_getD, bang_getD, ← hl, decide_eq_true hc]
            simp only [gt_iff_lt, hja, decide_true, Bool.and_true, if_true]
          rw [e3] at hI
          simp only [go_sem, Nat.reduceLT, hc]
          refine T_drawG hti 18 [15, 17] (.b 0 0 (.b 0 1 (.b 0 2 (.b 0 3 (.b 0 4 (.b 0 5 (.b 0 6 (.b 0 7 (.b 0 8 (.b 0 9 (.b 0 10 (.b 0 11 (.b 0 12 (.b 0 13 (.b 0 14 (.b 4 15 (.b 0 16 (.b 4 17 (.f) .o) .o) .o) .o) .o) .o) .o) .o) .o) .o) .o) .o) .o) .o) .o) .o) .o) .o) _ _ (by kernel_rfl) (by kernel_rfl) ?_
          simp only [go_sem, Nat.reduceLT, reduceCtorEq, hgi, hi, r1, r2, e2, b1, b2, b3, b4, b5, b6, and_false, if_false, spotsC_x, spotsC_y, spots_store E.toList (j + 1) (E.toList.getD j (0, 0)) (by omega), Int.add_sub_cancel, w64 (n := (j : Int)) (by omega)]
          rw [spots_store (E.toList.set (j + 1) (E.toList.getD j (0, 0))) j (E.toList.getD (j + 1) (0, 0)) (by rw [List.length_set]; omega), ← swp_toList]
          refine ⟨⟨(j, swp E (j + 1) j), by show j ≤ k; omega, by show a ≤ j; omega, (swp_size _ _ _).trans hE, hI⟩, by show j < j + 1; omega, ?_⟩
          refine Imp.id (by simp) ?_ ?_
          · simp only [go_sem, Nat.reduceLT, hFl]
            exact hi
          · exact impH.base0 (hok_set hok fun k hk => spotsC_flat _ _) (by simp) HExt.rfl
    · have hkb : ¬ k < b := by omega
      have e : D = insertionSort lt d a b := by rw [← hO]; unfold insOuter; rw [if_neg hkb]
      rw [e]
      exact HExt.rfl
end
end Go.Proofs.YtfelopllfhcdpaaGreat.V

/- The library's heap sort over spots. -/
namespace Go.Proofs.YtfelopllfhcdpaaGreat.V
open Go.Sort (swp siftDown heapBuild heapPop heapSort)
theorem w64N {a : Int} {k : Nat} (h : a = (k : Int)) (hk : k ≤ 4611686018427387904) : IntKind.i64.wrap a = (k : Int) := by rw [h]; exact w64 (by omega)
theorem bangL {D : Array (Int × Int)} {j : Nat} : D[j]! = D.toList.getD j (0, 0) := bang_getD D j
theorem ix_r {k s : Nat} (h : k < s) : (0 : Int) ≤ (k : Int) ∧ (k : Int) < (s : Int) := ⟨by omega, by omega⟩
theorem ix_b {k s : Nat} (h : k < s) : k * 2 ≤ s * 2 - 2 := by omega
theorem ix_c {k s : Nat} (h : k < s) : k * 2 + 2 ≤ s * 2 := by omega
/-- Two spots exchanged. -/
theorem swap_fn (D : Array (Int × Int)) {a b : Nat} (ha : a < D.size) (hb : b < D.size) :
    (fun z => if b * 2 ≤ z ∧ z < b * 2 + 2 then cl [.int .i8 (D.toList.getD a (0, 0)).1, .int .i8 (D.toList.getD a (0, 0)).2] (z - b * 2) else if a * 2 ≤ z ∧ z < a * 2 + 2 then cl [.int .i8 (D.toList.getD b (0, 0)).1, .int .i8 (D.toList.getD b (0, 0)).2] (z - a * 2) else spotsC D.toList z) = spotsC (swp D a b).toList := by
  rw [swp_toList, ← spots_store _ b _ (by rw [List.length_set, Array.length_toList]; exact hb)]
  funext z
  split
  · rfl
  · rw [← spots_store D.toList a (D.toList.getD b (0, 0)) (by rw [Array.length_toList]; exact ha)]
def pickC (lt : Int × Int → Int × Int → Bool) (hi first root : Nat) (d : Array (Int × Int)) : Nat := if 2 * root + 2 < hi ∧ lt d[first + (2 * root + 1)]! d[first + (2 * root + 2)]! = true then 2 * root + 2 else 2 * root + 1
theorem siftDown_end {lt : Int × Int → Int × Int → Bool} {hi first root : Nat} {d : Array (Int × Int)} (h : hi ≤ 2 * root + 1) : siftDown lt hi first root d = d := by
  rw [siftDown, dif_pos h]
theorem siftDown_eq {lt : Int × Int → Int × Int → Bool} {hi first root : Nat} {d : Array (Int × Int)} (h : 2 * root + 1 < hi) :
    siftDown lt hi first root d = if lt d[first + root]! d[first + pickC lt hi first root d]! = true then siftDown lt hi first (pickC lt hi first root d) (swp d (first + root) (first + pickC lt hi first root d)) else d := by
  rw [siftDown, dif_neg (by omega)]
  unfold pickC
  have e : first + (2 * root + 1) + 1 = first + (2 * root + 2) := by omega
  rw [e]
  by_cases h2 : 2 * root + 2 < hi ∧ lt d[first + (2 * root + 1)]! d[first + (2 * root + 2)]! = true
  · rw [if_pos (by rw [h2.2]; simp; omega), if_pos h2]
    cases hl : lt d[first + root]! d[first + (2 * root + 2)]!
    · simp
    · simp [h2.1]
  · rw [if_neg (by
      rw [Bool.and_eq_true, decide_eq_true_eq]
      rintro ⟨a, b⟩
      exact h2 ⟨by omega, b⟩), if_neg h2]
    cases hl : lt d[first + root]! d[first + (2 * root + 1)]! <;> simp
theorem siftDown_size (lt : Int × Int → Int × Int → Bool) (hi first : Nat) : ∀ (m root : Nat) (d : Array (Int × Int)), hi - root ≤ m → (siftDown lt hi first root d).size = d.size := by
  intro m
  induction m with
  | zero => intro root d h; rw [siftDown_end (by omega)]
  | succ m ih =>
    intro root d h
    by_cases h1 : hi ≤ 2 * root + 1
    · rw [siftDown_end h1]
    · rw [siftDown_eq (by omega)]
      split
      · rw [ih _ _ (by unfold pickC; split <;> omega), swp_size]
      · rfl
section
variable (cx : Cx) (h : List (Nat × Seg)) (n : Nat)
set_option maxRecDepth 100000 in
set_option maxHeartbeats 1600000 in
theorem siftDown_E (i cap : Nat) (d : Array (Int × Int)) (own : Option (Nat × Nat)) (lo hi first : Nat) (f p q : Nat) (G F : Nat → SV) (cI : Int × Int → Int × Int → Int) (lt : Int × Int → Int × Int → Bool) (hlt : ∀ x y, decide (cI x y < 0) = lt x y)
    (hs : hget h i = some ⟨d.size * 2, spotsC d.toList, true, own⟩) (hi0 : i < n) (hb : first + hi ≤ d.size) (h2 : 2 ≤ d.size) (hlo : lo ≤ d.size) (hm9 : d.size ≤ 1000000000) (hF : (SV.fn f p G q F).lt n) (hcmp : Cmps cx h n i f p q G F cI) (K : HK)
    (hK : K (.tup 0 (cl [])) (hset h i ⟨d.size * 2, spotsC (siftDown lt hi first lo d).toList, true, own⟩) n) :
    CallE Tryz.prog cx 133 [.sl i 0 d.size cap, .int .i64 lo, .int .i64 hi, .int .i64 first, .fn f p G q F] h n K := by
  refine CallE.to _ _ (by simp only [go_sem]) (fun hok => hok_set hok fun k hk => spotsC_flat _ _) hK ?_
  have hgi : ∀ t, hget (hset h i t) i = some t := hget_hset_self hs
  have hFl : (SV.fn f p G q F).lt n = True := eq_true hF
  refine callE_of_T (P := Tryz.prog) hti (nt := 82) (rs := []) rfl rfl Tryz.call133 Tryz.func133 rfl _ (by simp only [go_sem, and_self]) (Nat.le_of_ble_eq_true rfl) _ fun hok => ?_
  simp only [go_sem, Nat.reduceLT]
  refine T_lp (ι := { p : Nat × Array (Int × Int) // p.1 ≤ d.size + 1 ∧ p.2.size = d.size ∧ siftDown lt hi first p.1 p.2 = siftDown lt hi first lo d })
    (fun w => ([(0, .sl i 0 d.size cap), (2, .int .i64 hi), (3, .int .i64 first), (4, .fn f p G q F), (10, .int .i64 w.1.1)], hset h i ⟨d.size * 2, spotsC w.1.2.toList, true, own⟩, n)) (fun w => hi - w.1.1) ⟨(lo, d), by show lo ≤ d.size + 1; omega, rfl, rfl⟩ ?_ ?_
  · refine Imp.id (by simp) ?_ ?_
    · simp only [go_sem, Nat.reduceLT, hFl]
      exact hi0
    · rw [hset_self hs]; exact impH.base0 hok (by simp) HExt.rfl
  · rintro ⟨⟨r, D⟩, hr, hD, hO⟩
    simp only at hr hD hO
    simp only [go_sem, Nat.reduceLT, w64N (a := 2 * (r : Int)) (k := 2 * r) (by omega) (by omega), w64N (a := ((2 * r : Nat) : Int) + 1) (k := 2 * r + 1) (by omega) (by omega)]
    by_cases h1 : hi ≤ 2 * r + 1
    · rw [siftDown_end h1] at hO
      have e1 : ((hi : Int) ≤ ((2 * r + 1 : Nat) : Int)) = True := eq_true (by omega)
      simp only [go_sem, reduceCtorEq, e1]
      rw [hO]
      exact HExt.rfl
    have e1 : ((hi : Int) ≤ ((2 * r + 1 : Nat) : Int)) = False := eq_false (by omega)
    rw [siftDown_eq (by omega)] at hO
    simp only [go_sem, e1]
    have c0 : first + r < d.size := by omega
    have c1 : first + (2 * r + 1) < d.size := by omega
    have cA : 2 * r + 2 < hi → first + (2 * r + 2) < d.size := by omega
    have W0 := w64N (a := (first : Int) + (r : Int)) (k := first + r) (by omega) (by omega)
    have W1 := w64N (a := (first : Int) + ((2 * r + 1 : Nat) : Int)) (k := first + (2 * r + 1)) (by omega) (by omega)
    have W2 := w64N (a := ((2 * r + 1 : Nat) : Int) + 1) (k := 2 * r + 2) (by omega) (by omega)
    have W3 := w64N (a := ((first + (2 * r + 1) : Nat) : Int) + 1) (k := first + (2 * r + 2)) (by omega) (by omega)
    have W4 := w64N (a := (first : Int) + ((2 * r + 2 : Nat) : Int)) (k := first + (2 * r + 2)) (by omega) (by omega)
    have b6 : (2 = d.size * 2) = False := eq_false (by omega)
    by_cases hA : 2 * r + 2 < hi
    · have e2 : (((2 * r + 2 : Nat) : Int) < (hi : Int)) = True := eq_true (by omega)
      refine T_draw hti _ _ (by kernel_rfl) (by kernel_rfl) ?_
      simp only [go_sem, Nat.reduceLT, hgi, hi0, e2, W1, W2, W3, ix_r c1, ix_b c1, ix_c c1, ix_r (cA hA), ix_b (cA hA), ix_c (cA hA), spotsC_x, spotsC_y]
      refine (hcmp (D.toList.getD (first + (2 * r + 1)) (0, 0)) (D.toList.getD (first + (2 * r + 2)) (0, 0)) _ _ _ _ (Nat.le_refl n) (HBut.set i n h _)).A ?_
      have hl := hlt (D.toList.getD (first + (2 * r + 1)) (0, 0)) (D.toList.getD (first + (2 * r + 2)) (0, 0))
      by_cases hc : cI (D.toList.getD (first + (2 * r + 1)) (0, 0)) (D.toList.getD (first + (2 * r + 2)) (0, 0)) < 0
      · simp only [go_sem, Nat.reduceLT, hc, W2]
        have hp : pickC lt hi first r D = 2 * r + 2 := if_pos ⟨hA, by rw [bangL, bangL, ← hl, decide_eq_true hc]⟩
        rw [hp] at hO
        refine T_draw hti _ _ (by kernel_rfl) (by kernel_rfl) ?_
        simp only [go_sem, Nat.reduceLT, hgi, hi0, W0, W1, W4, ix_r c0, ix_r c1, ix_b c0, ix_b c1, ix_c c0, ix_c c1, ix_r (cA hA), ix_b (cA hA), ix_c (cA hA), spotsC_x, spotsC_y]
        refine (hcmp (D.toList.getD (first + r) (0, 0)) (D.toList.getD (first + (2 * r + 2)) (0, 0)) _ _ _ _ (Nat.le_refl n) (HBut.set i n h _)).A ?_
        have hl2 := hlt (D.toList.getD (first + r) (0, 0)) (D.toList.getD (first + (2 * r + 2)) (0, 0))
        rw [bangL, bangL, ← hl2] at hO
        by_cases hc2 : cI (D.toList.getD (first + r) (0, 0)) (D.toList.getD (first + (2 * r + 2)) (0, 0)) < 0
        rotate_left
        · rw [decide_eq_false hc2, if_neg (by simp)] at hO
          simp only [go_sem, Nat.reduceLT, hc2]
          rw [hO]
          exact HExt.rfl
        · rw [decide_eq_true hc2, if_pos rfl] at hO
          simp only [go_sem, Nat.reduceLT, hc2]
          refine T_drawG hti 24 [21, 23] (.b 0 0 (.b 0 1 (.b 0 2 (.b 0 3 (.b 0 4 (.b 0 5 (.b 0 6 (.b 0 7 (.b 0 8 (.b 0 9 (.b 0 10 (.b 0 11 (.b 0 12 (.b 0 13 (.b 0 14 (.b 0 15 (.b 0 16 (.b 0 17 (.b 0 18 (.b 0 19 (.b 0 20 (.b 4 21 (.b 0 22 (.b 4 23 (.f) .o) .o) .o) .o) .o) .o) .o) .o) .o) .o) .o) .o) .o) .o) .o) .o) .o) .o) .o) .o) .o) .o) .o) .o) _ _ (by kernel_rfl) (by kernel_rfl) ?_
          simp only [go_sem, Nat.reduceLT, reduceCtorEq, hgi, hi0, W0, W1, W4, ix_r c0, ix_r c1, ix_b c0, ix_b c1, ix_c c0, ix_c c1, ix_r (cA hA), ix_b (cA hA), ix_c (cA hA), spotsC_x, spotsC_y, b6, and_false, if_false]
          rw [swap_fn D (a := first + r) (b := first + (2 * r + 2)) (by omega) (by omega)]
          refine ⟨⟨(2 * r + 2, swp D (first + r) (first + (2 * r + 2))), by show 2 * r + 2 ≤ d.size + 1; omega, (swp_size _ _ _).trans hD, hO⟩, by show hi - (2 * r + 2) < hi - r; omega, ?_⟩
          refine Imp.id (by simp) ?_ ?_
          · simp only [go_sem, Nat.reduceLT, hFl]
            exact hi0
          · exact impH.base0 (hok_set hok fun k hk => spotsC_flat _ _) (by simp) HExt.rfl
      · simp only [go_sem, Nat.reduceLT, hc]
        have hp : pickC lt hi first r D = 2 * r + 1 := if_neg fun hh => by rw [bangL, bangL, ← hl, decide_eq_false hc] at hh; exact absurd hh.2 (by simp)
        rw [hp] at hO
        refine T_draw hti _ _ (by kernel_rfl) (by kernel_rfl) ?_
        simp only [go_sem, Nat.reduceLT, hgi, hi0, W0, W1, W4, ix_r c0, ix_r c1, ix_b c0, ix_b c1, ix_c c0, ix_c c1, spotsC_x, spotsC_y]
        refine (hcmp (D.toList.getD (first + r) (0, 0)) (D.toList.getD (first + (2 * r + 1)) (0, 0)) _ _ _ _ (Nat.le_refl n) (HBut.set i n h _)).A ?_
        have hl2 := hlt (D.toList.getD (first + r) (0, 0)) (D.toList.getD (first + (2 * r + 1)) (0, 0))
        rw [bangL, bangL, ← hl2] at hO
        by_cases hc2 : cI (D.toList.getD (first + r) (0, 0)) (D.toList.getD (first + (2 * r + 1)) (0, 0)) < 0
        rotate_left
        · rw [decide_eq_false hc2, if_neg (by simp)] at hO
          simp only [go_sem, Nat.reduceLT, hc2]
          rw [hO]
          exact HExt.rfl
        · rw [decide_eq_true hc2, if_pos rfl] at hO
          simp only [go_sem, Nat.reduceLT, hc2]
          refine T_drawG hti 24 [21, 23] (.b 0 0 (.b 0 1 (.b 0 2 (.b 0 3 (.b 0 4 (.b 0 5 (.b 0 6 (.b 0 7 (.b 0 8 (.b 0 9 (.b 0 10 (.b 0 11 (.b 0 12 (.b 0 13 (.b 0 14 (.b 0 15 (.b 0 16 (.b 0 17 (.b 0 18 (.b 0 19 (.b 0 20 (.b 4 21 (.b 0 22 (.b 4 23 (.f) .o) .o) .o) .o) .o) .o) .o) .o) .o) .o) .o) .o) .o) .o) .o) .o) .o) .o) .o) .o) .o) .o) .o) .o) _ _ (by kernel_rfl) (by kernel_rfl) ?_
          simp only [go_sem, Nat.reduceLT, reduceCtorEq, hgi, hi0, W0, W1, W4, ix_r c0, ix_r c1, ix_b c0, ix_b c1, ix_c c0, ix_c c1, spotsC_x, spotsC_y, b6, and_false, if_false]
          rw [swap_fn D (a := first + r) (b := first + (2 * r + 1)) (by omega) (by omega)]
          refine ⟨⟨(2 * r + 1, swp D (first + r) (first + (2 * r + 1))), by show 2 * r + 1 ≤ d.size + 1; omega, (swp_size _ _ _).trans hD, hO⟩, by show hi - (2 * r + 1) < hi - r; omega, ?_⟩
          refine Imp.id (by simp) ?_ ?_
          · simp only [go_sem, Nat.reduceLT, hFl]
            exact hi0
          · exact impH.base0 (hok_set hok fun k hk => spotsC_flat _ _) (by simp) HExt.rfl
    · have e2 : (((2 * r + 2 : Nat) : Int) < (hi : Int)) = False := eq_false (by omega)
      refine T_draw hti _ _ (by kernel_rfl) (by kernel_rfl) ?_
      simp only [go_sem, Nat.reduceLT, e2, W2]
      have hp : pickC lt hi first r D = 2 * r + 1 := if_neg fun hh => hA hh.1
      rw [hp] at hO
      refine T_draw hti _ _ (by kernel_rfl) (by kernel_rfl) ?_
      simp only [go_sem, Nat.reduceLT, hgi, hi0, W0, W1, W4, ix_r c0, ix_r c1, ix_b c0, ix_b c1, ix_c c0, ix_c c1, spotsC_x, spotsC_y]
      refine (hcmp (D.toList.getD (first + r) (0, 0)) (D.toList.getD (first + (2 * r + 1)) (0, 0)) _ _ _ _ (Nat.le_refl n) (HBut.set i n h _)).A ?_
      have hl2 := hlt (D.toList.getD (first + r) (0, 0)) (D.toList.getD (first + (2 * r + 1)) (0, 0))
      rw [bangL, bangL, ← hl2] at hO
      by_cases hc2 : cI (D.toList.getD (first + r) (0, 0)) (D.toList.getD (first + (2 * r + 1)) (0, 0)) < 0
      rotate_left
      · rw [decide_eq_false hc2, if_neg (by simp)] at hO
        simp only [go_sem, Nat.reduceLT, hc2]
        rw [hO]
        exact HExt.rfl
      · rw [decide_eq_true hc2, if_pos rfl] at hO
        simp only [go_sem, Nat.reduceLT, hc2]
        refine T_drawG hti 24 [21, 23] (.b 0 0 (.b 0 1 (.b 0 2 (.b 0 3 (.b 0 4 (.b 0 5 (.b 0 6 (.b 0 7 (.b 0 8 (.b 0 9 (.b 0 10 (.b 0 11 (.b 0 12 (.b 0 13 (.b 0 14 (.b 0 15 (.b 0 16 (.b 0 17 (.b 0 18 (.b 0 19 (.b 0 20 (.b 4 21 (.b 0 22 (.b 4 23 (.f) .o) .o) .o) .o) .o) .o) .o) .o) .o) .o) .o) .o) .o) .o) .o) .o) .o) .o) .o) .o) .o) .o) .o) .o) _ _ (by kernel_rfl) (by kernel_rfl) ?_
        simp only [go_sem, Nat.reduceLT, reduceCtorEq, hgi, hi0, W0, W1, W4, ix_r c0, ix_r c1, ix_b c0, ix_b c1, ix_c c0, ix_c c1, spotsC_x, spotsC_y, b6, and_false, if_false]
        rw [swap_fn D (a := first + r) (b := first + (2 * r + 1)) (by omega) (by omega)]
        refine ⟨⟨(2 * r + 1, swp D (first + r) (first + (2 * r + 1))), by show 2 * r + 1 ≤ d.size + 1; omega, (swp_size _ _ _).trans hD, hO⟩, by show hi - (2 * r + 1) < hi - r; omega, ?_⟩
        refine Imp.id (by simp) ?_ ?_
        · simp only [go_sem, Nat.reduceLT, hFl]
          exact hi0
        · exact impH.base0 (hok_set hok fun k hk => spotsC_flat _ _) (by simp) HExt.rfl
end
end Go.Proofs.YtfelopllfhcdpaaGreat.V

/- The library's heap sort over spots. -/
namespace Go.Proofs.YtfelopllfhcdpaaGreat.V
open Go.Sort (swp siftDown heapBuild heapPop heapSort)
section
variable (cx : Cx) (h : List (Nat × Seg)) (n : Nat)
theorem siftDown_M (i cap : Nat) (d : Array (Int × Int)) (m : Nat) (hm : d.size = m) (own : Option (Nat × Nat)) (lo hi first : Nat) (f p q : Nat) (G F : Nat → SV) (cI : Int × Int → Int × Int → Int) (lt : Int × Int → Int × Int → Bool) (hlt : ∀ x y, decide (cI x y < 0) = lt x y)
    (hs : hget h i = some ⟨m * 2, spotsC d.toList, true, own⟩) (hi0 : i < n) (hb : first + hi ≤ m) (h2 : 2 ≤ m) (hlo : lo ≤ m) (hm9 : m ≤ 1000000000) (hF : (SV.fn f p G q F).lt n) (hcmp : Cmps cx h n i f p q G F cI) (K : HK)
    (hK : K (.tup 0 (cl [])) (hset h i ⟨m * 2, spotsC (siftDown lt hi first lo d).toList, true, own⟩) n) :
    CallE Tryz.prog cx 133 [.sl i 0 m cap, .int .i64 lo, .int .i64 hi, .int .i64 first, .fn f p G q F] h n K := by
  subst hm
  exact siftDown_E cx h n i cap d own lo hi first f p q G F cI lt hlt hs hi0 hb h2 hlo hm9 hF hcmp K hK
theorem Cmps.set {cx : Cx} {h : List (Nat × Seg)} {n i f p q : Nat} {G F : Nat → SV} {cI : Int × Int → Int × Int → Int} (hcmp : Cmps cx h n i f p q G F cI) (t : Seg) : Cmps cx (hset h i t) n i f p q G F cI :=
  fun a b nt n0 h' n' hn hb => hcmp a b nt n0 h' n' hn fun j hj hji u hu => hb j hj hji u (by rw [hget_hset, if_neg (Ne.symm hji)]; exact hu)
theorem Cmps.nt {cx : Cx} {h : List (Nat × Seg)} {n i f p q : Nat} {G F : Nat → SV} {cI : Int × Int → Int × Int → Int} (hcmp : Cmps cx h n i f p q G F cI) (t m : Nat) : Cmps ⟨cx.w0, cx.W, t, m⟩ h n i f p q G F cI :=
  fun a b nt n0 h' n' hn hb => hcmp a b nt n0 h' n' hn hb
set_option maxRecDepth 100000 in
set_option maxHeartbeats 1600000 in
theorem heapSort_E (i cap : Nat) (d : Array (Int × Int)) (own : Option (Nat × Nat)) (a b : Nat) (f p q : Nat) (G F : Nat → SV) (cI : Int × Int → Int × Int → Int) (lt : Int × Int → Int × Int → Bool) (hlt : ∀ x y, decide (cI x y < 0) = lt x y)
    (hs : hget h i = some ⟨d.size * 2, spotsC d.toList, true, own⟩) (hi0 : i < n) (hb : b ≤ d.size) (hab : a + 2 ≤ b) (hm9 : d.size ≤ 1000000000) (hF : (SV.fn f p G q F).lt n) (hcmp : Cmps cx h n i f p q G F cI) (K : HK)
    (hK : K (.tup 0 (cl [])) (hset h i ⟨d.size * 2, spotsC (heapSort lt d a b).toList, true, own⟩) n) :
    CallE Tryz.prog cx 121 [.sl i 0 d.size cap, .int .i64 a, .int .i64 b, .fn f p G q F] h n K := by
  refine CallE.to _ _ (by simp only [go_sem]) (fun hok => hok_set hok fun k hk => spotsC_flat _ _) hK ?_
  have hgi : ∀ t, hget (hset h i t) i = some t := hget_hset_self hs
  have hFl : (SV.fn f p G q F).lt n = True := eq_true hF
  refine callE_of_T (P := Tryz.prog) hti (nt := 60) (rs := []) rfl rfl Tryz.call121 Tryz.func121 rfl _ (by simp only [go_sem, and_self]) (Nat.le_of_ble_eq_true rfl) _ fun hok => ?_
  have W0 := w64N (a := (b : Int) - a) (k := b - a) (by omega) (by omega)
  have W1 := w64N (a := ((b - a : Nat) : Int) - 1) (k := b - a - 1) (by omega) (by omega)
  have W2 : IntKind.i64.wrap (((b - a - 1 : Nat) : Int).tdiv 2) = (((b - a - 1) / 2 + 1 : Nat) : Int) - 1 := by rw [Int.tdiv_eq_ediv_of_nonneg (by omega)]; rw [w64 (by omega)]; omega
  simp only [go_sem, Nat.reduceLT, Int.reduceEq, W0, W1, W2]
  refine T_lp (ι := { p : Nat × Array (Int × Int) // p.1 ≤ b - a ∧ p.2.size = d.size ∧ heapBuild lt (b - a) a p.1 p.2 = heapBuild lt (b - a) a ((b - a - 1) / 2 + 1) d })
    (fun w => ([(0, .sl i 0 d.size cap), (3, .fn f p G q F), (8, .int .i64 a), (9, .int .i64 0), (10, .int .i64 ((b - a : Nat) : Int)), (11, .int .i64 ((w.1.1 : Int) - 1))], hset h i ⟨d.size * 2, spotsC w.1.2.toList, true, own⟩, n)) (fun w => w.1.1) ⟨((b - a - 1) / 2 + 1, d), by show (b - a - 1) / 2 + 1 ≤ b - a; omega, rfl, rfl⟩ ?_ ?_
  · refine Imp.id (by simp) ?_ ?_
    · simp only [go_sem, Nat.reduceLT, hFl]
      exact hi0
    · rw [hset_self hs]; exact impH.base0 hok (by simp) HExt.rfl
  · rintro ⟨⟨k, D⟩, hk, hD, hO⟩
    simp only at hk hD hO
    cases k with
    | succ k =>
      have e1 : ((0 : Int) ≤ ((k + 1 : Nat) : Int) - 1) = True := eq_true (by omega)
      have e2 : ((k + 1 : Nat) : Int) - 1 = (k : Int) := by omega
      rw [heapBuild] at hO
      simp only [go_sem, Nat.reduceLT, e1, e2, show ((0 : Int) ≤ (k : Int)) = True from eq_true (by omega)]
      refine callA_false (siftDown_M _ _ _ i cap D d.size hD own k (b - a) a f p q G F cI lt hlt (hgi _) hi0 (by omega) (by omega) (by omega) hm9 hF ((hcmp.set _).nt _ _) _ ?_)
      simp only [go_sem, Nat.reduceLT, hset_hset]
      refine ⟨⟨(k, siftDown lt (b - a) a k D), by show k ≤ b - a; omega, (siftDown_size _ _ _ _ _ _ (Nat.le_refl _)).trans hD, hO⟩, by show k < k + 1; omega, ?_⟩
      refine Imp.id (by simp) ?_ ?_
      · simp only [go_sem, Nat.reduceLT, hFl, w64 (n := (k : Int) - 1) (by omega)]
        exact hi0
      · exact impH.base0 (hok_set hok fun k hk => spotsC_flat _ _) (by simp) HExt.rfl
    | zero =>
      rw [heapBuild] at hO
      simp only [go_sem, Nat.reduceLT, Int.reduceLE, Int.reduceNeg, Int.reduceSub, show ((0 : Int) ≤ ((0 : Nat) : Int) - 1) = False from eq_false (by omega), W1]
      refine T_lp (ι := { p : Nat × Array (Int × Int) // p.1 ≤ b - a ∧ p.2.size = d.size ∧ heapPop lt a p.1 p.2 = heapSort lt d a b })
        (fun w => ([(0, .sl i 0 d.size cap), (3, .fn f p G q F), (8, .int .i64 a), (9, .int .i64 0), (12, .int .i64 ((w.1.1 : Int) - 1))], hset h i ⟨d.size * 2, spotsC w.1.2.toList, true, own⟩, n)) (fun w => w.1.1) ⟨(b - a, D), Nat.le_refl _, hD, by rw [hO]; rfl⟩ ?_ ?_
      · refine Imp.id (by simp) ?_ ?_
        · simp only [go_sem, Nat.reduceLT, Int.reduceNeg, hFl, show ((b - a - 1 : Nat) : Int) = ((b - a : Nat) : Int) - 1 by omega]
          exact hi0
        · exact impH.base0 (hok_set hok fun k hk => spotsC_flat _ _) (by simp) HExt.rfl
      · rintro ⟨⟨k, E⟩, hk, hE, hP⟩
        simp only at hk hE hP
        cases k with
        | succ k =>
          have e2 : ((k + 1 : Nat) : Int) - 1 = (k : Int) := by omega
          have W3 := w64N (a := (a : Int) + (k : Int)) (k := a + k) (by omega) (by omega)
          have c0 : a < d.size := by omega
          have c1 : a + k < d.size := by omega
          have b6 : (2 = d.size * 2) = False := eq_false (by omega)
          rw [heapPop] at hP
          simp only [go_sem, Nat.reduceLT, e2, show ((0 : Int) ≤ (k : Int)) = True from eq_true (by omega)]
          refine T_drawG hti 20 [17, 19] (.b 0 0 (.b 0 1 (.b 0 2 (.b 0 3 (.b 0 4 (.b 0 5 (.b 0 6 (.b 0 7 (.b 0 8 (.b 0 9 (.b 0 10 (.b 0 11 (.b 0 12 (.b 0 13 (.b 0 14 (.b 0 15 (.b 0 16 (.b 4 17 (.b 0 18 (.b 4 19 (.f) .o) .o) .o) .o) .o) .o) .o) .o) .o) .o) .o) .o) .o) .o) .o) .o) .o) .o) .o) .o) _ _ (by kernel_rfl) (by kernel_rfl) ?_
          simp only [go_sem, Nat.reduceLT, hgi, hi0, W3, ix_r c0, ix_r c1, ix_b c0, ix_b c1, ix_c c0, ix_c c1, spotsC_x, spotsC_y, b6, and_false, if_false]
          rw [swap_fn E (a := a) (b := a + k) (by omega) (by omega)]
          have hsw : (swp E a (a + k)).size = d.size := (swp_size _ _ _).trans hE
          refine callA_false (siftDown_M _ _ _ i cap (swp E a (a + k)) d.size hsw own 0 k a f p q G F cI lt hlt (hgi _) hi0 (by omega) (by omega) (by omega) hm9 hF ((hcmp.set _).nt _ _) _ ?_)
          simp only [go_sem, Nat.reduceLT, hset_hset]
          refine ⟨⟨(k, siftDown lt k a 0 (swp E a (a + k))), by show k ≤ b - a; omega, (siftDown_size _ _ _ _ _ _ (Nat.le_refl _)).trans hsw, hP⟩, by show k < k + 1; omega, ?_⟩
          refine Imp.id (by simp) ?_ ?_
          · simp only [go_sem, Nat.reduceLT, hFl, w64 (n := (k : Int) - 1) (by omega)]
            exact hi0
          · exact impH.base0 (hok_set hok fun k hk => spotsC_flat _ _) (by simp) HExt.rfl
        | zero =>
          rw [heapPop] at hP
          simp only [go_sem, Nat.reduceLT, Int.reduceLE, Int.reduceNeg, Int.reduceSub, show ((0 : Int) ≤ ((0 : Nat) : Int) - 1) = False from eq_false (by omega)]
          rw [hP]
          exact HExt.rfl
end
end Go.Proofs.YtfelopllfhcdpaaGreat.V

/- Sets of few cells: the program's own walk. -/
namespace Go.Proofs.YtfelopllfhcdpaaGreat.V
theorem srtS_nodup {L : List (Int × Int)} (h : L.Nodup) : (srtS L).Pairwise fun a b => ltSp a b = true := by
  have h1 := srtS_sorted L
  have h2 : (srtS L).Nodup := (srtS_perm L).nodup_iff.2 h
  refine (h1.and h2).imp fun {a b} ⟨h3, h4⟩ => ?_
  cases hlt : ltSp a b with
  | true => rfl
  | false => exact absurd (ltSp_tri hlt h3) h4
section
variable (cx : Cx) (h : List (Nat × Seg)) (n : Nat)
theorem cloneSp_E (i cap : Nat) (L : List (Int × Int)) (s : Seg) (hs : hget h i = some s) (hi : i < n) (hn : L.length * 2 ≤ s.n) (hc : ∀ k, k < L.length * 2 → s.c k = spotsC L k) (hm9 : L.length ≤ 10000000) (K : HK)
    (hK : ∀ cap', L.length ≤ cap' → cap' ≤ maxLen → K (.sl n 0 L.length cap') ((n, ⟨L.length * 2, spotsC L, true, none⟩) :: h) (n + 1)) :
    CallE Tryz.prog cx 85 [.sl i 0 L.length cap] h n K := by
  refine CallE.imp1 (K := fun r h1 n1 => ∃ cap', L.length ≤ cap' ∧ cap' ≤ maxLen ∧ r = .sl (n + 1) 0 L.length cap' ∧ n1 = n + 2 ∧ HExt n h h1 ∧ ∃ t, hget h1 (n + 1) = some t ∧ t.n = L.length * 2 ∧ t.rw = true ∧ ∀ k, k < L.length * 2 → t.c k = spotsC L k) ?_ ?_
  · refine callE_of_T (P := Tryz.prog) hti (nt := 8) (rs := [.tmp 2]) rfl rfl Tryz.call85 Tryz.func85 rfl _ (by simp only [go_sem, and_self]) (Nat.le_of_ble_eq_true rfl) _ fun hok => ?_
    simp only [go_sem, Nat.reduceLT, Nat.reduceLeDiff, Nat.reduceMul, hs, hi, ↓hok.del (Nat.le_refl n)]
    refine ⟨⟨⟨trivial, Nat.succ_pos 1, ?_, ?_⟩, by omega⟩, fun cap' c1 c2 => ?_⟩
    · show 0 + L.length * 2 ≤ s.n
      omega
    · refine allP_iff.2 fun j hj => ?_
      have hj : j < L.length * 2 := hj
      show (s.c (0 + j)).one
      rw [Nat.zero_add, hc j hj]
      exact (spotsC_flat L j).one
    · refine ⟨cap', c1, c2, rfl, _, rfl, rfl, rfl, fun k hk => ?_⟩
      refine Eq.trans ?_ (hc k hk)
      simp only [both, news, Nat.not_lt_zero, if_false, Nat.sub_zero, Nat.zero_add]
  · rintro hok r h1 n1 ⟨cap', c1, c2, rfl, rfl, hx, t, ht, t1, t2, t3⟩
    exact ⟨n + 1, .sl n 0 L.length cap', (n, ⟨L.length * 2, spotsC L, true, none⟩) :: h, n + 1, by omega, by omega, by simp only [ren_sl, sig_hit], Nat.lt_succ_self n,
      impH.cons1 ht (Nat.lt_succ_self n) (SegLe.flat (by rw [t1]; exact Nat.le_refl _) (fun _ => t2) (.inl rfl) fun k hk => ⟨t3 k hk, spotsC_flat _ _⟩) (impH.base1 hok (by simp) (Nat.le_refl n) hx), hK cap' c1 c2⟩
end
end Go.Proofs.YtfelopllfhcdpaaGreat.V

/- The law's spots, and lists of spots that are alike. -/
namespace Go.Proofs.YtfelopllfhcdpaaGreat.V
theorem wr_at {N o k : Nat} {v : SV} {c : Nat → SV} (hk : k < N) : (if o = 0 ∧ 1 = N then cl [v] else upd c o v) k = upd c o v k := by
  split
  · rename_i e
    obtain ⟨rfl, rfl⟩ := e
    obtain rfl : k = 0 := by omega
    rfl
  · rfl
theorem wr_flat {N o : Nat} {v : SV} {c : Nat → SV} (hv : v.flat) (hc : ∀ k, k < N → (c k).flat) : ∀ k, k < N → ((if o = 0 ∧ 1 = N then cl [v] else upd c o v) k).flat := fun k hk => by
  rw [wr_at hk]; unfold upd; split
  · exact hv
  · exact hc k hk
section
variable (cx : Cx) (h : List (Nat × Seg)) (n : Nat)
theorem toSpot_Q (x y : Int) : CallQ Tryz.prog cx 41 [spot x y] h n (spot x y) := by
  refine callQ_of_T (P := Tryz.prog) hti (nt := 11) (rs := [.cell 2 58]) rfl rfl Tryz.call41 Tryz.func41 rfl _ (by simp only [go_sem, and_self]) (Nat.le_of_ble_eq_true rfl) _ (by first | exact trivial | (refine lt_flat rfl ?_; simp [SV.flat]; done) | simp only [go_sem]) fun hok => ?_
  simp only [go_sem, Nat.reduceLT, Nat.reduceLeDiff, Nat.reduceEqDiff, reduceIte, reduceCtorEq]
theorem eqSpot_Q (x y x' y' : Int) : CallQ Tryz.prog cx 43 [spot x y, spot x' y'] h n (.bool (decide (x = x' ∧ y = y'))) := by
  refine callQ_of_T (P := Tryz.prog) hti (nt := 15) (rs := [.tmp 4]) rfl rfl Tryz.call43 Tryz.func43 rfl _ (by simp only [go_sem, and_self]) (Nat.le_of_ble_eq_true rfl) _ (by first | exact trivial | (refine lt_flat rfl ?_; simp [SV.flat]; done) | simp only [go_sem]) fun hok => ?_
  simp only [go_sem, Nat.reduceLT, Nat.reduceLeDiff, reduceCtorEq]
  by_cases hx : x = x'
  · by_cases hy : y = y'
    · simp only [go_sem, hx, hy]
    · simp only [go_sem, reduceCtorEq, hx, hy]
  · simp only [go_sem, reduceCtorEq, hx]
theorem eqSpotS_Q (i cap i' cap' : Nat) (L : List (Int × Int)) (s s' : Seg) (hs : hget h i = some s) (hi : i < n) (hL : SpsAt s L) (hs' : hget h i' = some s') (hi' : i' < n) (hL' : SpsAt s' L) (hm9 : L.length ≤ 1000000000) :
    CallQ Tryz.prog cx 11 [.sl i 0 L.length cap, .sl i' 0 L.length cap'] h n (.bool true) := by
  have hn := hL.1; have hn' := hL'.1
  refine callQ_of_T (P := Tryz.prog) hti (nt := 27) (rs := [.tmp 4]) rfl rfl Tryz.call11 Tryz.func11 rfl _ (by simp only [go_sem, and_self]) (Nat.le_of_ble_eq_true rfl) _ (by first | exact trivial | (refine lt_flat rfl ?_; simp [SV.flat]; done) | simp only [go_sem]) fun hok => ?_
  simp only [go_sem, Nat.reduceLT]
  refine T_lp (ι := { q : Nat // q ≤ L.length }) (fun q => ([(0, .sl i 0 L.length cap), (1, .sl i' 0 L.length cap'), (5, .int .i64 q.1)], h, n)) (fun q => L.length - q.1) ⟨0, by omega⟩ ?_ ?_
  · refine Imp.id (by simp) ?_ (impH.base0 hok (by simp) HExt.rfl)
    simp only [go_sem, Nat.reduceLT]
    exact ⟨hi, hi'⟩
  · rintro ⟨q, hq⟩
    simp only [go_sem, Nat.reduceLT, decide_eq_true_eq, decide_eq_false_iff_not]
    refine ⟨fun h1 => ?_, fun h1 => ?_⟩
    · have r1 : (0 : Int) ≤ q ∧ (q : Int) < L.length := ⟨by omega, by omega⟩
      have b1 : q * 2 ≤ s.n - 2 := by omega
      have b2 : q * 2 ≤ s'.n - 2 := by omega
      have b3 : 2 ≤ s.n := by omega
      have b4 : 2 ≤ s'.n := by omega
      refine T_draw hti _ _ (by kernel_rfl) (by kernel_rfl) ?_
      simp only [go_sem, Nat.reduceLT, hs, hs', r1, b1, b2, b3, b4, hL.x (j := q) (by omega), hL.y (j := q) (by omega), hL'.x (j := q) (by omega), hL'.y (j := q) (by omega)]
      refine ⟨by omega, by omega, (eqSpot_Q _ _ _ _ _ _ _).A ?_⟩
      simp only [go_sem, Nat.reduceLT]
      refine ⟨⟨q + 1, by omega⟩, by show L.length - (q + 1) < L.length - q; omega, ?_⟩
      refine Imp.id (by simp) ?_ (impH.base0 hok (by simp) HExt.rfl)
      simp only [go_sem, Nat.reduceLT, w64 (n := (q : Int) + 1) (by omega), Int.natCast_add, Int.natCast_one]
      exact ⟨hi, hi'⟩
    · simp only [go_sem]
end
end Go.Proofs.YtfelopllfhcdpaaGreat.V

/- The law's lists of spots that were made: compared, marked, looked at again. -/
namespace Go.Proofs.YtfelopllfhcdpaaGreat.V
/-- A list of spots that a call has made. -/
def SpsOut (h : List (Nat × Seg)) (lo n : Nat) (V : SV) (L : List (Int × Int)) : Prop :=
  (V = .nils ∧ L = []) ∨ ∃ i cap s, V = .sl i 0 L.length cap ∧ lo ≤ i ∧ i < n ∧ hget h i = some s ∧ s.rw = true ∧ s.n = L.length * 2 ∧ ∀ k, k < L.length * 2 → s.c k = spotsC L k
theorem SpsOut.ok {h : List (Nat × Seg)} {lo n : Nat} {V : SV} {L : List (Int × Int)} (hA : SpsOut h lo n V L) : V.ok = True := by
  rcases hA with ⟨rfl, rfl⟩ | ⟨i, cap, s, rfl, _⟩ <;> rfl
theorem SpsOut.mono {h h' : List (Nat × Seg)} {lo n n' : Nat} {V : SV} {L : List (Int × Int)} (hA : SpsOut h lo n V L) (hn : n ≤ n') (hx : ∀ i, lo ≤ i → i < n → ∀ t, hget h i = some t → hget h' i = some t) : SpsOut h' lo n' V L := by
  rcases hA with h1 | ⟨i, cap, s, rfl, h1, h2, h3, h4⟩
  · exact .inl h1
  · exact .inr ⟨i, cap, s, rfl, h1, by omega, hx i h1 h2 s h3, h4⟩
theorem SpsOut.ext {h h' : List (Nat × Seg)} {lo n n' : Nat} {V : SV} {L : List (Int × Int)} (hA : SpsOut h lo n V L) (hn : n ≤ n') (hx : HExt n h h') : SpsOut h' lo n' V L := hA.mono hn fun i _ hi => hx i hi
theorem SpsOut.mono' {h : List (Nat × Seg)} {lo lo' n : Nat} {V : SV} {L : List (Int × Int)} (hA : SpsOut h lo n V L) (hl : lo' ≤ lo) : SpsOut h lo' n V L := by
  rcases hA with h1 | ⟨i, cap, s, rfl, h1, h2⟩
  · exact .inl h1
  · exact .inr ⟨i, cap, s, rfl, by omega, h2⟩
/-- Spots that were marked. -/
def SpsHeld (h : List (Nat × Seg)) (lo n : Nat) (V : SV) (len : Nat) : Prop :=
  (V = .nils ∧ len = 0) ∨ ∃ i cap s, V = .sl i 0 len cap ∧ lo ≤ i ∧ i < n ∧ hget h i = some s ∧ s.n = len * 2 ∧ ∀ k : Nat, k < len → s.c (k * 2) = .int .i8 (IntKind.i8.wrap (2 * (k : Int) + 1)) ∧ s.c (k * 2 + 1) = .int .i8 (IntKind.i8.wrap (2 * (k : Int) + 1 + 1))
theorem SpsHeld.ext {h h' : List (Nat × Seg)} {lo n n' : Nat} {V : SV} {len : Nat} (hA : SpsHeld h lo n V len) (hn : n ≤ n') (hx : HExt n h h') : SpsHeld h' lo n' V len := by
  rcases hA with h1 | ⟨i, cap, s, rfl, h1, h2, h3, h4⟩
  · exact .inl h1
  · exact .inr ⟨i, cap, s, rfl, h1, by omega, hx i h2 s h3, h4⟩
theorem upd2_at {N q : Nat} (c : Nat → SV) (v1 v2 : SV) (h : 2 ≤ N) : (upd (if q * 2 = 0 ∧ 1 = N then cl [v1] else upd c (q * 2) v1) (q * 2 + 1) v2) (q * 2) = v1 ∧ (upd (if q * 2 = 0 ∧ 1 = N then cl [v1] else upd c (q * 2) v1) (q * 2 + 1) v2) (q * 2 + 1) = v2 ∧
    ∀ z, z ≠ q * 2 → z ≠ q * 2 + 1 → (upd (if q * 2 = 0 ∧ 1 = N then cl [v1] else upd c (q * 2) v1) (q * 2 + 1) v2) z = c z := by
  have e0 : ¬ (q * 2 = 0 ∧ 1 = N) := by omega
  rw [if_neg e0]
  refine ⟨?_, ?_, fun z h1 h2 => ?_⟩
  · rw [upd_far (by omega)]; simp [upd]
  · simp [upd]
  · rw [upd_far h2, upd_far h1]
section
variable (cx : Cx) (h : List (Nat × Seg)) (n : Nat)
theorem eqSpots_Q (V V' : SV) (L : List (Int × Int)) (lo lo' : Nat) (hA : SpsOut h lo n V L) (hA' : SpsOut h lo' n V' L) (hm9 : L.length ≤ 1000000000) :
    CallQ Tryz.prog cx 11 [V, V'] h n (.bool true) := by
  rcases hA with ⟨rfl, rfl⟩ | ⟨i, cap, s, rfl, h0, hi, hs, _, hn, hc⟩ <;> rcases hA' with ⟨rfl, hL⟩ | ⟨i', cap', s', rfl, h0', hi', hs', _, hn', hc'⟩
  · refine callQ_of_T (P := Tryz.prog) hti (nt := 27) (rs := [.tmp 4]) rfl rfl Tryz.call11 Tryz.func11 rfl _ (by simp only [go_sem, and_self]) (Nat.le_of_ble_eq_true rfl) _ (by first | exact trivial | (refine lt_flat rfl ?_; simp [SV.flat]; done) | simp only [go_sem]) fun hok => ?_
    simp only [go_sem, Nat.reduceLT]
    refine T_unroll 0 ?_
    simp only [go_sem, Nat.reduceLT, Int.reduceLT]
  · refine callQ_of_T (P := Tryz.prog) hti (nt := 27) (rs := [.tmp 4]) rfl rfl Tryz.call11 Tryz.func11 rfl _ (by simp only [go_sem, and_self]) (Nat.le_of_ble_eq_true rfl) _ (by first | exact trivial | (refine lt_flat rfl ?_; simp [SV.flat]; done) | simp only [go_sem]) fun hok => ?_
    simp only [go_sem, Nat.reduceLT]
    refine T_unroll 0 ?_
    simp only [go_sem, Nat.reduceLT, Int.reduceLT]
  · subst hL
    refine callQ_of_T (P := Tryz.prog) hti (nt := 27) (rs := [.tmp 4]) rfl rfl Tryz.call11 Tryz.func11 rfl _ (by simp only [go_sem, and_self]) (Nat.le_of_ble_eq_true rfl) _ (by first | exact trivial | (refine lt_flat rfl ?_; simp [SV.flat]; done) | simp only [go_sem]) fun hok => ?_
    simp only [go_sem, Nat.reduceLT]
    refine T_unroll 0 ?_
    simp only [go_sem, Nat.reduceLT, Int.reduceLT]
  · exact eqSpotS_Q cx h n i cap i' cap' L s s' hs hi ⟨by omega, hc⟩ hs' hi' ⟨by omega, hc'⟩ hm9
theorem markSpots_E (V : SV) (L : List (Int × Int)) (lo : Nat) (hA : SpsOut h lo n V L) (hm9 : L.length ≤ 1000000000) (K : HK)
    (hK : ∀ h', HOk n h' → (∀ m h0, m ≤ lo → HExt m h0 h → HExt m h0 h') → SpsHeld h' lo n V L.length → K (.int .i64 (2 * L.length + 1)) h' n) :
    CallE Tryz.prog cx 12 [V, .int .i64 1] h n K := by
  refine CallE.hokE ?_
  rcases hA with ⟨rfl, rfl⟩ | ⟨i, cap, s, rfl, h0, hi, hs, hrw, hn, hc⟩
  · refine callE_of_T (P := Tryz.prog) hti (nt := 29) (rs := [.tmp 4]) rfl rfl Tryz.call12 Tryz.func12 rfl _ (by simp only [go_sem, and_self]) (Nat.le_of_ble_eq_true rfl) _ fun hok => ?_
    simp only [go_sem, Nat.reduceLT]
    refine T_unroll 0 ?_
    simp only [go_sem, Nat.reduceLT, Int.reduceLT]
    exact fun hok' => hK h hok' (fun m h0 _ hx => hx) (.inl ⟨rfl, rfl⟩)
  · have hfl0 : ∀ k, k < s.n → (s.c k).flat := fun k hk => by rw [hc k (by omega)]; exact spotsC_flat _ _
    refine callE_of_T (P := Tryz.prog) hti (nt := 29) (rs := [.tmp 4]) rfl rfl Tryz.call12 Tryz.func12 rfl _ (by simp only [go_sem, and_self]) (Nat.le_of_ble_eq_true rfl) _ fun hok => ?_
    simp only [go_sem, Nat.reduceLT]
    refine T_lp (ι := { w : Nat × (Nat → SV) // w.1 ≤ L.length ∧ (∀ k, k < s.n → (w.2 k).flat) ∧ ∀ k : Nat, k < w.1 → w.2 (k * 2) = .int .i8 (IntKind.i8.wrap (2 * (k : Int) + 1)) ∧ w.2 (k * 2 + 1) = .int .i8 (IntKind.i8.wrap (2 * (k : Int) + 1 + 1)) })
      (fun w => ([(0, .sl i 0 L.length cap), (1, .int .i64 (2 * w.1.1 + 1)), (5, .int .i64 w.1.1)], hset h i ⟨s.n, w.1.2, true, s.own⟩, n)) (fun w => L.length - w.1.1) ⟨(0, s.c), by simp, hfl0, fun k hk => absurd hk (Nat.not_lt_zero k)⟩ ?_ ?_
    · refine Imp.id (by simp) ?_ ?_
      · simp only [go_sem, Nat.reduceLT, Int.reduceAdd, Int.reduceMul]
        exact hi
      · have e : hset h i ⟨s.n, s.c, true, s.own⟩ = hset h i s := by rw [← hrw]
        rw [e]
        exact impH.set0 hok (Nat.le_refl _) hs (fun j hj hji t ht => ht) hs (SegLe.flat (Nat.le_refl _) id (.inr rfl) fun k hk => ⟨rfl, hfl0 k hk⟩)
    · rintro ⟨⟨q, c⟩, hq, hfl, hmk⟩
      simp only at hq hfl hmk
      simp only [go_sem, Nat.reduceLT, reduceCtorEq, decide_eq_true_eq, decide_eq_false_iff_not]
      refine ⟨fun h1 => ?_, fun h1 => ?_⟩
      · have r1 : (0 : Int) ≤ q ∧ (q : Int) < L.length := ⟨by omega, by omega⟩
        have b1 : q * 2 ≤ s.n - 2 := by omega
        have b2 : q * 2 ≤ s.n - 1 := by omega
        have b3 : q * 2 + 1 ≤ s.n - 1 := by omega
        have b4 : q * 2 + 2 ≤ s.n := by omega
        have b5 : 2 ≤ s.n := by omega
        have b6 : 1 ≤ s.n := by omega
        have hg : ∀ c, hget (hset h i ⟨s.n, c, true, s.own⟩) i = some ⟨s.n, c, true, s.own⟩ := fun c => hget_hset_self hs _
        simp only [go_sem, Nat.reduceLT, reduceIte, reduceCtorEq, hg, hi, r1, b1, b2, b3, b4, b5, b6, w64 (n := 2 * (q : Int) + 1 + 1) (by omega)]
        have hf1 := wr_flat (N := s.n) (o := q * 2) (v := .int .i8 (IntKind.i8.wrap (2 * (q : Int) + 1))) trivial hfl
        have hf2 : ∀ k, k < s.n → ((upd (if q * 2 = 0 ∧ 1 = s.n then cl [.int .i8 (IntKind.i8.wrap (2 * (q : Int) + 1))] else upd c (q * 2) (.int .i8 (IntKind.i8.wrap (2 * (q : Int) + 1)))) (q * 2 + 1) (.int .i8 (IntKind.i8.wrap (2 * (q : Int) + 1 + 1)))) k).flat := fun k hk => by
          unfold upd; split
          · trivial
          · exact hf1 k hk
        refine ⟨by omega, ⟨(q + 1, _), by show q + 1 ≤ L.length; omega, hf2, fun k hk => ?_⟩, by show L.length - (q + 1) < L.length - q; omega, ?_⟩
        · obtain ⟨u1, u2, u3⟩ := upd2_at (N := s.n) (q := q) c (.int .i8 (IntKind.i8.wrap (2 * (q : Int) + 1))) (.int .i8 (IntKind.i8.wrap (2 * (q : Int) + 1 + 1))) b5
          by_cases hkq : k = q
          · subst hkq; exact ⟨u1, u2⟩
          · have hk' : k < q := by have : k < q + 1 := hk; omega
            exact ⟨(u3 _ (by omega) (by omega)).trans (hmk k hk').1, (u3 _ (by omega) (by omega)).trans (hmk k hk').2⟩
        refine Imp.id (by simp) ?_ (impH.base0 (hok_set hok hf2) (by simp) HExt.rfl)
        simp only [go_sem, Nat.reduceLT, w64 (n := (q : Int) + 1) (by omega), w64 (n := 2 * (q : Int) + 1 + 1 + 1) (by omega), Int.natCast_add, Int.natCast_one]
        exact ⟨hi, by rw [show (2 * (q : Int) + 1 + 1 + 1) = 2 * ((q : Int) + 1) + 1 by omega]⟩
      · have hq' : q = L.length := by omega
        subst hq'
        refine fun hok' => hK _ hok' (fun m h0 hm hx j hj t ht => ?_) (.inr ⟨i, cap, _, rfl, h0, hi, hget_hset_self hs _, hn, hmk⟩)
        rw [hget_hset, if_neg (by omega)]; exact hx j hj t ht
theorem heldSpots_Q (V : SV) (len : Nat) (lo : Nat) (hA : SpsHeld h lo n V len) (hm9 : len ≤ 1000000000) :
    CallQ Tryz.prog cx 13 [V, .int .i64 1] h n (.int .i64 (2 * len + 1)) := by
  rcases hA with ⟨rfl, rfl⟩ | ⟨i, cap, s, rfl, h0, hi, hs, hn, hc⟩
  · refine callQ_of_T (P := Tryz.prog) hti (nt := 33) (rs := [.tmp 4]) rfl rfl Tryz.call13 Tryz.func13 rfl _ (by simp only [go_sem, and_self]) (Nat.le_of_ble_eq_true rfl) _ (by first | exact trivial | (refine lt_flat rfl ?_; simp [SV.flat]; done) | simp only [go_sem]) fun hok => ?_
    simp only [go_sem, Nat.reduceLT, Int.reduceNeg, Int.reduceAdd, Int.reduceMul]
    refine T_unroll 0 ?_
    simp only [go_sem, Nat.reduceLT, Int.reduceLT, Int.reduceNeg]
  · refine callQ_of_T (P := Tryz.prog) hti (nt := 33) (rs := [.tmp 4]) rfl rfl Tryz.call13 Tryz.func13 rfl _ (by simp only [go_sem, and_self]) (Nat.le_of_ble_eq_true rfl) _ (by first | exact trivial | (refine lt_flat rfl ?_; simp [SV.flat]; done) | simp only [go_sem]) fun hok => ?_
    simp only [go_sem, Nat.reduceLT, Int.reduceNeg]
    refine T_lp (ι := { q : Nat // q ≤ len }) (fun q => ([(0, .sl i 0 len cap), (1, .int .i64 (2 * q.1 + 1)), (5, .int .i64 q.1)], h, n)) (fun q => len - q.1) ⟨0, by omega⟩ ?_ ?_
    · refine Imp.id (by simp) ?_ (impH.base0 hok (by simp) HExt.rfl)
      simp only [go_sem, Nat.reduceLT, Int.reduceAdd, Int.reduceMul]
      exact hi
    · rintro ⟨q, hq⟩
      simp only [go_sem, Nat.reduceLT, reduceCtorEq, Int.reduceNeg, decide_eq_true_eq, decide_eq_false_iff_not]
      refine ⟨fun h1 => ?_, fun h1 => ?_⟩
      · have r1 : (0 : Int) ≤ q ∧ (q : Int) < len := ⟨by omega, by omega⟩
        have b1 : q * 2 ≤ s.n - 2 := by omega
        have b2 : q * 2 ≤ s.n - 1 := by omega
        have b3 : q * 2 + 1 ≤ s.n - 1 := by omega
        have b5 : 2 ≤ s.n := by omega
        have b6 : 1 ≤ s.n := by omega
        obtain ⟨e1, e2⟩ := hc q (by omega)
        simp only [go_sem, Nat.reduceLT, reduceCtorEq, Int.reduceNeg, hs, hi, r1, b1, b2, b3, b5, b6, e1, e2, w64 (n := 2 * (q : Int) + 1 + 1) (by omega)]
        refine ⟨by omega, by omega, ⟨q + 1, by omega⟩, by show len - (q + 1) < len - q; omega, ?_⟩
        refine Imp.id (by simp) ?_ (impH.base0 hok (by simp) HExt.rfl)
        simp only [go_sem, Nat.reduceLT, w64 (n := (q : Int) + 1) (by omega), w64 (n := 2 * (q : Int) + 1 + 1 + 1) (by omega), Int.natCast_add, Int.natCast_one]
        exact ⟨hi, by rw [show (2 * (q : Int) + 1 + 1 + 1) = 2 * ((q : Int) + 1) + 1 by omega]⟩
      · have hq' : q = len := by omega
        subst hq'
        simp only [go_sem]
end
end Go.Proofs.YtfelopllfhcdpaaGreat.V

/- The cells to which one can go. -/
namespace Go.Proofs.YtfelopllfhcdpaaGreat.V
def addB (is : Int → Int → Bool) (out : List (Int × Int)) (q : Int × Int) : List (Int × Int) := if is q.1 q.2 = true ∧ q ∉ out then out ++ [q] else out
theorem addB_new {is : Int → Int → Bool} {out : List (Int × Int)} {q : Int × Int} (h1 : is q.1 q.2 = true) (h2 : q ∉ out) : addB is out q = out ++ [q] := if_pos ⟨h1, h2⟩
theorem addB_old {is : Int → Int → Bool} {out : List (Int × Int)} {q : Int × Int} (h : ¬ (is q.1 q.2 = true ∧ q ∉ out)) : addB is out q = out := if_neg h
/-- What is kept: cells of the sheet, each one once. -/
structure BOk (out : List (Int × Int)) : Prop where
  nd : out.Nodup
  in8 : In8s out
theorem BOk.len {out : List (Int × Int)} (h : BOk out) : out.length ≤ 64 := by
  have h1 : Strict (setL out) := setL_strict out
  have h2 := strict_len h1 h.in8.setL
  have h3 : setL out = srtS out := setL_eq (srtS_nodup h.nd) fun a => (srtS_perm out).mem_iff
  rw [h3] at h2
  exact Nat.le_trans (Nat.le_of_eq (srtS_perm out).length_eq.symm) h2
theorem BOk.add {is : Int → Int → Bool} (his : ∀ x y, is x y = true → In8 (x, y)) {out : List (Int × Int)} (h : BOk out) (q : Int × Int) : BOk (addB is out q) := by
  by_cases hq : is q.1 q.2 = true ∧ q ∉ out
  · rw [addB_new hq.1 hq.2]
    refine ⟨List.nodup_append.2 ⟨h.nd, by simp, fun a ha b hb => ?_⟩, fun p hp => ?_⟩
    · rw [List.mem_singleton] at hb; subst hb; exact fun e => hq.2 (e ▸ ha)
    · rcases List.mem_append.1 hp with hp | hp
      · exact h.in8 p hp
      · rw [List.mem_singleton] at hp; subst hp; exact his _ _ hq.1
  · rw [addB_old hq]; exact h
theorem BOk.one {p : Int × Int} (h : In8 p) : BOk [p] := ⟨by simp, fun q hq => by rw [List.mem_singleton] at hq; subst hq; exact h⟩
end Go.Proofs.YtfelopllfhcdpaaGreat.V

/- What is stained: the program's own walk. -/
namespace Go.Proofs.YtfelopllfhcdpaaGreat.V

section
variable (cx : Cx) (h : List (Nat × Seg)) (n : Nat)
end
end Go.Proofs.YtfelopllfhcdpaaGreat.V

/- StainOf by the program's own code: the walk. -/
namespace Go.Proofs.YtfelopllfhcdpaaGreat.V
section
variable (cx : Cx) (h : List (Nat × Seg)) (n : Nat)
theorem codeI_bad {S : Sh} {b : Bool} (h : ¬ Valid S) : codeI S b = 1 := by simp [codeI, validB_false h]
theorem codeI_ok {S : Sh} {b : Bool} (h : Valid S) : codeI S b = if b then 0 else 2 := by simp [codeI, validB_true h]
end
end Go.Proofs.YtfelopllfhcdpaaGreat.V

/- (lists of spots) The library's insertion sort over spots. -/
namespace Go.Proofs.YtfelopllfhcdpaaGreat.V
open Go.Sort (swp insInner insOuter insertionSort)

theorem yswp_size (d : Array Nat) (i j : Nat) : (swp d i j).size = d.size := by unfold swp; simp
/-- Elements of a list of lists: where each lies, how long it is. -/
structure El where
  r : Nat → Nat
  ln : Nat → Nat
  cp : Nat → Nat
def elC (e : El) (L : List Nat) : Nat → SV := fun j => .sl (e.r (L.getD j 0)) 0 (e.ln (L.getD j 0)) (e.cp (L.getD j 0))
theorem elC_at (e : El) (L : List Nat) (j : Nat) : elC e L j = .sl (e.r (L.getD j 0)) 0 (e.ln (L.getD j 0)) (e.cp (L.getD j 0)) := rfl
theorem hokE {n i m : Nat} {h : List (Nat × Seg)} {L : List Nat} {e : El} {w : Bool} {own : Option (Nat × Nat)} (hok : HOk n h) (hE : ∀ k, e.r k < n) : HOk n (hset h i ⟨m, elC e L, w, own⟩) := HOk.hset hok fun k _ => hE _
theorem yix_b {k s : Nat} (h : k < s) : k ≤ s - 1 := by omega
theorem yix_c {k s : Nat} (h : k < s) : k + 1 ≤ s := by omega
theorem ybang_getD (d : Array Nat) (j : Nat) : d[j]! = d.toList.getD j 0 := by
  rw [List.getD_eq_getElem?_getD, Array.getElem?_toList, getElem!_def]
  cases d[j]? <;> rfl
theorem yswp_toList (d : Array Nat) (i j : Nat) : (swp d i j).toList = (d.toList.set i (d.toList.getD j 0)).set j (d.toList.getD i 0) := by
  unfold swp
  rw [Array.toList_setIfInBounds, Array.toList_setIfInBounds, ybang_getD, ybang_getD]
/-- An element stored. -/
theorem el_store (e : El) (L : List Nat) (k x : Nat) (hk : k < L.length) : upd (elC e L) k (.sl (e.r x) 0 (e.ln x) (e.cp x)) = elC e (L.set k x) := by
  funext j
  unfold upd
  by_cases h : j = k
  · subst h
    have hg : (L.set j x).getD j 0 = x := by simp [List.getD_eq_getElem?_getD, hk]
    rw [if_pos rfl, elC_at, hg]
  · have hg : (L.set k x).getD j 0 = L.getD j 0 := by
      simp only [List.getD_eq_getElem?_getD, List.getElem?_set]; rw [if_neg (by omega)]
    rw [if_neg h, elC_at, elC_at, hg]
/-- Two elements exchanged. -/
theorem yswap_fn {e : El} (D : Array Nat) {a b : Nat} (ha : a < D.size) (hb : b < D.size) :
    upd (upd (elC e D.toList) a (.sl (e.r (D.toList.getD b 0)) 0 (e.ln (D.toList.getD b 0)) (e.cp (D.toList.getD b 0)))) b (.sl (e.r (D.toList.getD a 0)) 0 (e.ln (D.toList.getD a 0)) (e.cp (D.toList.getD a 0))) = elC e (swp D a b).toList := by
  rw [el_store _ _ _ _ (by rw [Array.length_toList]; exact ha), el_store _ _ _ _ (by rw [List.length_set, Array.length_toList]; exact hb), ← yswp_toList]
/-- A function that compares elements: it looks at the rows, but not at the list of them. -/
def yCmps (cx : Cx) (h : List (Nat × Seg)) (n i : Nat) (e : El) (f p q : Nat) (G F : Nat → SV) (cI : Nat → Nat → Int) : Prop :=
  ∀ (a b : Nat) nt n0 h' n', n ≤ n' → HBut i n h h' → CallQ Tryz.prog ⟨cx.w0, cx.W, nt, n0⟩ f (lst p G ++ [.sl (e.r a) 0 (e.ln a) (e.cp a), .sl (e.r b) 0 (e.ln b) (e.cp b)] ++ lst q F) h' n' (.int .i64 (cI a b))
theorem yCmps.set {cx : Cx} {h : List (Nat × Seg)} {n i : Nat} {e : El} {f p q : Nat} {G F : Nat → SV} {cI : Nat → Nat → Int} (hcmp : yCmps cx h n i e f p q G F cI) (t : Seg) : yCmps cx (hset h i t) n i e f p q G F cI :=
  fun a b nt n0 h' n' hn hb => hcmp a b nt n0 h' n' hn fun j hj hji u hu => hb j hj hji u (by rw [hget_hset, if_neg (Ne.symm hji)]; exact hu)
theorem yCmps.nt {cx : Cx} {h : List (Nat × Seg)} {n i : Nat} {e : El} {f p q : Nat} {G F : Nat → SV} {cI : Nat → Nat → Int} (hcmp : yCmps cx h n i e f p q G F cI) (t m : Nat) : yCmps ⟨cx.w0, cx.W, t, m⟩ h n i e f p q G F cI :=
  fun a b nt n0 h' n' hn hb => hcmp a b nt n0 h' n' hn hb

section
variable (cx : Cx) (h : List (Nat × Seg)) (n : Nat)
set_option maxRecDepth 100000 in
theorem yinsSort_E (i cap : Nat) (d : Array Nat) (own : Option (Nat × Nat)) (ee : El) (hRw : ∀ k, ee.r k < n) (a b : Nat) (f p q : Nat) (G F : Nat → SV) (cI : Nat → Nat → Int) (lt : Nat → Nat → Bool) (hlt : ∀ x y, decide (cI x y < 0) = lt x y)
    (hs : hget h i = some ⟨d.size, elC ee d.toList, true, own⟩) (hi : i < n) (hb : b ≤ d.size) (hab : a ≤ b) (hm9 : d.size ≤ 1000000000) (hF : (SV.fn f p G q F).lt n) (hcmp : yCmps cx h n i ee f p q G F cI) (K : HK)
    (hK : K (.tup 0 (cl [])) (hset h i ⟨d.size, elC ee (insertionSort lt d a b).toList, true, own⟩) n) :
    CallE Tryz.prog cx 109 [.sl i 0 d.size cap, .int .i64 a, .int .i64 b, .fn f p G q F] h n K := by
  refine CallE.to _ _ (by simp only [go_sem]) (fun hok => hokE hok hRw) hK ?_
  have hgi : ∀ t, hget (hset h i t) i = some t := hget_hset_self hs
  have hFl : (SV.fn f p G q F).lt n = True := eq_true hF
  refine callE_of_T (P := Tryz.prog) hti (nt := 53) (rs := []) rfl rfl Tryz.call109 Tryz.func109 rfl _ (by simp only [go_sem, and_self]) (Nat.le_of_ble_eq_true rfl) _ fun hok => ?_
  have ha9 : a ≤ 1000000000 := by omega
  simp only [go_sem, Nat.reduceLT, w64 (n := (a : Int) + 1) (by omega)]
  refine T_lp (ι := { p : Nat × Array Nat // p.1 ≤ b + 1 ∧ a + 1 ≤ p.1 ∧ p.2.size = d.size ∧ insOuter lt a b p.1 p.2 = insertionSort lt d a b })
    (fun w => ([(0, .sl i 0 d.size cap), (1, .int .i64 a), (2, .int .i64 b), (3, .fn f p G q F), (8, .int .i64 w.1.1)], hset h i ⟨d.size, elC ee w.1.2.toList, true, own⟩, n)) (fun w => b + 1 - w.1.1) ⟨(a + 1, d), by omega, Nat.le_refl _, rfl, rfl⟩ ?_ ?_
  · refine Imp.id (by simp) ?_ ?_
    · simp only [go_sem, Nat.reduceLT, hFl, Int.natCast_add, Int.natCast_one]
      exact hi
    · rw [hset_self hs]; exact impH.base0 hok (by simp) HExt.rfl
  · rintro ⟨⟨k, D⟩, hk, hak, hD, hO⟩
    simp only at hk hak hD hO
    simp only [go_sem, Nat.reduceLT, decide_eq_true_eq, decide_eq_false_iff_not]
    refine ⟨fun h1 => ?_, fun h1 => ?_⟩
    · have hkb : k < b := by omega
      refine T_lp (ι := { p : Nat × Array Nat // p.1 ≤ k ∧ a ≤ p.1 ∧ p.2.size = d.size ∧ insInner lt a p.1 p.2 = insInner lt a k D })
        (fun w => ([(0, .sl i 0 d.size cap), (1, .int .i64 a), (2, .int .i64 b), (3, .fn f p G q F), (8, .int .i64 k), (9, .int .i64 w.1.1)], hset h i ⟨d.size, elC ee w.1.2.toList, true, own⟩, n)) (fun w => w.1.1) ⟨(k, D), Nat.le_refl _, by omega, hD, rfl⟩ ?_ ?_
      · refine Imp.id (by simp) ?_ ?_
        · simp only [go_sem, Nat.reduceLT, hFl]
          exact hi
        · exact impH.base0 (hokE hok hRw) (by simp) HExt.rfl
      · rintro ⟨⟨j, E⟩, hj, haj, hE, hI⟩
        simp only at hj haj hE hI
        have hEl : E.toList.length = d.size := by rw [Array.length_toList]; exact hE
        simp only [go_sem]
        by_cases hja : a < j
        rotate_left
        · have e1 : ((a : Int) < j) = False := eq_false (by omega)
          refine T_draw hti _ _ (by kernel_rfl) (by kernel_rfl) ?_
          simp only [go_sem, Nat.reduceLT, e1]
          have e2 : insInner lt a j E = E := by
            cases j with
            | zero => rfl
            | succ j => unfold insInner; rw [if_neg (by simp; omega)]
          rw [e2] at hI
          refine ⟨⟨(k + 1, E), by show k + 1 ≤ b + 1; omega, by show a + 1 ≤ k + 1; omega, hE, ?_⟩, by show b + 1 - (k + 1) < b + 1 - k; omega, ?_⟩
          · rw [← hO]
            show insOuter lt a b (k + 1) E = _
            rw [insOuter.eq_1 lt a b k D, if_pos hkb, hI]
          · refine Imp.id (by simp) ?_ ?_
            · simp only [go_sem, Nat.reduceLT, hFl, w64 (n := (k : Int) + 1) (by omega), Int.natCast_add, Int.natCast_one]
              exact hi
            · exact impH.base0 (hokE hok hRw) (by simp) HExt.rfl
        obtain ⟨j, rfl⟩ : ∃ j', j = j' + 1 := ⟨j - 1, by omega⟩
        have e1 : ((a : Int) < ((j + 1 : Nat) : Int)) = True := eq_true (by omega)
        have r1 : (0 : Int) ≤ (j : Int) + 1 ∧ (j : Int) + 1 < d.size := ⟨by omega, by omega⟩
        have r2 : (0 : Int) ≤ (j : Int) ∧ (j : Int) < d.size := ⟨by omega, by omega⟩
        have e2 : ((j : Int) + 1).toNat = j + 1 := by omega
        have b1 : j + 1 ≤ d.size - 1 := by omega
        have b2 : j + 2 ≤ d.size := by omega
        have b3 : j ≤ d.size - 1 := by omega
        have b4 : j + 1 ≤ d.size := by omega
        have b5 : 1 ≤ d.size := by omega
        have b6 : (1 = d.size) = False := eq_false (by omega)
        have e1' : ((a : Int) < (j : Int) + 1) = True := eq_true (by omega)
        refine T_draw hti _ _ (by kernel_rfl) (by kernel_rfl) ?_
        simp only [go_sem, Nat.reduceLT, hgi, hi, e1, e1', r1, r2, e2, b1, b2, b3, b4, b5, elC_at, Int.natCast_add, Int.natCast_one, Int.add_sub_cancel, w64 (n := (j : Int)) (by omega)]
        refine (hcmp (E.toList.getD (j + 1) 0) (E.toList.getD j 0) _ _ _ _ (Nat.le_refl n) (HBut.set i n h _)).A ?_
        have hl := hlt (E.toList.getD (j + 1) 0) (E.toList.getD j 0)
        by_cases hc : cI (E.toList.getD (j + 1) 0) (E.toList.getD j 0) < 0
        rotate_left
        · have e3 : insInner lt a (j + 1) E = E := by
            unfold insInner
            rw [ybang_getD, ybang_getD, ← hl, decide_eq_false hc, Bool.and_false]
            rfl
          rw [e3] at hI
          simp only [go_sem, Nat.reduceLT, hc]
          refine ⟨⟨(k + 1, E), by show k + 1 ≤ b + 1; omega, by show a + 1 ≤ k + 1; omega, hE, ?_⟩, by show b + 1 - (k + 1) < b + 1 - k; omega, ?_⟩
          · rw [← hO]
            show insOuter lt a b (k + 1) E = _
            rw [insOuter.eq_1 lt a b k D, if_pos hkb, hI]
          · refine Imp.id (by simp) ?_ ?_
            · simp only [go_sem, Nat.reduceLT, hFl, w64 (n := (k : Int) + 1) (by omega), Int.natCast_add, Int.natCast_one]
              exact hi
            · exact impH.base0 (hokE hok hRw) (by simp) HExt.rfl
        · have e3 : insInner lt a (j + 1) E = insInner lt a j (swp E (j + 1) j) := by
            show (if decide (j + 1 > a) && lt E[j + 1]! E[j]! then insInner lt a j (swp E (j + 1) j) else E) = _
            rw [ybang_getD, ybang_getD, ← hl, decide_eq_true hc]
            simp only [gt_iff_lt, hja, decide_true, Bool.and_true, if_true]
          rw [e3] at hI
          simp only [go_sem, Nat.reduceLT, hc]
          refine T_drawG hti 18 [15, 17] (.b 0 0 (.b 0 1 (.b 0 2 (.b 0 3 (.b 0 4 (.b 0 5 (.b 0 6 (.b 0 7 (.b 0 8 (.b 0 9 (.b 0 10 (.b 0 11 (.b 0 12 (.b 0 13 (.b 0 14 (.b 4 15 (.b 0 16 (.b 4 17 (.f) .o) .o) .o) .o) .o) .o) .o) .o) .o) .o) .o) .o) .o) .o) .o) .o) .o) .o) _ _ (by kernel_rfl) (by kernel_rfl) ?_
          simp only [go_sem, Nat.reduceLT, reduceCtorEq, hgi, hi, r1, r2, e2, b1, b2, b3, b4, b5, b6, and_false, if_false, elC_at, Int.add_sub_cancel, w64 (n := (j : Int)) (by omega)]
          rw [yswap_fn E (a := j + 1) (b := j) (by omega) (by omega)]
          refine ⟨⟨(j, swp E (j + 1) j), by show j ≤ k; omega, by show a ≤ j; omega, (yswp_size _ _ _).trans hE, hI⟩, by show j < j + 1; omega, ?_⟩
          refine Imp.id (by simp) ?_ ?_
          · simp only [go_sem, Nat.reduceLT, hFl]
            exact hi
          · exact impH.base0 (hokE hok hRw) (by simp) HExt.rfl
    · have hkb : ¬ k < b := by omega
      have e : D = insertionSort lt d a b := by rw [← hO]; unfold insOuter; rw [if_neg hkb]
      rw [e]
      exact HExt.rfl
end
end Go.Proofs.YtfelopllfhcdpaaGreat.V

/- (lists of spots) The library's heap sort over spots. -/
namespace Go.Proofs.YtfelopllfhcdpaaGreat.V
open Go.Sort (swp siftDown heapBuild heapPop heapSort)
theorem ybangL {D : Array Nat} {j : Nat} : D[j]! = D.toList.getD j 0 := ybang_getD D j
def ypickC (lt : Nat → Nat → Bool) (hi first root : Nat) (d : Array Nat) : Nat := if 2 * root + 2 < hi ∧ lt d[first + (2 * root + 1)]! d[first + (2 * root + 2)]! = true then 2 * root + 2 else 2 * root + 1
theorem ysiftDown_end {lt : Nat → Nat → Bool} {hi first root : Nat} {d : Array Nat} (h : hi ≤ 2 * root + 1) : siftDown lt hi first root d = d := by
  rw [siftDown, dif_pos h]
theorem ysiftDown_eq {lt : Nat → Nat → Bool} {hi first root : Nat} {d : Array Nat} (h : 2 * root + 1 < hi) :
    siftDown lt hi first root d = if lt d[first + root]! d[first + ypickC lt hi first root d]! = true then siftDown lt hi first (ypickC lt hi first root d) (swp d (first + root) (first + ypickC lt hi first root d)) else d := by
  rw [siftDown, dif_neg (by omega)]
  unfold ypickC
  have e : first + (2 * root + 1) + 1 = first + (2 * root + 2) := by omega
  rw [e]
  by_cases h2 : 2 * root + 2 < hi ∧ lt d[first + (2 * root + 1)]! d[first + (2 * root + 2)]! = true
  · rw [if_pos (by rw [h2.2]; simp; omega), if_pos h2]
    cases hl : lt d[first + root]! d[first + (2 * root + 2)]!
    · simp
    · simp [h2.1]
  · rw [if_neg (by
      rw [Bool.and_eq_true, decide_eq_true_eq]
      rintro ⟨a, b⟩
      exact h2 ⟨by omega, b⟩), if_neg h2]
    cases hl : lt d[first + root]! d[first + (2 * root + 1)]! <;> simp
theorem ysiftDown_size (lt : Nat → Nat → Bool) (hi first : Nat) : ∀ (m root : Nat) (d : Array Nat), hi - root ≤ m → (siftDown lt hi first root d).size = d.size := by
  intro m
  induction m with
  | zero => intro root d h; rw [ysiftDown_end (by omega)]
  | succ m ih =>
    intro root d h
    by_cases h1 : hi ≤ 2 * root + 1
    · rw [ysiftDown_end h1]
    · rw [ysiftDown_eq (by omega)]
      split
      · rw [ih _ _ (by unfold ypickC; split <;> omega), yswp_size]
      · rfl
section
variable (cx : Cx) (h : List (Nat × Seg)) (n : Nat)
set_option maxRecDepth 100000 in
set_option maxHeartbeats 1600000 in
theorem ysiftDown_E (i cap : Nat) (d : Array Nat) (own : Option (Nat × Nat)) (ee : El) (hRw : ∀ k, ee.r k < n) (lo hi first : Nat) (f p q : Nat) (G F : Nat → SV) (cI : Nat → Nat → Int) (lt : Nat → Nat → Bool) (hlt : ∀ x y, decide (cI x y < 0) = lt x y)
    (hs : hget h i = some ⟨d.size, elC ee d.toList, true, own⟩) (hi0 : i < n) (hb : first + hi ≤ d.size) (h2 : 2 ≤ d.size) (hlo : lo ≤ d.size) (hm9 : d.size ≤ 1000000000) (hF : (SV.fn f p G q F).lt n) (hcmp : yCmps cx h n i ee f p q G F cI) (K : HK)
    (hK : K (.tup 0 (cl [])) (hset h i ⟨d.size, elC ee (siftDown lt hi first lo d).toList, true, own⟩) n) :
    CallE Tryz.prog cx 128 [.sl i 0 d.size cap, .int .i64 lo, .int .i64 hi, .int .i64 first, .fn f p G q F] h n K := by
  refine CallE.to _ _ (by simp only [go_sem]) (fun hok => hokE hok hRw) hK ?_
  have hgi : ∀ t, hget (hset h i t) i = some t := hget_hset_self hs
  have hFl : (SV.fn f p G q F).lt n = True := eq_true hF
  refine callE_of_T (P := Tryz.prog) hti (nt := 82) (rs := []) rfl rfl Tryz.call128 Tryz.func128 rfl _ (by simp only [go_sem, and_self]) (Nat.le_of_ble_eq_true rfl) _ fun hok => ?_
  simp only [go_sem, Nat.reduceLT]
  refine T_lp (ι := { p : Nat × Array Nat // p.1 ≤ d.size + 1 ∧ p.2.size = d.size ∧ siftDown lt hi first p.1 p.2 = siftDown lt hi first lo d })
    (fun w => ([(0, .sl i 0 d.size cap), (2, .int .i64 hi), (3, .int .i64 first), (4, .fn f p G q F), (10, .int .i64 w.1.1)], hset h i ⟨d.size, elC ee w.1.2.toList, true, own⟩, n)) (fun w => hi - w.1.1) ⟨(lo, d), by show lo ≤ d.size + 1; omega, rfl, rfl⟩ ?_ ?_
  · refine Imp.id (by simp) ?_ ?_
    · simp only [go_sem, Nat.reduceLT, hFl]
      exact hi0
    · rw [hset_self hs]; exact impH.base0 hok (by simp) HExt.rfl
  · rintro ⟨⟨r, D⟩, hr, hD, hO⟩
    simp only at hr hD hO
    simp only [go_sem, Nat.reduceLT, w64N (a := 2 * (r : Int)) (k := 2 * r) (by omega) (by omega), w64N (a := ((2 * r : Nat) : Int) + 1) (k := 2 * r + 1) (by omega) (by omega)]
    by_cases h1 : hi ≤ 2 * r + 1
    · rw [ysiftDown_end h1] at hO
      have e1 : ((hi : Int) ≤ ((2 * r + 1 : Nat) : Int)) = True := eq_true (by omega)
      simp only [go_sem, reduceCtorEq, e1]
      rw [hO]
      exact HExt.rfl
    have e1 : ((hi : Int) ≤ ((2 * r + 1 : Nat) : Int)) = False := eq_false (by omega)
    rw [ysiftDown_eq (by omega)] at hO
    simp only [go_sem, e1]
    have c0 : first + r < d.size := by omega
    have c1 : first + (2 * r + 1) < d.size := by omega
    have cA : 2 * r + 2 < hi → first + (2 * r + 2) < d.size := by omega
    have W0 := w64N (a := (first : Int) + (r : Int)) (k := first + r) (by omega) (by omega)
    have W1 := w64N (a := (first : Int) + ((2 * r + 1 : Nat) : Int)) (k := first + (2 * r + 1)) (by omega) (by omega)
    have W2 := w64N (a := ((2 * r + 1 : Nat) : Int) + 1) (k := 2 * r + 2) (by omega) (by omega)
    have W3 := w64N (a := ((first + (2 * r + 1) : Nat) : Int) + 1) (k := first + (2 * r + 2)) (by omega) (by omega)
    have W4 := w64N (a := (first : Int) + ((2 * r + 2 : Nat) : Int)) (k := first + (2 * r + 2)) (by omega) (by omega)
    have b6 : (1 = d.size) = False := eq_false (by omega)
    by_cases hA : 2 * r + 2 < hi
    · have e2 : (((2 * r + 2 : Nat) : Int) < (hi : Int)) = True := eq_true (by omega)
      refine T_draw hti _ _ (by kernel_rfl) (by kernel_rfl) ?_
      simp only [go_sem, Nat.reduceLT, hgi, hi0, e2, W1, W2, W3, ix_r c1, yix_b c1, yix_c c1, ix_r (cA hA), yix_b (cA hA), yix_c (cA hA), elC_at]
      refine (hcmp (D.toList.getD (first + (2 * r + 1)) 0) (D.toList.getD (first + (2 * r + 2)) 0) _ _ _ _ (Nat.le_refl n) (HBut.set i n h _)).A ?_
      have hl := hlt (D.toList.getD (first + (2 * r + 1)) 0) (D.toList.getD (first + (2 * r + 2)) 0)
      by_cases hc : cI (D.toList.getD (first + (2 * r + 1)) 0) (D.toList.getD (first + (2 * r + 2)) 0) < 0
      · simp only [go_sem, Nat.reduceLT, hc, W2]
        have hp : ypickC lt hi first r D = 2 * r + 2 := if_pos ⟨hA, by rw [ybangL, ybangL, ← hl, decide_eq_true hc]⟩
        rw [hp] at hO
        refine T_draw hti _ _ (by kernel_rfl) (by kernel_rfl) ?_
        simp only [go_sem, Nat.reduceLT, hgi, hi0, W0, W1, W4, ix_r c0, ix_r c1, yix_b c0, yix_b c1, yix_c c0, yix_c c1, ix_r (cA hA), yix_b (cA hA), yix_c (cA hA), elC_at]
        refine (hcmp (D.toList.getD (first + r) 0) (D.toList.getD (first + (2 * r + 2)) 0) _ _ _ _ (Nat.le_refl n) (HBut.set i n h _)).A ?_
        have hl2 := hlt (D.toList.getD (first + r) 0) (D.toList.getD (first + (2 * r + 2)) 0)
        rw [ybangL, ybangL, ← hl2] at hO
        by_cases hc2 : cI (D.toList.getD (first + r) 0) (D.toList.getD (first + (2 * r + 2)) 0) < 0
        rotate_left
        · rw [decide_eq_false hc2, if_neg (by simp)] at hO
          simp only [go_sem, Nat.reduceLT, hc2]
          rw [hO]
          exact HExt.rfl
        · rw [decide_eq_true hc2, if_pos rfl] at hO
          simp only [go_sem, Nat.reduceLT, hc2]
          refine T_drawG hti 24 [21, 23] (.b 0 0 (.b 0 1 (.b 0 2 (.b 0 3 (.b 0 4 (.b 0 5 (.b 0 6 (.b 0 7 (.b 0 8 (.b 0 9 (.b 0 10 (.b 0 11 (.b 0 12 (.b 0 13 (.b 0 14 (.b 0 15 (.b 0 16 (.b 0 17 (.b 0 18 (.b 0 19 (.b 0 20 (.b 4 21 (.b 0 22 (.b 4 23 (.f) .o) .o) .o) .o) .o) .o) .o) .o) .o) .o) .o) .o) .o) .o) .o) .o) .o) .o) .o) .o) .o) .o) .o) .o) _ _ (by kernel_rfl) (by kernel_rfl) ?_
          simp only [go_sem, Nat.reduceLT, reduceCtorEq, hgi, hi0, W0, W1, W4, ix_r c0, ix_r c1, yix_b c0, yix_b c1, yix_c c0, yix_c c1, ix_r (cA hA), yix_b (cA hA), yix_c (cA hA), elC_at, b6, and_false, if_false]
          rw [yswap_fn D (a := first + r) (b := first + (2 * r + 2)) (by omega) (by omega)]
          refine ⟨⟨(2 * r + 2, swp D (first + r) (first + (2 * r + 2))), by show 2 * r + 2 ≤ d.size + 1; omega, (yswp_size _ _ _).trans hD, hO⟩, by show hi - (2 * r + 2) < hi - r; omega, ?_⟩
          refine Imp.id (by simp) ?_ ?_
          · simp only [go_sem, Nat.reduceLT, hFl]
            exact hi0
          · exact impH.base0 (hokE hok hRw) (by simp) HExt.rfl
      · simp only [go_sem, Nat.reduceLT, hc]
        have hp : ypickC lt hi first r D = 2 * r + 1 := if_neg fun hh => by rw [ybangL, ybangL, ← hl, decide_eq_false hc] at hh; exact absurd hh.2 (by simp)
        rw [hp] at hO
        refine T_draw hti _ _ (by kernel_rfl) (by kernel_rfl) ?_
        simp only [go_sem, Nat.reduceLT, hgi, hi0, W0, W1, W4, ix_r c0, ix_r c1, yix_b c0, yix_b c1, yix_c c0, yix_c c1, elC_at]
        refine (hcmp (D.toList.getD (first + r) 0) (D.toList.getD (first + (2 * r + 1)) 0) _ _ _ _ (Nat.le_refl n) (HBut.set i n h _)).A ?_
        have hl2 := hlt (D.toList.getD (first + r) 0) (D.toList.getD (first + (2 * r + 1)) 0)
        rw [ybangL, ybangL, ← hl2] at hO
        by_cases hc2 : cI (D.toList.getD (first + r) 0) (D.toList.getD (first + (2 * r + 1)) 0) < 0
        rotate_left
        · rw [decide_eq_false hc2, if_neg (by simp)] at hO
          simp only [go_sem, Nat.reduceLT, hc2]
          rw [hO]
          exact HExt.rfl
        · rw [decide_eq_true hc2, if_pos rfl] at hO
          simp only [go_sem, Nat.reduceLT, hc2]
          refine T_drawG hti 24 [21, 23] (.b 0 0 (.b 0 1 (.b 0 2 (.b 0 3 (.b 0 4 (.b 0 5 (.b 0 6 (.b 0 7 (.b 0 8 (.b 0 9 (.b 0 10 (.b 0 11 (.b 0 12 (.b 0 13 (.b 0 14 (.b 0 15 (.b 0 16 (.b 0 17 (.b 0 18 (.b 0 19 (.b 0 20 (.b 4 21 (.b 0 22 (.b 4 23 (.f) .o) .o) .o) .o) .o) .o) .o) .o) .o) .o) .o) .o) .o) .o) .o) .o) .o) .o) .o) .o) .o) .o) .o) .o) _ _ (by kernel_rfl) (by kernel_rfl) ?_
          simp only [go_sem, Nat.reduceLT, reduceCtorEq, hgi, hi0, W0, W1, W4, ix_r c0, ix_r c1, yix_b c0, yix_b c1, yix_c c0, yix_c c1, elC_at, b6, and_false, if_false]
          rw [yswap_fn D (a := first + r) (b := first + (2 * r + 1)) (by omega) (by omega)]
          refine ⟨⟨(2 * r + 1, swp D (first + r) (first + (2 * r + 1))), by show 2 * r + 1 ≤ d.size + 1; omega, (yswp_size _ _ _).trans hD, hO⟩, by show hi - (2 * r + 1) < hi - r; omega, ?_⟩
          refine Imp.id (by simp) ?_ ?_
          · simp only [go_sem, Nat.reduceLT, hFl]
            exact hi0
          · exact impH.base0 (hokE hok hRw) (by simp) HExt.rfl
    · have e2 : (((2 * r + 2 : Nat) : Int) < (hi : Int)) = False := eq_false (by omega)
      refine T_draw hti _ _ (by kernel_rfl) (by kernel_rfl) ?_
      simp only [go_sem, Nat.reduceLT, e2, W2]
      have hp : ypickC lt hi first r D = 2 * r + 1 := if_neg fun hh => hA hh.1
      rw [hp] at hO
      refine T_draw hti _ _ (by kernel_rfl) (by kernel_rfl) ?_
      simp only [go_sem, Nat.reduceLT, hgi, hi0, W0, W1, W4, ix_r c0, ix_r c1, yix_b c0, yix_b c1, yix_c c0, yix_c c1, elC_at]
      refine (hcmp (D.toList.getD (first + r) 0) (D.toList.getD (first + (2 * r + 1)) 0) _ _ _ _ (Nat.le_refl n) (HBut.set i n h _)).A ?_
      have hl2 := hlt (D.toList.getD (first + r) 0) (D.toList.getD (first + (2 * r + 1)) 0)
      rw [ybangL, ybangL, ← hl2] at hO
      by_cases hc2 : cI (D.toList.getD (first + r) 0) (D.toList.getD (first + (2 * r + 1)) 0) < 0
      rotate_left
      · rw [decide_eq_false hc2, if_neg (by simp)] at hO
        simp only [go_sem, Nat.reduceLT, hc2]
        rw [hO]
        exact HExt.rfl
      · rw [decide_eq_true hc2, if_pos rfl] at hO
        simp only [go_sem, Nat.reduceLT, hc2]
        refine T_drawG hti 24 [21, 23] (.b 0 0 (.b 0 1 (.b 0 2 (.b 0 3 (.b 0 4 (.b 0 5 (.b 0 6 (.b 0 7 (.b 0 8 (.b 0 9 (.b 0 10 (.b 0 11 (.b 0 12 (.b 0 13 (.b 0 14 (.b 0 15 (.b 0 16 (.b 0 17 (.b 0 18 (.b 0 19 (.b 0 20 (.b 4 21 (.b 0 22 (.b 4 23 (.f) .o) .o) .o) .o) .o) .o) .o) .o) .o) .o) .o) .o) .o) .o) .o) .o) .o) .o) .o) .o) .o) .o) .o) .o) _ _ (by kernel_rfl) (by kernel_rfl) ?_
        simp only [go_sem, Nat.reduceLT, reduceCtorEq, hgi, hi0, W0, W1, W4, ix_r c0, ix_r c1, yix_b c0, yix_b c1, yix_c c0, yix_c c1, elC_at, b6, and_false, if_false]
        rw [yswap_fn D (a := first + r) (b := first + (2 * r + 1)) (by omega) (by omega)]
        refine ⟨⟨(2 * r + 1, swp D (first + r) (first + (2 * r + 1))), by show 2 * r + 1 ≤ d.size + 1; omega, (yswp_size _ _ _).trans hD, hO⟩, by show hi - (2 * r + 1) < hi - r; omega, ?_⟩
        refine Imp.id (by simp) ?_ ?_
        · simp only [go_sem, Nat.reduceLT, hFl]
          exact hi0
        · exact impH.base0 (hokE hok hRw) (by simp) HExt.rfl
end
end Go.Proofs.YtfelopllfhcdpaaGreat.V

/- (lists of spots) The library's heap sort over spots. -/
namespace Go.Proofs.YtfelopllfhcdpaaGreat.V
open Go.Sort (swp siftDown heapBuild heapPop heapSort)
section
variable (cx : Cx) (h : List (Nat × Seg)) (n : Nat)
theorem ysiftDown_M (i cap : Nat) (d : Array Nat) (m : Nat) (hm : d.size = m) (own : Option (Nat × Nat)) (ee : El) (hRw : ∀ k, ee.r k < n) (lo hi first : Nat) (f p q : Nat) (G F : Nat → SV) (cI : Nat → Nat → Int) (lt : Nat → Nat → Bool) (hlt : ∀ x y, decide (cI x y < 0) = lt x y)
    (hs : hget h i = some ⟨m, elC ee d.toList, true, own⟩) (hi0 : i < n) (hb : first + hi ≤ m) (h2 : 2 ≤ m) (hlo : lo ≤ m) (hm9 : m ≤ 1000000000) (hF : (SV.fn f p G q F).lt n) (hcmp : yCmps cx h n i ee f p q G F cI) (K : HK)
    (hK : K (.tup 0 (cl [])) (hset h i ⟨m, elC ee (siftDown lt hi first lo d).toList, true, own⟩) n) :
    CallE Tryz.prog cx 128 [.sl i 0 m cap, .int .i64 lo, .int .i64 hi, .int .i64 first, .fn f p G q F] h n K := by
  subst hm
  exact ysiftDown_E cx h n i cap d own ee hRw lo hi first f p q G F cI lt hlt hs hi0 hb h2 hlo hm9 hF hcmp K hK
set_option maxRecDepth 100000 in
set_option maxHeartbeats 1600000 in
theorem yheapSort_E (i cap : Nat) (d : Array Nat) (own : Option (Nat × Nat)) (ee : El) (hRw : ∀ k, ee.r k < n) (a b : Nat) (f p q : Nat) (G F : Nat → SV) (cI : Nat → Nat → Int) (lt : Nat → Nat → Bool) (hlt : ∀ x y, decide (cI x y < 0) = lt x y)
    (hs : hget h i = some ⟨d.size, elC ee d.toList, true, own⟩) (hi0 : i < n) (hb : b ≤ d.size) (hab : a + 2 ≤ b) (hm9 : d.size ≤ 1000000000) (hF : (SV.fn f p G q F).lt n) (hcmp : yCmps cx h n i ee f p q G F cI) (K : HK)
    (hK : K (.tup 0 (cl [])) (hset h i ⟨d.size, elC ee (heapSort lt d a b).toList, true, own⟩) n) :
    CallE Tryz.prog cx 110 [.sl i 0 d.size cap, .int .i64 a, .int .i64 b, .fn f p G q F] h n K := by
  refine CallE.to _ _ (by simp only [go_sem]) (fun hok => hokE hok hRw) hK ?_
  have hgi : ∀ t, hget (hset h i t) i = some t := hget_hset_self hs
  have hFl : (SV.fn f p G q F).lt n = True := eq_true hF
  refine callE_of_T (P := Tryz.prog) hti (nt := 60) (rs := []) rfl rfl Tryz.call110 Tryz.func110 rfl _ (by simp only [go_sem, and_self]) (Nat.le_of_ble_eq_true rfl) _ fun hok => ?_
  have W0 := w64N (a := (b : Int) - a) (k := b - a) (by omega) (by omega)
  have W1 := w64N (a := ((b - a : Nat) : Int) - 1) (k := b - a - 1) (by omega) (by omega)
  have W2 : IntKind.i64.wrap (((b - a - 1 : Nat) : Int).tdiv 2) = (((b - a - 1) / 2 + 1 : Nat) : Int) - 1 := by rw [Int.tdiv_eq_ediv_of_nonneg (by omega)]; rw [w64 (by omega)]; omega
  simp only [go_sem, Nat.reduceLT, Int.reduceEq, W0, W1, W2]
  refine T_lp (ι := { p : Nat × Array Nat // p.1 ≤ b - a ∧ p.2.size = d.size ∧ heapBuild lt (b - a) a p.1 p.2 = heapBuild lt (b - a) a ((b - a - 1) / 2 + 1) d })
    (fun w => ([(0, .sl i 0 d.size cap), (3, .fn f p G q F), (8, .int .i64 a), (9, .int .i64 0), (10, .int .i64 ((b - a : Nat) : Int)), (11, .int .i64 ((w.1.1 : Int) - 1))], hset h i ⟨d.size, elC ee w.1.2.toList, true, own⟩, n)) (fun w => w.1.1) ⟨((b - a - 1) / 2 + 1, d), by show (b - a - 1) / 2 + 1 ≤ b - a; omega, rfl, rfl⟩ ?_ ?_
  · refine Imp.id (by simp) ?_ ?_
    · simp only [go_sem, Nat.reduceLT, hFl]
      exact hi0
    · rw [hset_self hs]; exact impH.base0 hok (by simp) HExt.rfl
  · rintro ⟨⟨k, D⟩, hk, hD, hO⟩
    simp only at hk hD hO
    cases k with
    | succ k =>
      have e1 : ((0 : Int) ≤ ((k + 1 : Nat) : Int) - 1) = True := eq_true (by omega)
      have e2 : ((k + 1 : Nat) : Int) - 1 = (k : Int) := by omega
      rw [heapBuild] at hO
      simp only [go_sem, Nat.reduceLT, e1, e2, show ((0 : Int) ≤ (k : Int)) = True from eq_true (by omega)]
      refine callA_false (ysiftDown_M _ _ _ i cap D d.size hD own ee hRw k (b - a) a f p q G F cI lt hlt (hgi _) hi0 (by omega) (by omega) (by omega) hm9 hF ((hcmp.set _).nt _ _) _ ?_)
      simp only [go_sem, Nat.reduceLT, hset_hset]
      refine ⟨⟨(k, siftDown lt (b - a) a k D), by show k ≤ b - a; omega, (ysiftDown_size _ _ _ _ _ _ (Nat.le_refl _)).trans hD, hO⟩, by show k < k + 1; omega, ?_⟩
      refine Imp.id (by simp) ?_ ?_
      · simp only [go_sem, Nat.reduceLT, hFl, w64 (n := (k : Int) - 1) (by omega)]
        exact hi0
      · exact impH.base0 (hokE hok hRw) (by simp) HExt.rfl
    | zero =>
      rw [heapBuild] at hO
      simp only [go_sem, Nat.reduceLT, Int.reduceLE, Int.reduceNeg, Int.reduceSub, show ((0 : Int) ≤ ((0 : Nat) : Int) - 1) = False from eq_false (by omega), W1]
      refine T_lp (ι := { p : Nat × Array Nat // p.1 ≤ b - a ∧ p.2.size = d.size ∧ heapPop lt a p.1 p.2 = heapSort lt d a b })
        (fun w => ([(0, .sl i 0 d.size cap), (3, .fn f p G q F), (8, .int .i64 a), (9, .int .i64 0), (12, .int .i64 ((w.1.1 : Int) - 1))], hset h i ⟨d.size, elC ee w.1.2.toList, true, own⟩, n)) (fun w => w.1.1) ⟨(b - a, D), Nat.le_refl _, hD, by rw [hO]; rfl⟩ ?_ ?_
      · refine Imp.id (by simp) ?_ ?_
        · simp only [go_sem, Nat.reduceLT, Int.reduceNeg, hFl, show ((b - a - 1 : Nat) : Int) = ((b - a : Nat) : Int) - 1 by omega]
          exact hi0
        · exact impH.base0 (hokE hok hRw) (by simp) HExt.rfl
      · rintro ⟨⟨k, E⟩, hk, hE, hP⟩
        simp only at hk hE hP
        cases k with
        | succ k =>
          have e2 : ((k + 1 : Nat) : Int) - 1 = (k : Int) := by omega
          have W3 := w64N (a := (a : Int) + (k : Int)) (k := a + k) (by omega) (by omega)
          have c0 : a < d.size := by omega
          have c1 : a + k < d.size := by omega
          have b6 : (1 = d.size) = False := eq_false (by omega)
          rw [heapPop] at hP
          simp only [go_sem, Nat.reduceLT, e2, show ((0 : Int) ≤ (k : Int)) = True from eq_true (by omega)]
          refine T_drawG hti 20 [17, 19] (.b 0 0 (.b 0 1 (.b 0 2 (.b 0 3 (.b 0 4 (.b 0 5 (.b 0 6 (.b 0 7 (.b 0 8 (.b 0 9 (.b 0 10 (.b 0 11 (.b 0 12 (.b 0 13 (.b 0 14 (.b 0 15 (.b 0 16 (.b 4 17 (.b 0 18 (.b 4 19 (.f) .o) .o) .o) .o) .o) .o) .o) .o) .o) .o) .o) .o) .o) .o) .o) .o) .o) .o) .o) .o) _ _ (by kernel_rfl) (by kernel_rfl) ?_
          simp only [go_sem, Nat.reduceLT, hgi, hi0, W3, ix_r c0, ix_r c1, yix_b c0, yix_b c1, yix_c c0, yix_c c1, elC_at, b6, and_false, if_false]
          rw [yswap_fn E (a := a) (b := a + k) (by omega) (by omega)]
          have hsw : (swp E a (a + k)).size = d.size := (yswp_size _ _ _).trans hE
          refine callA_false (ysiftDown_M _ _ _ i cap (swp E a (a + k)) d.size hsw own ee hRw 0 k a f p q G F cI lt hlt (hgi _) hi0 (by omega) (by omega) (by omega) hm9 hF ((hcmp.set _).nt _ _) _ ?_)
          simp only [go_sem, Nat.reduceLT, hset_hset]
          refine ⟨⟨(k, siftDown lt k a 0 (swp E a (a + k))), by show k ≤ b - a; omega, (ysiftDown_size _ _ _ _ _ _ (Nat.le_refl _)).trans hsw, hP⟩, by show k < k + 1; omega, ?_⟩
          refine Imp.id (by simp) ?_ ?_
          · simp only [go_sem, Nat.reduceLT, hFl, w64 (n := (k : Int) - 1) (by omega)]
            exact hi0
          · exact impH.base0 (hokE hok hRw) (by simp) HExt.rfl
        | zero =>
          rw [heapPop] at hP
          simp only [go_sem, Nat.reduceLT, Int.reduceLE, Int.reduceNeg, Int.reduceSub, show ((0 : Int) ≤ ((0 : Nat) : Int) - 1) = False from eq_false (by omega)]
          rw [hP]
          exact HExt.rfl
end
end Go.Proofs.YtfelopllfhcdpaaGreat.V

/- The law's lists of spots: copied, compared, marked. -/
namespace Go.Proofs.YtfelopllfhcdpaaGreat.V

/-- An argument that is a list of spots. -/
def SpsArg (h : List (Nat × Seg)) (n : Nat) (A : SV) (L : List (Int × Int)) : Prop :=
  (A = .nils ∧ L = []) ∨ ∃ i cap s, A = .sl i 0 L.length cap ∧ i < n ∧ hget h i = some s ∧ SpsAt s L
theorem SpsArg.ext {h h' : List (Nat × Seg)} {n n' : Nat} {A : SV} {L : List (Int × Int)} (hA : SpsArg h n A L) (hn : n ≤ n') (hx : HExt n h h') : SpsArg h' n' A L := by
  rcases hA with h1 | ⟨i, cap, s, h1, hi, hs, hL⟩
  · exact .inl h1
  · exact .inr ⟨i, cap, s, h1, by omega, hx i hi s hs, hL⟩
theorem SpsArg.ok {h : List (Nat × Seg)} {n : Nat} {A : SV} {L : List (Int × Int)} (hA : SpsArg h n A L) : A.ok = True := by
  rcases hA with ⟨rfl, rfl⟩ | ⟨i, cap, s, rfl, hi, hs, hL⟩ <;> rfl
theorem SpsArg.lt {h : List (Nat × Seg)} {n : Nat} {A : SV} {L : List (Int × Int)} (hA : SpsArg h n A L) : A.lt n := by
  rcases hA with ⟨rfl, rfl⟩ | ⟨i, cap, s, rfl, hi, hs, hL⟩
  · trivial
  · exact hi
theorem SpsArg.ren {h : List (Nat × Seg)} {n : Nat} {A : SV} {L : List (Int × Int)} (hA : SpsArg h n A L) {σ : Nat → Nat} (hσ : ∀ i, i < n → σ i = i) : V.ren σ A = A := by
  rcases hA with ⟨rfl, rfl⟩ | ⟨i, cap, s, rfl, hi, hs, hL⟩
  · rfl
  · simp only [ren_sl, hσ i hi]
/-- A list of spots, as it was made. -/
def spsS (L : List (Int × Int)) : Seg := ⟨L.length * 2, spotsC L, true, some (58, L.length * 2)⟩
@[go_sem] theorem spsS_eq (L : List (Int × Int)) : spsS L = ⟨L.length * 2, spotsC L, true, some (58, L.length * 2)⟩ := rfl
theorem zSpot (q : Nat) (L : List (Int × Int)) (z : Nat) : zrow (ti 58) z = if z < 0 * 2 then spotsC L z else SV.int .i8 0 := by
  rw [if_neg (by omega)]
  simp only [go_sem, zrow_mk]
  rcases (by omega : z % 2 = 0 ∨ z % 2 = 1) with e | e <;> rw [e] <;> rfl
theorem spsAt_spsS (L : List (Int × Int)) : SpsAt (spsS L) L := ⟨Nat.le_refl _, fun _ _ => rfl⟩
section
variable (cx : Cx) (h : List (Nat × Seg)) (n : Nat)
theorem szSpotS_Q (A : SV) (L : List (Int × Int)) (hA : SpsArg h n A L) (left : Int) (hl : -9223372036854775808 ≤ left - L.length) (hl2 : left - L.length < 9223372036854775808) :
    CallQ Tryz.prog cx 6 [A, .int .i64 left] h n (.int .i64 (if left - L.length < 0 then -1 else left - L.length)) := by
  rcases hA with ⟨rfl, rfl⟩ | ⟨i, cap, s, rfl, hi, hs, hL⟩
  · refine callQ_of_T (P := Tryz.prog) hti (nt := 12) (rs := [.tmp 4]) rfl rfl Tryz.call6 Tryz.func6 rfl _ (by simp only [go_sem, and_self]) (Nat.le_of_ble_eq_true rfl) _ (by first | exact trivial | (refine lt_flat rfl ?_; simp [SV.flat]; done) | simp only [go_sem]) fun hok => ?_
    simp only [List.length_nil] at hl hl2
    by_cases hn : left < 0
    · simp only [go_sem, Nat.reduceLT, reduceIte, Int.reduceNeg, w64 (n := left) (by omega), hn, Int.sub_zero, Int.natCast_zero]
    · simp only [go_sem, Nat.reduceLT, reduceIte, Int.reduceNeg, w64 (n := left) (by omega), hn, Int.sub_zero, Int.natCast_zero]
  · refine callQ_of_T (P := Tryz.prog) hti (nt := 12) (rs := [.tmp 4]) rfl rfl Tryz.call6 Tryz.func6 rfl _ (by simp only [go_sem, and_self]) (Nat.le_of_ble_eq_true rfl) _ (by first | exact trivial | (refine lt_flat rfl ?_; simp [SV.flat]; done) | simp only [go_sem]) fun hok => ?_
    by_cases hn : left - L.length < 0
    · simp only [go_sem, Nat.reduceLT, reduceIte, Int.reduceNeg, w64 (n := left - L.length) ⟨hl, hl2⟩, hn]
    · simp only [go_sem, Nat.reduceLT, reduceIte, Int.reduceNeg, w64 (n := left - L.length) ⟨hl, hl2⟩, hn]
theorem toSpotS_E (A : SV) (L : List (Int × Int)) (hA : SpsArg h n A L) (hm9 : L.length ≤ 1000000000) (K : HK) (hK : K (.sl n 0 L.length L.length) ((n, spsS L) :: h) (n + 1)) :
    CallE Tryz.prog cx 9 [A] h n K := by
  have fl : ∀ q z, (if z < q * 2 then spotsC L z else SV.int .i8 0).flat := fun q z => by split; exact spotsC_flat _ _; trivial
  refine CallE.imp0 (K := fun r h1 n1 => r = .sl n 0 L.length L.length ∧ n + 1 ≤ n1 ∧ HExt n h h1 ∧ ∃ s, hget h1 n = some s ∧ s.n = L.length * 2 ∧ s.rw = true ∧ s.own = (spsS L).own ∧ ∀ z, z < L.length * 2 → s.c z = spotsC L z) ?_ ?_
  rotate_left
  · rintro hok r h1 n1 ⟨rfl, hn, hx, s, hs, s1, s2, s3, s4⟩
    exact ⟨_, (n, spsS L) :: h, n + 1, by omega, by simp only [ren_nil], by simp [SV.lt], impH.cons0 hs (by omega) (SegLe.flat (by simp [s1, spsS]) (fun _ => s2) (.inr s3.symm) fun z hz => ⟨s4 z hz, spotsC_flat _ _⟩) (impH.base0 hok (by omega) hx), hK⟩
  rcases hA with ⟨rfl, rfl⟩ | ⟨i, cap, s, rfl, hi, hs, hL⟩
  · refine callE_of_T (P := Tryz.prog) hti (nt := 23) (rs := [.tmp 2]) rfl rfl Tryz.call9 Tryz.func9 rfl _ (by simp only [go_sem, and_self]) (Nat.le_of_ble_eq_true rfl) _ fun hok => ?_
    simp only [go_sem, Nat.reduceLT, Nat.reduceLeDiff, Nat.reduceMul, Int.reduceToNat, Int.reduceLE]
    refine T_unroll 0 ?_
    simp only [go_sem, Nat.reduceLT, Int.reduceLT, HExt_cons, Option.some.injEq, exists_eq_left']
    intro z hz
    omega
  · have hn := hL.1
    refine callE_of_T (P := Tryz.prog) hti (nt := 23) (rs := [.tmp 2]) rfl rfl Tryz.call9 Tryz.func9 rfl _ (by simp only [go_sem, and_self]) (Nat.le_of_ble_eq_true rfl) _ fun hok => ?_
    simp only [go_sem, Nat.reduceLT, Nat.reduceLeDiff]
    refine ⟨by omega, ?_⟩
    refine T_lp (ι := { q : Nat // q ≤ L.length })
      (fun q => ([(0, .sl i 0 L.length cap), (3, .sl n 0 L.length L.length), (4, .int .i64 q.1)], (n, ⟨L.length * 2, fun z => if z < q.1 * 2 then spotsC L z else .int .i8 0, true, some (58, L.length * 2)⟩) :: h, n + 1)) (fun q => L.length - q.1) ⟨0, by omega⟩ ?_ ?_
    · refine Imp.id (by simp) ?_ ?_
      · simp only [go_sem, Nat.reduceLT]
        omega
      · refine impH.cons0 (hget_hit _ _ _) (by simp) (SegLe.flat (Nat.le_refl _) id (.inr rfl) fun z hz => ⟨?_, fl 0 z⟩) (impH.base0 hok (by simp) (HExt.rfl.cons (Nat.le_refl n)))
        exact zSpot 0 L z
    · rintro ⟨q, hq⟩
      simp only [go_sem, Nat.reduceLT, decide_eq_true_eq, decide_eq_false_iff_not]
      refine ⟨fun h1 => ?_, fun h1 => ?_⟩
      · have r1 : (0 : Int) ≤ q ∧ (q : Int) < L.length := ⟨by omega, by omega⟩
        have b1 : q * 2 ≤ s.n - 2 := by omega
        have b2 : q * 2 ≤ L.length * 2 - 2 := by omega
        have b3 : 2 ≤ s.n := by omega
        have b4 : 2 ≤ L.length * 2 := by omega
        have b5 : q * 2 + 2 ≤ L.length * 2 := by omega
        simp only [go_sem, Nat.reduceLT, hs, hi, r1, b1, b3, hL.x (j := q) (by omega), hL.y (j := q) (by omega)]
        refine ⟨by omega, (toSpot_Q _ _ _ _ _).A ?_⟩
        simp only [go_sem, Nat.reduceLT, r1, b5]
        refine ⟨⟨q + 1, by omega⟩, by show L.length - (q + 1) < L.length - q; omega, ?_⟩
        refine Imp.id (by simp) ?_ ?_
        · simp only [go_sem, Nat.reduceLT, w64 (n := (q : Int) + 1) (by omega), Int.natCast_add, Int.natCast_one]
          exact ⟨by omega, by omega⟩
        · refine impH.cons0 (hget_hit _ _ _) (by simp) (SegLe.flat (Nat.le_refl _) id (.inr rfl) fun z hz => ⟨?_, fl (q + 1) z⟩) (impH.base0 hok (by simp) (HExt.rfl.cons (Nat.le_refl n)))
          exact part_agg (C := spotsC L) (Z := fun _ => .int .i8 0) (sz := 2) (fun j hj => by
            rcases (by omega : j = 0 ∨ j = 1) with rfl | rfl
            · exact (spotsC_x L q).symm
            · exact (spotsC_y L q).symm) (by omega) hz
      · have hq' : q = L.length := by omega
        subst hq'
        simp only [go_sem, HExt_cons, Option.some.injEq, exists_eq_left']
        intro z hz
        rw [if_pos hz]
end
end Go.Proofs.YtfelopllfhcdpaaGreat.V

/- The law's brushes; lists of spots that are alike. -/
namespace Go.Proofs.YtfelopllfhcdpaaGreat.V
section
variable (cx : Cx) (h : List (Nat × Seg)) (n : Nat)
end
end Go.Proofs.YtfelopllfhcdpaaGreat.V

/- Dips of a brush: what is told, and the small functions of both codes. -/
namespace Go.Proofs.YtfelopllfhcdpaaGreat.V

/-- Numbers in a row. -/
def intsC (L : List Int) : Nat → SV := fun k => .int .i64 (L.getD k 0)
/-- A list of numbers that a call has made. -/
def IntsOut (h : List (Nat × Seg)) (lo n : Nat) (V : SV) (L : List Int) : Prop :=
  (V = .nils ∧ L = []) ∨ ∃ i cap s, V = .sl i 0 L.length cap ∧ lo ≤ i ∧ i < n ∧ hget h i = some s ∧ s.rw = true ∧ s.n = L.length ∧ ∀ k, k < L.length → s.c k = intsC L k

section
variable {cx : Cx} {h : List (Nat × Seg)} {n : Nat}
variable (cx) (h) (n)
variable (i : Nat) (S : Sh) (B : Br) (x y least : Int) (hs : hget h i = some (shS S)) (hi : i < n) (hR : ShR S) (hG : Good S) (hB : BrV B) (hx : 0 ≤ x) (hx8 : x < 8) (hy : 0 ≤ y) (hy8 : y < 8)
end
end Go.Proofs.YtfelopllfhcdpaaGreat.V

/- The law's lists of numbers: compared, marked, looked at again. -/
namespace Go.Proofs.YtfelopllfhcdpaaGreat.V
theorem IntsOut.ok {h : List (Nat × Seg)} {lo n : Nat} {V : SV} {L : List Int} (hA : IntsOut h lo n V L) : V.ok = True := by
  rcases hA with ⟨rfl, rfl⟩ | ⟨i, cap, s, rfl, _⟩ <;> rfl
theorem IntsOut.lt {h : List (Nat × Seg)} {lo n : Nat} {V : SV} {L : List Int} (hA : IntsOut h lo n V L) : V.lt n := by
  rcases hA with ⟨rfl, rfl⟩ | ⟨i, cap, s, rfl, h1, h2, _⟩
  · trivial
  · exact h2
theorem IntsOut.mono {h h' : List (Nat × Seg)} {lo n n' : Nat} {V : SV} {L : List Int} (hA : IntsOut h lo n V L) (hn : n ≤ n') (hx : ∀ i, lo ≤ i → i < n → ∀ t, hget h i = some t → hget h' i = some t) : IntsOut h' lo n' V L := by
  rcases hA with h1 | ⟨i, cap, s, rfl, h1, h2, h3, h4⟩
  · exact .inl h1
  · exact .inr ⟨i, cap, s, rfl, h1, by omega, hx i h1 h2 s h3, h4⟩
theorem IntsOut.ext {h h' : List (Nat × Seg)} {lo n n' : Nat} {V : SV} {L : List Int} (hA : IntsOut h lo n V L) (hn : n ≤ n') (hx : HExt n h h') : IntsOut h' lo n' V L := hA.mono hn fun i _ hi => hx i hi
/-- Numbers that were marked. -/
def IntsHeld (h : List (Nat × Seg)) (lo n : Nat) (V : SV) (len : Nat) : Prop :=
  (V = .nils ∧ len = 0) ∨ ∃ i cap s, V = .sl i 0 len cap ∧ lo ≤ i ∧ i < n ∧ hget h i = some s ∧ s.n = len ∧ ∀ k, k < len → s.c k = .int .i64 (k + 1)
theorem IntsHeld.ext {h h' : List (Nat × Seg)} {lo n n' : Nat} {V : SV} {len : Nat} (hA : IntsHeld h lo n V len) (hn : n ≤ n') (hx : HExt n h h') : IntsHeld h' lo n' V len := by
  rcases hA with h1 | ⟨i, cap, s, rfl, h1, h2, h3, h4⟩
  · exact .inl h1
  · exact .inr ⟨i, cap, s, rfl, h1, by omega, hx i h2 s h3, h4⟩
/-- Memory that is as it was but for one segment. -/
def HSame (j : Nat) (h h' : List (Nat × Seg)) : Prop := ∀ i, i ≠ j → hget h' i = hget h i
theorem HSame.ext {j m n : Nat} {h0 h h' : List (Nat × Seg)} (hs : HSame j h h') (hx : HExt m h0 h) (hj : m ≤ j) : HExt m h0 h' := fun i hi t ht => by
  rw [hs i (by omega)]; exact hx i hi t ht
section
variable (cx : Cx) (h : List (Nat × Seg)) (n : Nat)
theorem markSpotS_E (i cap : Nat) (L : List (Int × Int)) (s : Seg) (hs : hget h i = some s) (hi : i < n) (hrw : s.rw = true) (hL : SpsAt s L) (hfl0 : ∀ k, k < s.n → (s.c k).flat) (hm9 : L.length ≤ 1000000000) (K : HK)
    (hK : ∀ h', HOk n h' → HSame i h h' → K (.int .i64 (2 * L.length + 1)) h' n) :
    CallE Tryz.prog cx 12 [.sl i 0 L.length cap, .int .i64 1] h n K := by
  refine CallE.hokE ?_
  have hn := hL.1
  refine callE_of_T (P := Tryz.prog) hti (nt := 29) (rs := [.tmp 4]) rfl rfl Tryz.call12 Tryz.func12 rfl _ (by simp only [go_sem, and_self]) (Nat.le_of_ble_eq_true rfl) _ fun hok => ?_
  simp only [go_sem, Nat.reduceLT]
  refine T_lp (ι := { w : Nat × (Nat → SV) // w.1 ≤ L.length ∧ (∀ k, k < s.n → (w.2 k).flat) })
    (fun w => ([(0, .sl i 0 L.length cap), (1, .int .i64 (2 * w.1.1 + 1)), (5, .int .i64 w.1.1)], hset h i ⟨s.n, w.1.2, true, s.own⟩, n)) (fun w => L.length - w.1.1) ⟨(0, s.c), by simp, hfl0⟩ ?_ ?_
  · refine Imp.id (by simp) ?_ ?_
    · simp only [go_sem, Nat.reduceLT, Int.reduceAdd, Int.reduceMul]
      exact hi
    · have e : hset h i ⟨s.n, s.c, true, s.own⟩ = hset h i s := by rw [← hrw]
      rw [e]
      exact impH.set0 hok (Nat.le_refl _) hs (fun j hj hji t ht => ht) hs (SegLe.flat (Nat.le_refl _) id (.inr rfl) fun k hk => ⟨rfl, hfl0 k hk⟩)
  · rintro ⟨⟨q, c⟩, hq, hfl⟩
    simp only at hq hfl
    simp only [go_sem, Nat.reduceLT, reduceCtorEq, decide_eq_true_eq, decide_eq_false_iff_not]
    refine ⟨fun h1 => ?_, fun h1 => ?_⟩
    · have r1 : (0 : Int) ≤ q ∧ (q : Int) < L.length := ⟨by omega, by omega⟩
      have b1 : q * 2 ≤ s.n - 2 := by omega
      have b2 : q * 2 ≤ s.n - 1 := by omega
      have b3 : q * 2 + 1 ≤ s.n - 1 := by omega
      have b4 : q * 2 + 2 ≤ s.n := by omega
      have b5 : 2 ≤ s.n := by omega
      have b6 : 1 ≤ s.n := by omega
      have hg : ∀ c, hget (hset h i ⟨s.n, c, true, s.own⟩) i = some ⟨s.n, c, true, s.own⟩ := fun c => hget_hset_self hs _
      simp only [go_sem, Nat.reduceLT, reduceIte, reduceCtorEq, hg, hi, r1, b1, b2, b3, b4, b5, b6, w64 (n := 2 * (q : Int) + 1 + 1) (by omega)]
      have hf1 := wr_flat (N := s.n) (o := q * 2) (v := .int .i8 (IntKind.i8.wrap (2 * (q : Int) + 1))) trivial hfl
      have hf2 : ∀ k, k < s.n → ((upd (if q * 2 = 0 ∧ 1 = s.n then cl [.int .i8 (IntKind.i8.wrap (2 * (q : Int) + 1))] else upd c (q * 2) (.int .i8 (IntKind.i8.wrap (2 * (q : Int) + 1)))) (q * 2 + 1) (.int .i8 (IntKind.i8.wrap (2 * (q : Int) + 1 + 1)))) k).flat := fun k hk => by
        unfold upd; split
        · trivial
        · exact hf1 k hk
      refine ⟨by omega, ⟨(q + 1, _), by show q + 1 ≤ L.length; omega, hf2⟩, by show L.length - (q + 1) < L.length - q; omega, ?_⟩
      refine Imp.id (by simp) ?_ (impH.base0 (hok_set hok hf2) (by simp) HExt.rfl)
      simp only [go_sem, Nat.reduceLT, w64 (n := (q : Int) + 1) (by omega), w64 (n := 2 * (q : Int) + 1 + 1 + 1) (by omega), Int.natCast_add, Int.natCast_one]
      exact ⟨hi, by rw [show (2 * (q : Int) + 1 + 1 + 1) = 2 * ((q : Int) + 1) + 1 by omega]⟩
    · have hq' : q = L.length := by omega
      subst hq'
      exact fun hok' => hK _ hok' (fun j hj => by rw [hget_hset, if_neg (fun e => hj e.symm)])
end
end Go.Proofs.YtfelopllfhcdpaaGreat.V
